/- FnKeys returns true for every input, on the conditions that the row itself states, and on no other (part 'EvFun') -/
import Derived.Test.YtbkgalecdbmkaaaEvWp

namespace Go.Ev
open Go
set_option linter.unusedVariables false
set_option linter.unusedSimpArgs false

section
variable {c : Ctx} {x : X c} {P : Program} {N : Ent} {G : Nat → Value} {O : Nat → Nat → Prop} {σ σ' : S} {a : Act} {w : World} {u : List Upd} {l : List Loc}
variable {Q : Exit → Act → World → Prop}

/-- a result -/
def rdRes (ts : Array Value) : ResultVar → Sem Value
  | .tmp t => pure (ts.getD t undef)
  | .cell a t => do loadVar t (← asAddr (ts.getD a undef))
theorem res_run (ty : ∀ t, TyOk P c.ti t) {ts : Array Value} (R : Rel N G O σ ts w.heap) : (rv : List ResultVar) → rv.all (resOk σ c.ti) = true →
    ∃ ys, vlsRl (env N G O σ w.heap) (rv.map (resV σ c.ti)) ys ∧
      (rv.mapM (rdRes ts)).run P w = .ok ys w
  | [], _ => ⟨[], by simp [vlsRl], by simp⟩
  | r :: rv, h => by
    simp only [List.all_cons, Bool.and_eq_true] at h
    obtain ⟨ys, h1, h2⟩ := res_run ty R rv h.2
    have h0 := h.1
    cases r with
    | tmp t =>
      refine ⟨ts.getD t undef :: ys, ?_, ?_⟩
      · simp only [List.map_cons, vlsRl]; exact ⟨_, _, rfl, R.get t, h1⟩
      · rw [List.mapM_cons]
        simp only [Sem.run_bind, rdRes, Sem.run_pure, Result.andThen_ok, h2]
    | cell ad t =>
      simp only [resOk, Bool.and_eq_true] at h0
      obtain ⟨hk, h0⟩ := h0
      split at h0
      · rename_i n off hg
        split at h0
        · rename_i ro cs hl
          have hle := Nat.le_of_ble_eq_true h0
          have hp := R.get ad
          rw [hg] at hp
          simp only [Vl.rl, Lf.rl] at hp
          obtain ⟨_, b, o, e1, e2⟩ := hp
          obtain ⟨_, b', o', C, T, fr, f1, f2, f3, f4, f5⟩ := R.hp n _ hl
          rw [show (env N G O σ w.heap).G n = G n from rfl] at e1 f1
          rw [e1] at f1; cases f1
          obtain ⟨vs, g1, g2, g3⟩ := box_cells (E := env N G O σ w.heap) f2 f3 f5 (off := off) (n := roww (c.ti t).row) hle
          obtain ⟨y, hr, hy⟩ := run_loadVar' (w := w) ty hk g1 g2
          refine ⟨y :: ys, ?_, ?_⟩
          · simp only [List.map_cons, vlsRl]
            refine ⟨_, _, rfl, ?_, h1⟩
            simp only [resV, hg, hl, part]
            exact hy _ _ g3
          · rw [List.mapM_cons]
            simp only [Sem.run_bind, rdRes, e2, asAddr, Sem.run_pure, Result.andThen_ok, hr, h2]
        · cases h0
      · cases h0

theorem results_run (ty : ∀ t, TyOk P c.ti t) {fn : Func} {ts : Array Value} (R : Rel N G O σ ts w.heap) (h : fn.results.toList.all (resOk σ c.ti) = true) :
    ∃ ys, vlsRl (env N G O σ w.heap) (fn.results.toList.map (resV σ c.ti)) ys ∧ (results fn ts).run P w = .ok (packV ys) w := by
  obtain ⟨ys, h1, h2⟩ := res_run ty R _ h
  refine ⟨ys, h1, ?_⟩
  have e : results fn ts = (do let vs ← fn.results.mapM (rdRes ts); pure (if h : vs.size = 1 then vs[0] else .tuple vs)) := rfl
  rw [e, Array.mapM_eq_mapM_toList]
  simp only [Sem.run_bind, Sem.run_map, h2, Result.andThen_ok, Sem.run_pure]
  cases ys with
  | nil => rfl
  | cons y r => cases r <;> rfl

theorem enter_run {f : FuncId} {fn : Func} {cd : Code} (hf : P.funcs[f]? = some fn) (hname : (fn.name == "runtime.NumGoroutine") = false) (hb : fn.body = some cd) (args : Array Value) (w : World) :
    (callFunc f args).run P w = .ok (.enter f args) w := by
  have h1 : fn.name ≠ "runtime.NumGoroutine" := by simpa using hname
  simp [callFunc, hf, h1, hb]

/-- arguments, and room behind them -/
theorem Rel.more {ts : Array Value} {h : Heap} (R : Rel N G O σ ts h) (us : Array Value) : Rel N G O σ (ts ++ us) h := by
  refine ⟨fun t v hl => ?_, R.hp, R.own, R.inj, R.wr, R.kp, R.fx⟩
  obtain ⟨h1, h2⟩ := R.tm t v hl
  refine ⟨by simp; omega, ?_⟩
  have : (ts ++ us).getD t undef = ts.getD t undef := by
    simp only [Array.getD_eq_getD_getElem?, Array.getElem?_append, h1, if_true]
  rw [this]; exact h2

theorem look_of_mem' {α : Type} {m : Nat} {b : α} : {l : List (Nat × α)} → dis (l.map (·.1)) = true → (m, b) ∈ l → look m l = some b
  | [], _, h => by simp at h
  | (n, b') :: r, hd, h => by
    simp only [List.map_cons, dis, Bool.and_eq_true, Bool.not_eq_true'] at hd
    rw [look_cons]
    rcases List.mem_cons.1 h with h | h
    · cases h; simp
    · split
      · rename_i he
        have : has n (r.map (·.1)) = true := has_mem.2 (by rw [he]; exact List.mem_map.2 ⟨_, h, rfl⟩)
        rw [hd.1] at this; cases this
      · exact look_of_mem' hd.2 h

/-- a function, by its text -/
theorem fun_ok (ty : ∀ t, TyOk P c.ti t) (FO : ∀ v, FnOk P (c.sig v) (x.callee v)) (hmix : P.follows .mixedOrders = true) {v : Nat}
    (hfn : ∀ b, (c.fn (c.sig v).f).body = some b → P.funcs[(c.sig v).f]? = some (c.fn (c.sig v).f) ∧ ((c.fn (c.sig v).f).name == "runtime.NumGoroutine") = false)
    (LO : ∀ b, (c.fn (c.sig v).f).body = some b → ∀ p ∈ loopsIn b, LoopWp P c x v (c.fn (c.sig v).f).ntmps p.1 p.2) : FnOk P (c.sig v) (evFun x v) := by
  intro d r h
  unfold evFun at h
  split at h
  · rename_i b hb
    obtain ⟨hf, hnm⟩ := hfn b hb
    split at h
    · rename_i hdis
      refine ⟨hdis, fun N G O args w hsz hN R => .inl ⟨enter_run hf hnm hb args w, ?_⟩⟩
      refine calls_of_wp hf hb (code_wp ty FO hmix b (LO b hb) h ?_ (R.more _) fun e σ' he => ?_)
      · simp; omega
      · intro G' O' a' w' R' hs hsz hdf
        have fin : (match (c.fn (c.sig v).f).results.toList.all (resOk σ' c.ti) with
            | true => outs c.ti (c.sig v) (c.fn (c.sig v).f).results.toList σ'
            | false => none) = some r → a'.defers = [] ∧ ∃ y, (results (c.fn (c.sig v).f) a'.tmps).run P w' = .ok y w' ∧
              ∃ y', Ending.returned y = .returned y' ∧ Same w w' ∧ ∀ t, retOk (c.sig v) t r = true → ∃ G1 O1, RetOk N G1 O1 (retS (c.sig v) t r) y' w'.heap := by
          intro he
          split at he
          · rename_i hall
            obtain ⟨ys, h1, h2⟩ := results_run ty R' hall
            exact ⟨hdf, _, h2, _, rfl, hs, fun t ht => outs_ret R' h1 he t ht⟩
          · cases he
        cases e with
        | normal => exact fin he
        | ret => exact fin he
        | exit id => cases he
    · cases h
  · cases h

/-- all is told rightly -/
structure Setup (P : Program) (c : Ctx) (prim : (v : Nat) → Option (rden (c.sig v).args → Option (rden (c.sig v).res))) : Prop where
  ty : ∀ t, TyOk P c.ti t
  mix : P.follows .mixedOrders = true
  fn : ∀ f b, (c.fn f).body = some b → P.funcs[f]? = some (c.fn f) ∧ ((c.fn f).name == "runtime.NumGoroutine") = false ∧ dis ((loopsIn b).map (·.1)) = true
  prim : ∀ v f, prim v = some f → FnOk P (c.sig v) f

theorem sound {prim : (v : Nat) → Option (rden (c.sig v).args → Option (rden (c.sig v).res))} (S : Setup P c prim) : (k : Nat) →
    (∀ v, FnOk P (c.sig v) ((evX c prim k).callee v)) ∧ ∀ v b, (c.fn (c.sig v).f).body = some b → ∀ p ∈ loopsIn b, LoopWp P c (evX c prim k) v (c.fn (c.sig v).f).ntmps p.1 p.2 := by
  intro k
  induction k using Nat.strongRecOn with
  | _ k ih =>
    refine ⟨fun v => ?_, fun v b hb p hp => ?_⟩
    · cases k with
      | zero => intro d r h; cases h
      | succ k =>
        obtain ⟨FO, LO⟩ := ih k (Nat.lt_succ_self k)
        cases hpr : prim v with
        | some f =>
          have : (evX c prim (k + 1)).callee v = f := by simp only [evX, hpr]
          rw [this]; exact S.prim v f hpr
        | none =>
          have : (evX c prim (k + 1)).callee v = evFun (evX c prim k) v := by simp only [evX, hpr]
          rw [this]
          exact fun_ok S.ty FO S.mix (fun b hb => ⟨(S.fn _ b hb).1, (S.fn _ b hb).2.1⟩) (fun b hb => LO v b hb)
    · obtain ⟨key, body⟩ := p
      intro N G O σ a w Q d r e0 σ0 hn hpk R hx hu hK
      have hlook : look key (loopsIn b) = some body := look_of_mem' (S.fn _ b hb).2.2 hp
      have sub : ∀ q ∈ loopsIn body, q ∈ loopsIn b := by
        have key2 : ∀ (cd : Code) (key : Nat) (body : Code), (key, body) ∈ loopsIn cd → ∀ q ∈ loopsIn body, q ∈ loopsIn cd := by
          intro cd
          induction cd with
          | seq p q ihp ihq =>
            intro key body h z hz
            simp only [loopsIn, List.mem_append] at h ⊢
            exact h.imp (fun h => ihp _ _ h z hz) (fun h => ihq _ _ h z hz)
          | cond t p q ihp ihq =>
            intro key body h z hz
            simp only [loopsIn, List.mem_append] at h ⊢
            exact h.imp (fun h => ihp _ _ h z hz) (fun h => ihq _ _ h z hz)
          | block id p ihp => intro key body h z hz; simp only [loopsIn] at h ⊢; exact ihp _ _ h z hz
          | loop p ihp =>
            intro key body h z hz
            simp only [loopsIn, List.mem_cons] at h ⊢
            rcases h with h | h
            · cases h; exact .inr hz
            · exact .inr (ihp _ _ h z hz)
          | _ => intro key body h; simp [loopsIn] at h
        exact key2 b key body hp
      refine wp_loop_ghost (fun n a' w' => n ≤ k ∧ ∃ d' σ' G' O', (evX c prim n).loop v key d' = some r ∧ pack (c.lp v key).1 σ' = some d' ∧ Rel N G' O' σ' a'.tmps w'.heap ∧ Same w w' ∧ a'.tmps.size = a.tmps.size ∧ a'.defers = a.defers) k
        ⟨Nat.le_refl _, d, σ, G, O, hx, hpk, R, .rfl', rfl, rfl⟩ ?_
      rintro n a' w' ⟨hnk, d', σ', G', O', hx', hpk', R', hs, h1, h2⟩
      cases n with
      | zero => cases hx'
      | succ m =>
        simp only [evX, hb, hlook] at hx'
        unfold evRound at hx'
        obtain ⟨hok, hx'⟩ := unQ_some hx'
        obtain ⟨G2, O2, R2⟩ := pack_rel R' hpk' hok
        obtain ⟨FO, LO⟩ := ih m (by omega)
        refine code_wp S.ty FO S.mix body (fun q hq => LO v b hb q (sub q hq)) hx' (by rw [h1]; exact hn) R2 fun e σ3 he => ?_
        have other : ∀ e, packE (c.lp v key).2 e σ3 = some r → Owe N σ3 a' w' (Q e.ex) := fun e he => Owe.packedE (q := fun e => Q e.ex) he hu (hK.later hs h1 h2)
        cases e with
        | normal =>
          obtain ⟨d3, h3, h4⟩ := Option.bind_eq_some_iff.1 he
          intro G4 O4 a4 w4 R4 hs4 g1 g2
          exact ⟨m, Nat.lt_succ_self m, by omega, d3, σ3, G4, O4, h4, h3, R4, hs.trans hs4, g1.trans h1, g2.trans h2⟩
        | exit id => exact other _ he
        | ret => exact other _ he
end
end Go.Ev

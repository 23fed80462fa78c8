/- FnKeys returns true for every input, on the conditions that the row itself states, and on no other (part 'EvPrim2') -/
import Derived.Test.YtbkgalecdbmkaaaEvPrim
import Derived.Lib.BufferMore

namespace Go.Ev
open Go Go.Proofs
set_option linter.unusedVariables false
set_option linter.unusedSimpArgs false

section
variable {c : Ctx} {x : X c} {P : Program} {N : Ent} {G : Nat → Value} {O : Nat → Nat → Prop} {σ σ' : S} {a : Act} {w : World}
variable {Q : Exit → Act → World → Prop}

theorem region_one {id : Nat} {o : Oper} (hg : o.guard = none) {y : Value} (hr : (execOp a.eval o).run P w = .ok (.value y) w) (h : Q .normal (a.put o.dst y) w) : (Code.region id #[o] false).wp P Q a w :=
  wp_region_list (wpList_plain hg fun K hK => wp_of_run hr (hK _ _ (wpList_nil h)))
theorem region_two {id : Nat} {o o2 : Oper} (hg : o.guard = none) (hg2 : o2.guard = none) {y y2 : Value} (hr : (execOp a.eval o).run P w = .ok (.value y) w)
    (hr2 : (execOp (a.put o.dst y).eval o2).run P w = .ok (.value y2) w) (h : Q .normal ((a.put o.dst y).put o2.dst y2) w) : (Code.region id #[o, o2] false).wp P Q a w :=
  wp_region_list (wpList_plain hg fun K hK => wp_of_run hr (hK _ _ (wpList_plain hg2 fun K hK => wp_of_run hr2 (hK _ _ (wpList_nil h)))))
/-- a temporary of which nothing is told -/
theorem Rel.other {ts : Array Value} {h : Heap} (R : Rel N G O σ ts h) {t : Nat} {v : Value} (ht : look t σ.tm = none) : Rel N G O σ (ts.setIfInBounds t v) h := by
  refine ⟨fun t' v' hl => ?_, R.hp, R.own, R.inj, R.wr, R.kp, R.fx⟩
  obtain ⟨h1, h2⟩ := R.tm t' v' hl
  refine ⟨by simpa using h1, ?_⟩
  have hne : t ≠ t' := by intro e; subst e; rw [ht] at hl; cases hl
  have : (ts.setIfInBounds t v).getD t' undef = ts.getD t' undef := by
    simp only [Array.getD_eq_getD_getElem?, Array.getElem?_setIfInBounds, hne, if_false]
  rw [this]; exact h2
end

def cloneF (e : Row) (bytes : Nat) (xs : List (rden e)) : Option (List (rden e)) := if xs.length < limOf bytes then some xs else none
def cloneSig (f : Nat) (e : Row) : Sig := { f := f, ps := [.val false [.sl e] [.s]], rs := [.val false [.sl e] [.o]] }

theorem args1 {args : Array Value} (h : args.size = 1) : ∃ a, args = #[a] := by
  obtain ⟨l⟩ := args
  match l, h with
  | [a], _ => exact ⟨a, rfl⟩

/-- the text of slices.Clone: nil's answer is nil; else what 'rest' answers -/
theorem clone_ok {c : Ctx} {x : X c} {P : Program} (ty : ∀ t, TyOk P c.ti t) (FO : ∀ v, FnOk P (c.sig v) (x.callee v)) (hmix : P.follows .mixedOrders = true) {v f : Nat} {fn : Func} (hf : P.funcs[f]? = some fn) (hnm : (fn.name == "runtime.NumGoroutine") = false)
    {i0 i1 i2 : Nat} {o0 o1 o2 o3 : Oper} {rest : Code} {ts et : TypeId}
    (hb : fn.body = some (.seq (.region i0 #[o0] false) (.seq (.seq (.region i1 #[o1, o2] false) (.cond (.tmp 4) (.seq (.region i2 #[o3] false) .ret) .skip)) rest)))
    (hnt : fn.ntmps = 8) (hres : fn.results = #[.tmp 2]) (g0 : o0.guard = none ∧ o0.dst = some 2 ∧ o0.op = .assign (.const (.slice none 0 0))) (g1 : o1.guard = none ∧ o1.dst = some 3 ∧ o1.op = .move (.tmp 0))
    (g2 : o2.guard = none ∧ o2.dst = some 4 ∧ o2.op = .binOp .eql ts (.tmp 3) (.const (.slice none 0 0)) ts) (g3 : o3.guard = none ∧ o3.dst = some 2 ∧ o3.op = .assign (.const (.slice none 0 0)))
    (hu : P.underlying ts = some (.slice et)) {e : Row} {by_ : Nat} (hfl : rflat e = true) (hpos : 0 < limOf by_) (hlp : loopsIn rest = [])
    (hev : ∀ xs : List (rden e), cloneF e by_ xs = some xs → evCode x v 8 rest (fun e' σ => match e' with
      | .exit _ => none
      | _ => match [ResultVar.tmp 2].all (resOk σ c.ti) with
        | true => outs c.ti (cloneSig f e) [.tmp 2] σ
        | false => none) (start (cloneSig f e) xs) = some xs) : FnOk P (cloneSig f e) (cloneF e by_) := by
  intro xs r h
  have hr : r = xs ∧ xs.length < limOf by_ := by
    unfold cloneF at h
    split at h
    · rename_i hc; cases h; exact ⟨rfl, hc⟩
    · cases h
  obtain ⟨rfl, hlim⟩ := hr
  refine ⟨rfl, fun N G O args w hsz hN R => .inl ⟨enter_run hf hnm hb args w, calls_of_wp hf hb ?_⟩⟩
  obtain ⟨a0, a1, a2⟩ := g0
  obtain ⟨b0, b1, b2⟩ := g1
  obtain ⟨c0, c1, c2⟩ := g2
  obtain ⟨d0, d1, d2⟩ := g3
  obtain ⟨v0, rfl⟩ := args1 hsz
  have t0 := (R.tm 0 _ rfl).2
  have t0 : (Vl.one (.sh e r)).rl (env N G O (start (cloneSig f e) r) w.heap) ((#[v0] : Array Value).getD 0 undef) := t0
  simp only [Vl.rl, Lf.rl] at t0
  obtain ⟨p, cap, e0, hle, hel⟩ := t0
  have e0 : v0 = .slice p r.length cap := e0
  subst e0
  have hR := R.more (Array.replicate (fn.ntmps - 1) undef)
  rw [hnt] at hR ⊢
  refine wp_seq (region_one a0 (y := .slice none 0 0) (by simp [execOp, a2, Act.eval]) ?_)
  rw [a1]
  refine wp_seq (wp_seq (region_two b0 c0 (y := .slice p r.length cap) (y2 := .bool p.isNone) ?_ ?_ ?_))
  · simp [execOp, b2, Act.eval, Act.put]
  · rw [b1]
    simp only [execOp, c2]
    cases p with
    | none => simp [Act.eval, Act.put, eqGuard, Lib.run_eql_slice_nil_nil w _ _ hu]
    | some ad => simp [Act.eval, Act.put, eqGuard, Lib.run_eql_slice_some_nil w _ _ _ hu]
  · rw [b1, c1]
    refine wp_cond (t := p.isNone) (by simp [Act.eval, Act.put]) ?_
    cases p with
    | none =>
      refine wp_seq (region_one d0 (y := .slice none 0 0) (by simp [execOp, d2, Act.eval]) (wp_ret ?_))
      rw [d1]
      have h0 : r = [] := by
        cases r with
        | nil => rfl
        | cons y q => obtain ⟨b, o, h, _⟩ := hel 0 (by simp); cases h
      subst h0
      refine ⟨rfl, .slice none 0 0, ?_, _, rfl, .rfl', fun t ht => ?_⟩
      · simp [results, hres, Act.put]
      · refine own_ret (e := e) (xs := []) (m := nm t 0) rfl ?_ hfl (Nat.zero_le _) (by rw [hN]; exact Kp.refl _ _) (.inl rfl)
        simp only [retOk, Bool.and_eq_true, show (retS (cloneSig f e) t []).us = [nm t 0] from rfl, List.all_cons] at ht
        exact ht.2.1
    | some ad =>
      refine wp_skip ?_
      refine code_wp ty FO hmix rest (by rw [hlp]; intro p hp; cases hp) (hev r h) ?_ (((hR.other (t := 2) rfl).other (t := 3) rfl).other (t := 4) rfl) fun e' σ' he => ?_
      · simp [Act.put]
      · intro G' O' a' w' R' hs hsz hdf
        have fin : (match [ResultVar.tmp 2].all (resOk σ' c.ti) with
            | true => outs c.ti (cloneSig f e) [.tmp 2] σ'
            | false => none) = some r → a'.defers = [] ∧ ∃ y, (results fn a'.tmps).run P w' = .ok y w' ∧
              ∃ y', Ending.returned y = .returned y' ∧ Same w w' ∧ ∀ t, retOk (cloneSig f e) t r = true → ∃ G1 O1, RetOk N G1 O1 (retS (cloneSig f e) t r) y' w'.heap := by
          intro he
          split at he
          · rename_i hall
            obtain ⟨ys, h1, h2⟩ := results_run (fn := fn) ty R' (by rw [hres]; exact hall)
            exact ⟨hdf, _, h2, _, rfl, hs, fun t ht => outs_ret R' h1 (by rw [hres]; exact he) t ht⟩
          · cases he
        cases e' with
        | normal => exact fin he
        | ret => exact fin he
        | exit id => cases he
end Go.Ev

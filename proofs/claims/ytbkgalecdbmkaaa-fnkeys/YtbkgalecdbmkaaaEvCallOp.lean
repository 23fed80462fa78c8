/- FnKeys returns true for every input, on the conditions that the row itself states, and on no other (part 'EvCallOp') -/
import Derived.Test.YtbkgalecdbmkaaaEvCall

namespace Go.Ev
open Go
set_option linter.unusedVariables false
set_option linter.unusedSimpArgs false

/-- a function, called from a region, answers so -/
def Does (P : Program) (f : FuncId) (args : Array Value) (w : World) (R : Value → World → Prop) : Prop :=
  ((callFunc f args).run P w = .ok (.enter f args) w ∧ Calls P f args w fun e w' => ∃ y, e = .returned y ∧ R y w') ∨
  ∃ y w', (callFunc f args).run P w = .ok (.value y) w' ∧ R y w'

/-- a function does what is told of it -/
def FnOk (P : Program) (s : Sig) (f : rden s.args → Option (rden s.res)) : Prop :=
  ∀ d r, f d = some r → dis (nms (start s d).hp) = true ∧ ∀ (N : Ent) (G : Nat → Value) (O : Nat → Nat → Prop) (args : Array Value) (w : World), args.size = s.ps.length → N.h0 = w.heap → Rel N G O (start s d) args w.heap →
    Does P s.f args w fun y w' => Same w w' ∧ ∀ t, retOk s t r = true → ∃ G1 O1, RetOk N G1 O1 (retS s t r) y w'.heap

section
variable {c : Ctx} {x : X c} {P : Program} {N : Ent} {G : Nat → Value} {O : Nat → Nat → Prop} {σ : S} {a : Act} {w : World} {u : List Upd} {l : List Loc}
variable {next : Act → World → Prop} {Q : Exit → Act → World → Prop}

theorem opds_go (R : Rel N G O σ a.tmps w.heap) : (ts : List Nat) → (os : List Operand) → {k : List Vl → RQ c} → {l : List Loc} → (opdsQ ts os k).Go x σ u l →
    ∃ vs l', (k vs).Go x σ u l' ∧ vlsRl (env N G O σ w.heap) vs (os.map a.eval)
  | ts, [], k, l, h => ⟨[], l, by cases ts <;> simpa only [opdsQ] using h, by simp [vlsRl]⟩
  | [], o :: r, k, l, h => by simp only [opdsQ, RQ.Go] at h
  | t :: ts, o :: r, k, l, h => by
    simp only [opdsQ] at h
    obtain ⟨v, l1, h, hv⟩ := opd_go R h
    obtain ⟨vs, l2, h, hvs⟩ := opds_go R ts r h
    exact ⟨v :: vs, l2, h, by simp only [List.map_cons, vlsRl]; exact ⟨_, _, rfl, hv, hvs⟩⟩
theorem vls_app {E : Env} : {vs us : List Vl} → {ys zs : List Value} → vlsRl E vs ys → vlsRl E us zs → vlsRl E (vs ++ us) (ys ++ zs)
  | [], us, ys, zs, h, h' => by simp only [vlsRl] at h; subst h; simpa using h'
  | v :: r, us, ys, zs, h, h' => by
    simp only [vlsRl] at h
    obtain ⟨y, ys', rfl, hv, hr⟩ := h
    simp only [List.cons_append, vlsRl]
    exact ⟨y, ys' ++ zs, rfl, hv, vls_app hr h'⟩
theorem uses_go : (ns : List Nat) → {k : RQ c} → {l : List Loc} → (usesQ ns k).Go x σ u l → ∃ l', k.Go x σ u l' ∧ ∀ n ∈ ns, has n σ.us = false
  | [], k, l, h => ⟨l, h, by simp⟩
  | n :: r, k, l, h => by
    obtain ⟨l', rfl, h1, h2, h3⟩ := h
    obtain ⟨l'', h4, h5⟩ := uses_go r h3
    refine ⟨l'', h4, fun m hm => ?_⟩
    rcases List.mem_cons.1 hm with rfl | hm
    · exact h1
    · exact h5 m hm

theorem wp_call (FO : ∀ v, FnOk P (c.sig v) (x.callee v)) (R : Rel N G O σ a.tmps w.heap) {o : Oper} {f : Operand} {as : Array Operand} {ts : Array TypeId} (ho : o.op = .call { callee := .value f, args := as, argTypes := ts })
    (hd : ∀ d, o.dst = some d → d < a.tmps.size) (hg : (opQ (c := c) o).Go x σ u l) (hK : After N σ u a w next) : o.wp P a w next Q := by
  simp only [opQ, ho] at hg
  obtain ⟨q, l1, hg, hq⟩ := opd_go R hg
  split at hg
  · rename_i g caps
    obtain ⟨vs, l2, hg, hvs⟩ := opds_go R _ _ hg
    simp only [Vl.rl, Lf.rl] at hq
    obtain ⟨us, hf, hc⟩ := hq
    have hargs := vls_app hvs (caps_vls caps _ hc)
    have hexe : (execOp a.eval o).run P w = (callFunc g ((as.map a.eval) ++ us)).run P w := by
      have hm : Array.map a.eval as = (as.map a.eval) := rfl
      simp [execOp, ho, resolve, hf, Deferred.ofValue, invoke]
    have hys : as.toList.map a.eval ++ us.toList = ((as.map a.eval) ++ us).toList := by simp
    rw [hys] at hargs
    generalize (as.map a.eval) ++ us = ys at *
    unfold callQ at hg
    dsimp only at hg
    generalize c.virt g (fnsOf (vs ++ caps.map fun x => Vl.of x.1 x.2)) = v at hg
    obtain ⟨hb, hg⟩ := hg
    have hb := Nat.eq_of_beq_eq_true hb
    obtain ⟨its, ls', d, bk, ids, l3, j', hg, A, hr⟩ := argsQ_go R _ _ hargs hg
    simp only [List.nil_append] at hg
    obtain ⟨hfit, hg⟩ := hg
    split at hg
    · rename_i dd hdd
      obtain ⟨r, hcal, hg⟩ := hg
      obtain ⟨hok, hg⟩ := hg
      simp only [Bool.and_eq_true] at hok
      obtain ⟨hok, hss⟩ := hok
      obtain ⟨hdis, hdoes⟩ := FO v dd r hcal
      obtain ⟨R0, hhp, M, hsz⟩ := start_rel R A hr hdd hfit hdis
      have hD := hdoes _ _ _ ys w (by simpa using hsz) rfl (by simpa using R0)
      obtain ⟨ps, l4, hg, p1, p2⟩ := bkQ_go bk hg
      rw [List.nil_append] at hg
      obtain ⟨l5, hg, hnew⟩ := uses_go _ hg
      obtain ⟨rfl, _⟩ := hg
      have fin : ∀ y w', (Same w w' ∧ ∀ t, retOk (c.sig v) t r = true → ∃ G1 O1, RetOk (callN N O σ w.heap its) G1 O1 (retS (c.sig v) t r) y w'.heap) → next (a.put o.dst y) w' := by
        rintro y w' ⟨hsame, hret⟩
        obtain ⟨G1, O1, K⟩ := hret _ hok
        obtain ⟨G', O', R', hval⟩ := back_rel R A hfit M K hok hss p1 p2 hnew
        refine hK G' O' _ w' ?_ hsame (put_size _ _ _) (put_defers _ _ _)
        have e : ∀ z : List Upd, d ++ (newUps (news (retS (c.sig v) (o.dst.getD 0) r).hp) ++ (hpUps ps ++ z)) = (d ++ (newUps (news (retS (c.sig v) (o.dst.getD 0) r).hp) ++ hpUps ps)) ++ z := fun z => by simp only [List.append_assoc]
        rw [e, upds_app]
        cases hdst : o.dst with
        | none => rw [hdst] at R'; simpa only [S.upds, Act.put] using R'
        | some t =>
          rw [hdst] at R' hval
          simp only [Option.getD_some] at R' hval ⊢
          simp only [S.upds, put_tmps]
          refine R'.put (hd t hdst) ?_
          refine hval _ ?_
          simp only [retS]
      unfold Oper.wp
      rw [hexe]
      rcases hD with ⟨h1, h2⟩ | ⟨y, w', h1, h2⟩
      · rw [hb] at h1 h2
        rw [h1, Oper.upon_enter]
        refine h2.mono ?_
        rintro e w' ⟨y, rfl, hy⟩
        exact fin y w' hy
      · rw [hb] at h1
        rw [h1, Oper.upon_value]
        exact fin y w' h2
    · cases hg
  · cases hg
end
end Go.Ev

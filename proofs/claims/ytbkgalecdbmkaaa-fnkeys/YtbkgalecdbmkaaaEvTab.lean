/- FnKeys returns true for every input, on the conditions that the row itself states, and on no other (part 'EvTab') -/
import Derived.Test.YtbkgalecdbmkaaaEvLim

namespace Go.Ev
open Go
set_option linter.unusedVariables false

inductive Tree (α : Type) where
  | leaf
  | node (l : Tree α) (k : Nat) (v : α) (r : Tree α)
def Tree.get {α : Type} : Tree α → Nat → Option α
  | .leaf, _ => none
  | .node l k v r, n => bif Nat.beq n k then some v else bif Nat.blt n k then l.get n else r.get n
def Tree.All {α : Type} (p : Nat → α → Prop) : Tree α → Prop
  | .leaf => True
  | .node l k v r => l.All p ∧ p k v ∧ r.All p
theorem Tree.get_all {α : Type} {p : Nat → α → Prop} : {t : Tree α} → {n : Nat} → {v : α} → t.All p → t.get n = some v → p n v
  | .leaf, n, v, _, h => by cases h
  | .node l k x r, n, v, ha, h => by
    simp only [Tree.get] at h
    cases hb : Nat.beq n k
    · rw [hb] at h
      simp only [cond_false] at h
      cases hl : Nat.blt n k
      · rw [hl] at h; exact Tree.get_all ha.2.2 h
      · rw [hl] at h; exact Tree.get_all ha.1 h
    · rw [hb] at h
      cases h
      rw [Nat.eq_of_beq_eq_true hb]; exact ha.2.1

theorem Tree.all_ty {P : Program} {T : Tree TI} {ti : Nat → TI} (h : ∀ n, ti n = match T.get n with | some x => x | none => TI.none) (ha : T.All fun n _ => TyOk P ti n) (t : Nat) : TyOk P ti t := by
  cases hg : T.get t with
  | none => exact tyok_none (by rw [h, hg])
  | some x => exact Tree.get_all ha hg

/-- what is asked of a function's text -/
def FnFact (P : Program) (n : Nat) (F : Func) : Prop := P.funcs[n]? = some F ∧ (F.name == "runtime.NumGoroutine") = false ∧ ∀ b, F.body = some b → dis ((loopsIn b).map (·.1)) = true
theorem fnok {P : Program} {n : Nat} {F : Func} (h1 : P.funcs[n]? = some F) (h2 : (F.name == "runtime.NumGoroutine") = false) (h3 : (match F.body with | some b => dis ((loopsIn b).map (·.1)) | none => true) = true) : FnFact P n F :=
  ⟨h1, h2, fun b hb => by rw [hb] at h3; exact h3⟩
theorem Tree.all_fn {P : Program} {T : Tree Func} {fn : Nat → Func} (h : ∀ n, fn n = match T.get n with | some x => x | none => { (default : Func) with body := none }) (ha : T.All (FnFact P)) (f : Nat) (b : Code) (hb : (fn f).body = some b) :
    P.funcs[f]? = some (fn f) ∧ ((fn f).name == "runtime.NumGoroutine") = false ∧ dis ((loopsIn b).map (·.1)) = true := by
  rw [h] at hb ⊢
  cases hg : T.get f with
  | none => rw [hg] at hb; cases hb
  | some x =>
    rw [hg] at hb
    obtain ⟨h1, h2, h3⟩ := Tree.get_all ha hg
    exact ⟨h1, h2, h3 b hb⟩

section
variable {c : Ctx} {prim : Prims c}
theorem lim_fun' (v : Nat) (d : rden (c.sig v).args) : (lim c prim).callee v d = (match prim v with
    | some f => f d
    | none => evFun (lim c prim) v d) := by
  cases h : prim v with
  | none => exact lim_fun h d
  | some f => exact lim_prim h d
theorem lim_round' (v key : Nat) (d : rden (c.lp v key).1.row) : (lim c prim).loop v key d = (match (c.fn (c.sig v).f).body with
    | some b => match look key (loopsIn b) with
      | some a => evRound (lim c prim) v (c.fn (c.sig v).f).ntmps key a d
      | none => none
    | none => none) := by
  cases hb : (c.fn (c.sig v).f).body with
  | none =>
    refine opt_ext fun r => ⟨fun h => ?_, fun h => by cases h⟩
    obtain ⟨k, hk⟩ := lim_loop.1 h
    cases k with
    | zero => cases hk
    | succ k =>
      rw [evX] at hk
      simp only [hb] at hk
      cases hk
  | some b =>
    cases ha : look key (loopsIn b) with
    | some a => simp only [ha]; exact lim_round hb ha d
    | none =>
      refine opt_ext fun r => ⟨fun h => ?_, fun h => by simp [ha] at h⟩
      obtain ⟨k, hk⟩ := lim_loop.1 h
      cases k with
      | zero => cases hk
      | succ k =>
        rw [evX] at hk
        simp only [hb, ha] at hk
        cases hk
end

/-- functions that are told, one by one -/
def Prims.none' (c : Ctx) : Prims c := fun _ => none
def Prims.one (c : Ctx) (v0 : Nat) (f : rden (c.sig v0).args → Option (rden (c.sig v0).res)) (rest : Prims c) : Prims c := fun v => if h : v0 = v then some (h ▸ f) else rest v
theorem Prims.none_ok {c : Ctx} {P : Program} : ∀ v f, Prims.none' c v = some f → FnOk P (c.sig v) f := fun v f h => by cases h
theorem Prims.one_ok {c : Ctx} {P : Program} {v0 : Nat} {f : rden (c.sig v0).args → Option (rden (c.sig v0).res)} {rest : Prims c} (hf : FnOk P (c.sig v0) f) (hr : ∀ v f, rest v = some f → FnOk P (c.sig v) f) :
    ∀ v f', Prims.one c v0 f rest v = some f' → FnOk P (c.sig v) f' := by
  intro v f' h
  unfold Prims.one at h
  split at h
  · rename_i he
    subst he
    cases h
    exact hf
  · exact hr v f' h
end Go.Ev

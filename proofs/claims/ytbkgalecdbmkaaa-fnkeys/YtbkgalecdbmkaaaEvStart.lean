/- FnKeys returns true for every input, on the conditions that the row itself states, and on no other (part 'EvStart') -/
import Derived.Test.YtbkgalecdbmkaaaFwb

namespace Go.Ev
open Go
set_option linter.unusedVariables false
set_option linter.unusedSimpArgs false

/-- what a called function may see and write -/
def callN (N : Ent) (O : Nat → Nat → Prop) (σ : S) (h : Heap) (its : List Itm) : Ent where
  h0 := h
  Al := fun k => (Vis N O σ.hp h k ∨ ∃ n x b, (n, x) ∈ its.flatMap Itm.all ∧ look n σ.hp = some b ∧ O n k) ∨ ∃ m b, look m (its.flatMap Itm.blks) = some b ∧ mvO O its m k
  Ow := fun k => ∃ m b, look m (its.flatMap Itm.blks) = some b ∧ mvO O its m k
  W := fun k o => ∃ m b, look m (its.flatMap Itm.blks) = some b ∧ mvO O its m k ∧ b.rng (mvG its m) o
  owAl := fun k hk => .inr hk
  fix := fun m => if low m = true then none else match look m (its.flatMap Itm.blks) with
    | some _ => some (mvG its m, mvO O its m)
    | none => none
  hi := fun m hm => if_pos hm

section
variable {N : Ent} {G : Nat → Value} {O : Nat → Nat → Prop} {σ : S} {ts : Array Value} {h : Heap}

theorem tms0_look {E : Env} : (vs : List Vl) → (ys : List Value) → (i : Nat) → vlsRl E vs ys → ∀ t v, look t (tms0 i vs) = some v → i ≤ t ∧ t - i < ys.length ∧ v.rl E (ys.toArray.getD (t - i) undef)
  | [], ys, i, hv, t, v, hl => by simp [tms0, look] at hl
  | a :: r, ys, i, hv, t, v, hl => by
    simp only [vlsRl] at hv
    obtain ⟨y, ys', rfl, hv, hr⟩ := hv
    simp only [tms0, look_cons] at hl
    split at hl
    · rename_i he; cases hl; subst he
      exact ⟨Nat.le_refl _, by simp, by simpa using hv⟩
    · obtain ⟨h1, h2, h3⟩ := tms0_look r ys' (i + 1) hr t v hl
      obtain ⟨q, rfl⟩ : ∃ q, t = i + 1 + q := ⟨t - (i + 1), by omega⟩
      have e1 : i + 1 + q - (i + 1) = q := by omega
      have e2 : i + 1 + q - i = q + 1 := by omega
      rw [e1] at h2 h3
      rw [e2]
      refine ⟨by omega, by simp; omega, ?_⟩
      simp only [Array.getD_eq_getD_getElem?, List.getElem?_toArray, List.getElem?_cons_succ] at h3 ⊢
      exact h3

theorem inPs_len : (ps : List PS) → (j : Nat) → (ls : List Lf) → (inPs j ps ls).1.length = ps.length
  | [], j, ls => rfl
  | p :: r, j, ls => by simp only [inPs, List.length_cons, inPs_len r]
theorem vls_len {E : Env} : {vs : List Vl} → {ys : List Value} → vlsRl E vs ys → vs.length = ys.length
  | [], ys, h => by simp only [vlsRl] at h; subst h; rfl
  | v :: r, ys, h => by
    simp only [vlsRl] at h
    obtain ⟨y, ys', rfl, _, hr⟩ := h
    simp [vls_len hr]

theorem start_rel (R : Rel N G O σ ts h) {ss : Bool} {its : List Itm} {d : List Upd} {bk : List Bk} {ids : List (Nat × Bool)} (A : Args N G O σ h ss its d bk ids) {s : Sig} {ls' : List Lf} {dd : rden s.args} {ys : List Value} {j' : Nat}
    (hr : ∀ rest, ∃ vs', inPs 0 s.ps (ls' ++ rest) = (vs', its.flatMap Itm.blks, j', rest) ∧ (∀ v ∈ vs', v.plain = true) ∧ ∀ E', Outs E' its → vlsRl E' vs' ys)
    (hd : rcol s.args ls' = some dd) (hfit : fitIds ids = true) (hdis : dis (nms (start s dd).hp) = true) :
    Rel (callN N O σ h its) (mvG its) (mvO O its) (start s dd) ys.toArray h ∧ (start s dd).hp = its.flatMap Itm.blks ∧ Moved N G O σ h its (nms (start s dd).hp) (Vis (callN N O σ h its) (mvO O its) (start s dd).hp h) ∧ ys.toArray.size = s.ps.length := by
  have he := rcol_exp _ _ hd
  obtain ⟨vs', e1, e2, e3⟩ := hr []
  rw [List.append_nil] at e1
  have hhp : (start s dd).hp = its.flatMap Itm.blks := by simp only [start, he, e1]
  have htm : (start s dd).tm = tms0 0 vs' := by simp only [start, he, e1]
  have hus : (start s dd).us = nms (start s dd).hp := by simp only [start]
  have hall := A.all
  have hmks : ∀ y ∈ its, ∀ k ∈ y.mks, has k.n (nms (start s dd).hp) = true := by
    intro y hy k hk
    obtain ⟨p1, _, _⟩ := its_made R its A.ok
    rw [hhp, p1]
    exact has_mem.2 (by simp only [nms, List.map_map]; exact List.mem_map.2 ⟨k, List.mem_flatMap.2 ⟨y, hy, hk⟩, rfl⟩)
  have inMks : ∀ (y : Itm), ∀ k ∈ y.mkl, k ∈ y.mks := by
    intro y k hk
    unfold Itm.mks; split
    · exact hk
    · exact List.mem_cons_of_mem _ hk
  have M := moved R A.ok (by rw [hall]; exact hfit) (by rw [← hhp]; exact hdis) (us' := nms (start s dd).hp) (V' := Vis (callN N O σ h its) (mvO O its) (start s dd).hp h)
    (fun y hy q hq k hk => hmks y hy k (inMks y k hk)) (fun k hk hv hn => ⟨.inl (.inl hv), hk, by rw [hhp]; exact hn⟩)
  have hvl : vlsRl (env (callN N O σ h its) (mvG its) (mvO O its) (start s dd) h) vs' ys := by
    refine e3 _ ⟨fun y hy => ?_, fun y hy q hq => ?_⟩
    · simp only [env, hus]; exact M.out y hy fun k hk => hmks y hy k (inMks y k hk)
    · obtain ⟨q1, q2, q3⟩ := M.bx y hy q hq
      refine ⟨?_, q2⟩
      simp only [env, hus]
      refine hmks y hy ⟨q.2.1, .box q.2.2 y.out, y.pv, some q.1⟩ ?_
      unfold Itm.mks; rw [hq]; exact List.mem_cons_self ..
  have hsz : ys.toArray.size = s.ps.length := by
    have h1 := inPs_len s.ps 0 ls'
    rw [e1] at h1
    have h2 := vls_len hvl
    simp only [List.size_toArray]
    exact h2.symm.trans h1
  refine ⟨⟨?_, ?_, ?_, ?_, ?_, Kp.refl _ _, ?_⟩, hhp, M, hsz⟩
  · intro t v hl
    rw [htm] at hl
    simpa using (tms0_look vs' ys 0 hvl t v hl).2
  · intro m b hl
    have hl' := hl
    rw [hhp] at hl
    refine ⟨by rw [hus]; exact look_has hl', ?_⟩
    have := M.blk m b hl
    simp only [env, hus]; exact this
  · intro m b k hl; rw [hhp] at hl; exact M.own m b k hl
  · intro n m b b' k hl hl'; rw [hhp] at hl hl'; exact M.inj n m b b' k hl hl'
  · intro n b k hl hO
    rw [hhp] at hl
    exact ⟨(M.src n b k hl hO).1, .inr ⟨⟨n, b, hl, hO⟩, fun o ho => ⟨n, b, hl, hO, ho⟩⟩⟩
  · intro m b v K hl hf
    rw [hhp] at hl
    simp only [callN] at hf
    split at hf
    · cases hf
    · rw [hl] at hf; cases hf
      exact ⟨rfl, fun k => Iff.rfl⟩
end
end Go.Ev

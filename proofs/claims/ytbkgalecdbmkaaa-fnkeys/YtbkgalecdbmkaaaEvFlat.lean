/- FnKeys returns true for every input, on the conditions that the row itself states, and on no other (part 'EvFlat') -/
import Derived.Test.YtbkgalecdbmkaaaEvBack

namespace Go.Ev
open Go
set_option linter.unusedVariables false
set_option linter.unusedSimpArgs false

/-! ### nothing is seen -/
def Env.blind (E : Env) : Env := { E with V := fun _ => False }
theorem Lf.flat_rl {E : Env} {l : Lf} {v : Value} (hf : l.flat = true) (h : l.rl E v) : l.rl E.blind v := by
  cases l <;> simp only [Lf.flat, Bool.false_eq_true] at hf <;> simpa only [Lf.rl, Env.blind] using h
theorem lfs_flat {E : Env} : {ls : List Lf} → {vs : List Value} → ls.all Lf.flat = true → lfsRl E ls vs → lfsRl E.blind ls vs
  | [], vs, _, h => by simpa only [lfsRl] using h
  | l :: r, vs, hf, h => by
    simp only [List.all_cons, Bool.and_eq_true] at hf
    simp only [lfsRl] at h ⊢
    obtain ⟨v, vs', e, h1, h2⟩ := h
    exact ⟨v, vs', e, Lf.flat_rl hf.1 h1, lfs_flat hf.2 h2⟩
mutual
theorem Vl.flat_rl {E : Env} : (v : Vl) → {y : Value} → v.flat = true → v.rl E y → v.rl E.blind y
  | .one l, y, hf, h => by simp only [Vl.flat] at hf; simp only [Vl.rl] at h ⊢; exact Lf.flat_rl hf h
  | .agg ls, y, hf, h => by
    simp only [Vl.flat] at hf; simp only [Vl.rl] at h ⊢
    obtain ⟨us, e, h⟩ := h; exact ⟨us, e, lfs_flat hf h⟩
  | .tup vs, y, hf, h => by
    simp only [Vl.flat] at hf; simp only [Vl.rl] at h ⊢
    obtain ⟨us, e, h⟩ := h; exact ⟨us, e, vls_flat vs hf h⟩
theorem vls_flat {E : Env} : (vs : List Vl) → {ys : List Value} → Vl.flats vs = true → vlsRl E vs ys → vlsRl E.blind vs ys
  | [], ys, hf, h => by simpa only [vlsRl] using h
  | v :: r, ys, hf, h => by
    simp only [Vl.flats, Bool.and_eq_true] at hf
    simp only [vlsRl] at h ⊢
    obtain ⟨y, ys', e, h1, h2⟩ := h
    exact ⟨y, ys', e, Vl.flat_rl v hf.1 h1, vls_flat r hf.2 h2⟩
end
theorem LTy.flat_rd {V V' : Nat → Prop} {h h' : Heap} : (t : LTy) → (x : t.den) → (c : Nat → Option Value) → t.flat = true → t.rd V h x c → t.rd V' h' x c
  | .i k, n, c, _, H => by simpa only [LTy.rd] using H
  | .bl, n, c, _, H => by simpa only [LTy.rd] using H
  | .st, n, c, _, H => by simpa only [LTy.rd] using H
  | .er, n, c, _, H => by simpa only [LTy.rd] using H
theorem row_flat {V V' : Nat → Prop} {h h' : Heap} : (r : Row) → (x : rden r) → (c : Nat → Option Value) → rflat r = true → rowRd V h r x c → rowRd V' h' r x c
  | [], _, _, _, _ => by simp [rowRd]
  | [a], x, c, hf, H => by
    simp only [rflat, Bool.and_eq_true] at hf
    simp only [rowRd] at H ⊢; exact LTy.flat_rd a x c hf.1 H
  | a :: d :: r, x, c, hf, H => by
    rw [rflat, Bool.and_eq_true] at hf
    simp only [rowRd] at H ⊢
    exact ⟨LTy.flat_rd a x.1 c hf.1 H.1, row_flat (d :: r) x.2 _ hf.2 H.2⟩
theorem Bl.flat_rl {E : Env} {O : Nat → Nat → Prop} {n : Nat} {b : Bl} (hf : b.flat = true) (H : b.rl E O n) : b.rl E.blind O n := by
  cases b with
  | box ro cs =>
    obtain ⟨b, o, c, T, fr, e1, e2, e3, e4, e5⟩ := H
    exact ⟨b, o, c, T, fr, e1, e2, e3, e4, lfs_flat hf e5⟩
  | arr e d xs =>
    obtain ⟨a, cap, e1, e2, e3⟩ := H
    refine ⟨a, cap, e1, e2, e3.imp id fun ⟨b, o, c, T, f1, f2, f3, f4⟩ => ⟨b, o, c, T, f1, f2, f3, fun i hi => row_flat e _ _ hf (f4 i hi)⟩⟩

/-! ### updates, looked up -/
theorem hpUps_look {m : Nat} {b : Bl} : (ps : List (Nat × Bl)) → {σ : S} → look m (σ.upds (hpUps ps)).hp = some b → (m, b) ∈ ps ∨ (look m σ.hp = some b ∧ m ∉ nms ps)
  | [], σ, h => .inr ⟨h, by simp [nms]⟩
  | (n, b') :: r, σ, h => by
    have h : look m ((σ.upd (.hp n b')).upds (hpUps r)).hp = some b := h
    rcases hpUps_look r h with h | ⟨h, hn⟩
    · exact .inl (List.mem_cons_of_mem _ h)
    · simp only [S.upd, look_put] at h
      split at h
      · rename_i he; cases h; subst he; exact .inl (List.mem_cons_self ..)
      · rename_i he
        refine .inr ⟨h, ?_⟩
        simp only [nms, List.map_cons, List.mem_cons, not_or]
        exact ⟨fun h => he h.symm, hn⟩
theorem hpUps_us : (ps : List (Nat × Bl)) → (σ : S) → (σ.upds (hpUps ps)).us = σ.us
  | [], σ => rfl
  | (n, b') :: r, σ => by
    show ((σ.upd (.hp n b')).upds (hpUps r)).us = _
    rw [hpUps_us r]; rfl
theorem hpUps_tm : (ps : List (Nat × Bl)) → (σ : S) → (σ.upds (hpUps ps)).tm = σ.tm
  | [], σ => rfl
  | (n, b') :: r, σ => by
    show ((σ.upd (.hp n b')).upds (hpUps r)).tm = _
    rw [hpUps_tm r]; rfl
theorem newUps_look {m : Nat} {b : Bl} : (ps : List (Nat × Bl)) → {σ : S} → look m (σ.upds (newUps ps)).hp = some b → (m, b) ∈ ps ∨ (look m σ.hp = some b ∧ m ∉ nms ps)
  | [], σ, h => .inr ⟨h, by simp [nms]⟩
  | (n, b') :: r, σ, h => by
    have h : look m (((σ.upd (.us n)).upd (.hp n b')).upds (newUps r)).hp = some b := h
    rcases newUps_look r h with h | ⟨h, hn⟩
    · exact .inl (List.mem_cons_of_mem _ h)
    · simp only [S.upd, look_put] at h
      split at h
      · rename_i he; cases h; subst he; exact .inl (List.mem_cons_self ..)
      · rename_i he
        refine .inr ⟨h, ?_⟩
        simp only [nms, List.map_cons, List.mem_cons, not_or]
        exact ⟨fun h => he h.symm, hn⟩
theorem newUps_us {m : Nat} : (ps : List (Nat × Bl)) → (σ : S) → (has m (σ.upds (newUps ps)).us = true ↔ has m σ.us = true ∨ m ∈ nms ps)
  | [], σ => by simp [newUps, S.upds, nms]
  | (n, b') :: r, σ => by
    show has m (((σ.upd (.us n)).upd (.hp n b')).upds (newUps r)).us = true ↔ _
    rw [newUps_us r]
    simp only [S.upd, has_cons, nms, List.map_cons, List.mem_cons, Bool.or_eq_true, decide_eq_true_eq]
    constructor
    · rintro ((h | h) | h)
      · exact .inr (.inl h.symm)
      · exact .inl h
      · exact .inr (.inr h)
    · rintro (h | h | h)
      · exact .inl (.inr h)
      · exact .inl (.inl h.symm)
      · exact .inr h
theorem newUps_tm : (ps : List (Nat × Bl)) → (σ : S) → (σ.upds (newUps ps)).tm = σ.tm
  | [], σ => rfl
  | (n, b') :: r, σ => by
    show (((σ.upd (.us n)).upd (.hp n b')).upds (newUps r)).tm = _
    rw [newUps_tm r]; rfl
theorem dels_look {m : Nat} {b : Bl} : (d : List Upd) → dels d = true → {σ : S} → look m (σ.upds d).hp = some b → look m σ.hp = some b ∧ Upd.del m ∉ d
  | [], _, σ, h => ⟨h, by simp⟩
  | .del n :: r, hd, σ, h => by
    have h : look m ((σ.upd (.del n)).upds r).hp = some b := h
    obtain ⟨h1, h2⟩ := dels_look r hd h
    simp only [S.upd, look_erase] at h1
    split at h1
    · cases h1
    · rename_i he
      refine ⟨h1, fun hm => ?_⟩
      rcases List.mem_cons.1 hm with hm | hm
      · cases hm; exact he rfl
      · exact h2 hm
  | .tm _ _ :: _, hd, _, _ => by simp [dels] at hd
  | .hp _ _ :: _, hd, _, _ => by simp [dels] at hd
  | .us _ :: _, hd, _, _ => by simp [dels] at hd
theorem news_mem {m : Nat} {b : Bl} : {l : List (Nat × Bl)} → ((m, b) ∈ news l ↔ (m, b) ∈ l ∧ low m = true)
  | [] => by simp [news]
  | (n, b') :: r => by
    simp only [news]
    split
    · rename_i hl
      simp only [List.mem_cons, news_mem (l := r)]
      constructor
      · rintro (h | h)
        · cases h; exact ⟨.inl rfl, hl⟩
        · exact ⟨.inr h.1, h.2⟩
      · rintro ⟨h | h, h'⟩
        · exact .inl h
        · exact .inr ⟨h, h'⟩
    · rename_i hl
      rw [news_mem (l := r)]
      simp only [List.mem_cons]
      constructor
      · rintro ⟨h, h'⟩; exact ⟨.inr h, h'⟩
      · rintro ⟨h | h, h'⟩
        · cases h; rw [hl] at h'; cases h'
        · exact ⟨h, h'⟩
theorem look_of_mem {m : Nat} {b : Bl} : {l : List (Nat × Bl)} → dis (nms l) = true → (m, b) ∈ l → look m l = some b
  | [], _, h => by simp at h
  | (n, b') :: r, hd, h => by
    simp only [nms, List.map_cons, dis, Bool.and_eq_true, Bool.not_eq_true'] at hd
    rw [look_cons]
    rcases List.mem_cons.1 h with h | h
    · cases h; simp
    · split
      · rename_i he
        have : has n (r.map (·.1)) = true := has_mem.2 (by rw [he]; exact List.mem_map.2 ⟨_, h, rfl⟩)
        rw [hd.1] at this; cases this
      · exact look_of_mem hd.2 h
theorem pnm_high (i : Nat) : low (pnm i) = false := by
  unfold low pnm
  cases h : Nat.blt (10000000000 + i) 10000000000
  · rfl
  · have := Nat.lt_of_lt_of_le (Nat.le_of_ble_eq_true h) (Nat.le_add_right 10000000000 i); omega
end Go.Ev

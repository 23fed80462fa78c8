/- FnKeys returns true for every input, on the conditions that the row itself states, and on no other (part 'EvPrim4') -/
import Derived.Test.YtbkgalecdbmkaaaEvPrim3

namespace Go.Ev
open Go Go.Proofs
set_option linter.unusedVariables false
set_option linter.unusedSimpArgs false

def insF (e : Row) (bytes : Nat) (d : List (rden e) × Int × List (rden e)) : Option (List (rden e)) :=
  if d.2.1 = 0 ∧ d.2.2.length = 1 ∧ d.1.length + 1 < limOf bytes then some (d.2.2 ++ d.1) else none
def insSig (f : Nat) (e : Row) : Sig := { f := f, ps := [.val false [.sl e] [.o], .val false [.i .i64] [.s], .val false [.sl e] [.o]], rs := [.val false [.sl e] [.o]] }

theorem args3 {args : Array Value} (h : args.size = 3) : ∃ a b c, args = #[a, b, c] := by
  obtain ⟨l⟩ := args
  match l, h with
  | [a, b, c], _ => exact ⟨a, b, c, rfl⟩

/-- the cells of elements, one by one -/
theorem arr_cells {e : Row} {xs : List (rden e)} {C : Array Value} {o : Nat} (h : ∀ i (hi : i < xs.length), rowRd (fun _ => False) #[] e xs[i] fun j => C[o + i * roww e + j]?) :
    ∀ v ∈ (C.toList.drop o).take (xs.length * roww e), v.oneCell' = true := by
  obtain ⟨cs, c1, c2, c3, _⟩ := el_cells (V := fun _ => False) (h := #[]) (e := e) (xs := xs) (c := fun j => C[o + j]?) (fun i hi => by simpa only [Nat.add_assoc] using h i hi)
  intro v hv
  obtain ⟨j, hj, rfl⟩ := List.getElem_of_mem hv
  have hj' : j < xs.length * roww e := by simp at hj; omega
  have := c3 j hj'
  have e1 : ((C.toList.drop o).take (xs.length * roww e))[j]? = cs[j]? := by
    rw [List.getElem?_take, if_pos hj', List.getElem?_drop, Array.getElem?_toList]; exact this
  rw [List.getElem?_eq_getElem hj, List.getElem?_eq_getElem (by omega)] at e1
  rw [Option.some.inj e1]
  exact c2 _ (List.getElem_mem _)

theorem Kp.cell {W : Nat → Nat → Prop} {h : Heap} {b : Nat} {C R : Array Value} {T : TypeId} {fr : Nat × Nat} (hC : h[b]? = some (.cells C T fr)) (hs : R.size = C.size) (hW : ∀ o, W b o) : Kp W h (h.setIfInBounds b (.cells R T fr)) := by
  refine ⟨by simp, fun k o ho => ?_⟩
  have hb := (Array.getElem?_eq_some_iff.1 hC).1
  by_cases hk : b = k
  · subst hk
    rw [hC] at ho; cases ho
    exact ⟨R, by rw [Array.getElem?_setIfInBounds, if_pos rfl, if_pos hb], hs, fun i hi => absurd (hW i) hi⟩
  · have : (h.setIfInBounds b (.cells R T fr))[k]? = h[k]? := by rw [Array.getElem?_setIfInBounds, if_neg hk]
    rw [this]
    exact (Kp.refl W h).old k o ho

/-- elements behind one value -/
theorem ins_rd {e : Row} {y : rden e} {xs : List (rden e)} {C D R : Array Value} {o p q : Nat}
    (hD : ∀ i (hi : i < [y].length), rowRd (fun _ => False) #[] e ([y])[i] fun j => D[p + i * roww e + j]?)
    (hC : ∀ i (hi : i < xs.length), rowRd (fun _ => False) #[] e xs[i] fun j => C[o + i * roww e + j]?)
    (h1 : ∀ j, j < roww e → R[q + j]? = D[p + j]?) (h2 : ∀ j, j < xs.length * roww e → R[q + roww e + j]? = C[o + j]?) :
    ∀ i (hi : i < (y :: xs).length), rowRd (fun _ => False) #[] e (y :: xs)[i] fun j => R[q + i * roww e + j]? := by
  intro i hi
  cases i with
  | zero =>
    refine rowRd_cells e _ _ _ (fun j hj => ?_) (hD 0 (by simp))
    simpa using h1 j hj
  | succ k =>
    simp only [List.length_cons] at hi
    refine rowRd_cells e _ _ _ (fun j hj => ?_) (hC k (by omega))
    have : (k + 1) * roww e ≤ xs.length * roww e := Nat.mul_le_mul_right _ (by omega)
    rw [Nat.add_mul, Nat.one_mul] at this
    have h := h2 (k * roww e + j) (by omega)
    rw [show q + (k + 1) * roww e + j = q + roww e + (k * roww e + j) by rw [Nat.add_mul, Nat.one_mul]; omega, h, Nat.add_assoc o]

theorem ins_at {e : Row} {P : Program} {ρ : Shelf.Ren} {i0 : TypeInfo} {zv : Value} {by_ : Nat} (L : InsLays P ρ (roww e) i0 zv) (hzl : zv.cells.size = roww e) (hby : i0.bytes = by_) (hf : rflat e = true) (hpos : 0 < roww e)
    (y : rden e) (xs : List (rden e)) (hne : 0 < xs.length) (hlim : xs.length + 1 < limOf by_) {N : Ent} {G : Nat → Value} {O : Nat → Nat → Prop} {args : Array Value} {w : World} (hsz : args.size = 3) (hN : N.h0 = w.heap)
    (R : Rel N G O { tm := [(0, .one (.os (pnm 0))), (1, .one (.int .i64 0)), (2, .one (.os (pnm 2)))], hp := [(pnm 0, .arr e false xs), (pnm 2, .arr e false [y])], us := [pnm 0, pnm 2] } args w.heap) :
    Does P (ρ.f 22) args w fun v w' => Same w w' ∧ ∀ t, retOk (insSig (ρ.f 22) e) t (y :: xs) = true → ∃ G1 O1, RetOk N G1 O1 (retS (insSig (ρ.f 22) e) t (y :: xs)) v w'.heap := by
  refine .inl ⟨(L.f22.enters rfl) _ _, ?_⟩
  obtain ⟨v0, v1, v2, rfl⟩ := args3 hsz
  have t0 := (R.tm 0 _ rfl).2
  have t1 := (R.tm 1 _ rfl).2
  have t2 := (R.tm 2 _ rfl).2
  simp only [Vl.rl, Lf.rl] at t0 t1 t2
  have s0 : v0 = G (pnm 0) := t0.2.1
  have s1 : v1 = .int .i64 0 := t1
  have s2 : v2 = G (pnm 2) := t2.2.1
  obtain ⟨a, cap, hG, hle, hb⟩ := arr_in R (m := pnm 0) rfl hf
  obtain ⟨a2, cap2, hG2, hle2, hb2⟩ := arr_in R (m := pnm 2) rfl hf
  simp only [List.length_cons, List.length_nil, Nat.zero_add] at hle2 hG2
  rw [hG] at s0
  rw [hG2] at s2
  clear t0 t1 t2
  subst s0; subst s1; subst s2
  obtain ⟨q1, q2⟩ := lim_le hlim
  rcases hb with hb | ⟨b, o, C, T, rfl, hh, ⟨k0, k1, k2⟩, hel, hwr⟩
  · omega
  rcases hb2 with hb2 | ⟨b2, o2, D, TD, rfl, hh2, ⟨l0, l1, l2⟩, hel2, _⟩
  · omega
  have hO : O (pnm 0) b := R.own (pnm 0) _ b rfl (by rw [hG]; exact blkOf_sl k0)
  have hO2 : O (pnm 2) b2 := R.own (pnm 2) _ b2 rfl (by rw [hG2]; exact blkOf_sl l0)
  have hbb : b2 ≠ b := by
    intro he
    subst he
    have := R.inj (pnm 0) (pnm 2) _ _ b2 rfl rfl hO hO2
    exact absurd this (by decide)
  have hcap : (1 : Nat) * roww e ≤ cap2 * roww e := Nat.mul_le_mul_right _ hle2
  have hret : ∀ t, retS (insSig (ρ.f 22) e) t (y :: xs) = { tm := [(0, .one (.os (nm t 0)))], hp := [(nm t 0, .arr e false (y :: xs))], us := [nm t 0] } := fun t => rfl
  have hlow : ∀ t, retOk (insSig (ρ.f 22) e) t (y :: xs) = true → low (nm t 0) = true := by
    intro t ht
    simp only [retOk, hret, Bool.and_eq_true, List.all_cons] at ht
    exact ht.2.1
  have e1 := arr_cells hel
  have e2 := arr_cells hel2
  simp only [List.length_cons, List.length_nil, Nat.zero_add, Nat.one_mul] at e2
  by_cases hroom : xs.length + 1 ≤ cap
  · refine (insert_shift L b o xs.length cap b2 o2 cap2 C D T TD w hne hroom k1 hbb hpos hh hh2 k2 (by omega) e1 e2).mono ?_
    rintro e' w' ⟨rfl, R', r1, r2, r3, r4, r5, _, _⟩
    refine ⟨_, rfl, r3, fun t ht => ?_⟩
    have := own_ret (xs := y :: xs) (a := some ⟨b, o, none⟩) (cap := cap) (h' := w'.heap) (hret t) (hlow t ht) hf (by simpa using hroom) ?_ (.inr ⟨b, o, R', T, rfl, ?_, ⟨k0, k1, by omega⟩, ins_rd hel2 hel r4 r5, hwr⟩)
    · exact this
    · rw [r2, hN]
      refine Kp.cell hh r1 ?_
      rcases hwr with hw | hw
      · have := (Array.getElem?_eq_some_iff.1 hh).1
        rw [hN] at hw; omega
      · exact hw.2
    · rw [r2, Array.getElem?_setIfInBounds, if_pos rfl, if_pos (Array.getElem?_eq_some_iff.1 hh).1]
  · refine (insert_grow L b o xs.length cap b2 o2 cap2 C D T TD w hne hle (by omega) (by rw [hby]; exact q1) (by omega) hpos hzl hh hh2 k2 (by omega) e1 e2).mono ?_
    rintro e' w' ⟨g, R', rfl, r2, r3, r4, r5, r6, r7, r8⟩
    refine ⟨_, rfl, r3, fun t ht => ?_⟩
    have := own_ret (xs := y :: xs) (a := some ⟨w.heap.size, 0, none⟩) (cap := g) (h' := w'.heap) (hret t) (hlow t ht) hf (by simpa using r4) ?_
      (.inr ⟨w.heap.size, 0, R', ρ.t 9, rfl, ?_, ⟨by omega, r5, by omega⟩, ins_rd hel2 hel (fun j hj => by rw [Nat.zero_add]; exact r7 j hj) (fun j hj => by rw [Nat.zero_add]; exact r8 j hj), .inl (by rw [hN]; exact Nat.le_refl _)⟩)
    · exact this
    · rw [r2, hN]; exact (Kp.refl _ _).push _
    · rw [r2]; simp

theorem ins_ok {e : Row} {P : Program} {ρ : Shelf.Ren} {i0 : TypeInfo} {zv : Value} {by_ : Nat} (L : InsLays P ρ (roww e) i0 zv) (hzl : zv.cells.size = roww e) (hby : i0.bytes = by_) (hf : rflat e = true) (hpos : 0 < roww e)
    {fE : List (rden e) × Int × List (rden e) → Option (List (rden e))} (hE : FnOk P (insSig (ρ.f 22) e) fE) (hfE : ∀ y, fE ([], 0, [y]) = some [y]) : FnOk P (insSig (ρ.f 22) e) (insF e by_) := by
  have key : ∀ (xs : List (rden e)) (i : Int) (vs : List (rden e)) (r : List (rden e)), insF e by_ (xs, i, vs) = some r → ∃ y, i = 0 ∧ vs = [y] ∧ r = y :: xs ∧ xs.length + 1 < limOf by_ := by
    intro xs i vs r h
    unfold insF at h
    split at h
    · rename_i hc
      obtain ⟨h1, h2, h3⟩ := hc
      match vs, h2, h with
      | [y], _, h => cases h; exact ⟨y, h1, rfl, rfl, h3⟩
    · cases h
  intro d r h
  obtain ⟨xs, i, vs⟩ := d
  obtain ⟨y, rfl, rfl, rfl, hlim⟩ := key xs i vs r h
  cases xs with
  | nil => exact hE ([], (0 : Int), [y]) [y] (hfE y)
  | cons x0 xs => exact ⟨rfl, fun N G O args w hsz hN R => ins_at L hzl hby hf hpos y (x0 :: xs) (by simp) hlim hsz hN R⟩
end Go.Ev

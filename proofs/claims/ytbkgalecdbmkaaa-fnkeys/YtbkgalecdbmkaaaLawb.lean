/- FnKeys returns true for every input, on the conditions that the row itself states, and on no other (part 'Lawb') -/
import Derived.Test.YtbkgalecdbmkaaaLawa

namespace Go.Ev
open Go Go.Proofs
set_option linter.unusedVariables false
set_option linter.unusedSimpArgs false

theorem wordCells_len (t : Int) (fs : List Int) : (wordCells t fs).length = fs.length := by cases fs <;> simp [wordCells]
theorem unpackN_ok {fs : List Int} (h : (unpackN fs).2 = true) : packN (unpackN fs).1 = fs ∧ (unpackN fs).1.length ≤ 24 := by
  unfold unpackN at h ⊢
  split
  · rename_i hl; rw [if_pos hl] at h; cases h
  · rename_i hl
    rw [if_neg hl] at h
    split
    · rename_i hc
      simp only [Bool.and_eq_true, decide_eq_true_eq] at hc
      exact ⟨hc.2, (nameOk_good hc.1).2.2⟩
    · rename_i hc; rw [if_neg hc] at h; cases h
theorem raw_cells (c : Int) : cellsOf (rawItem c) = [c] := by
  unfold cellsOf rawItem; simp [show tagOf 0 = 0 from rfl]
theorem i32_rng (x : Int) : -2147483648 ≤ i32 x ∧ i32 x ≤ 2147483647 := wI32_rng x
theorem shr5 (x : Int) : shrI .i32 x 5 = x / 32 := by
  unfold shrI
  rw [show min (Int.toNat 5) IntKind.i32.bits = 5 from rfl, Int.fdiv_eq_ediv_of_nonneg _ (by decide)]; rfl
/-- an item is as long as it says, and of the machine's numbers -/
theorem parse1_ok (c : Int) (rest : List Int) (hc : C32 c) (hr : U32s rest) : (cellsOf (parse1 c rest).1).length = (parse1 c rest).2 ∧ 1 ≤ (parse1 c rest).2 ∧ (parse1 c rest).2 ≤ rest.length + 1 ∧ ItOk (parse1 c rest).1 := by
  have hc1 := hc.1
  have hc2 := hc.2
  have hraw : (cellsOf (rawItem c)).length = 1 ∧ 1 ≤ 1 ∧ 1 ≤ rest.length + 1 ∧ ItOk (rawItem c) := by
    refine ⟨by rw [raw_cells]; rfl, by omega, by omega, ?_⟩
    exact ⟨by simp [rawItem], by simp [rawItem], by simp [rawItem], hc⟩
  have hshort : ∀ k : Int, (k = 7 ∨ k = 8) → (cellsOf (numItem k c (shrI .i32 (i32 c) 5))).length = 1 ∧ 1 ≤ 1 ∧ 1 ≤ rest.length + 1 ∧ ItOk (numItem k c (shrI .i32 (i32 c) 5)) := by
    intro k hk
    have hi := i32_rng c
    rw [shr5]
    refine ⟨?_, by omega, by omega, ⟨by simp only [numItem]; omega, by simp [numItem], by simp only [numItem]; omega, by simp [numItem]⟩⟩
    have hn : ∀ s l, (numCells (i32 c / 32) (hexOf c) s l).length = 1 := by
      intro s l; unfold numCells; rw [if_pos (by omega)]; rfl
    unfold cellsOf numItem
    rcases hk with rfl | rfl
    · simp only [show tagOf 7 = 0 from rfl]; simp; exact hn _ _
    · simp only [show tagOf 8 = 0 from rfl]; simp; exact hn _ _
  unfold parse1
  split
  · rename_i hk
    split
    · rename_i hu
      obtain ⟨h1, h2⟩ := unpackN_ok hu
      have hkc := kindOf_cases (c % 16)
      have hfl := nameFields_len rest
      refine ⟨?_, by simp, by simp; omega, ⟨by simp only; omega, by simp only; omega, by simp, by simp⟩⟩
      unfold cellsOf
      simp only [show tagOf (kindOf (c % 16)) = c % 16 by omega]
      rw [if_pos (by omega), if_pos (by simp), wordCells_len, h1]
      simp
    · exact hraw
  · split
    · exact hshort 7 (.inl rfl)
    · split
      · exact hshort 8 (.inr rfl)
      · split
        · exact hraw
        · rename_i d r
          split
          · split
            · rename_i hz
              refine ⟨hz.2, by simp, by simp, ?_⟩
              have := numKind_or (c % 16)
              exact ⟨by simp only [numItem]; omega, by simp [numItem], by simp only [numItem]; exact i32_rng d, by simp [numItem]⟩
            · exact hraw
          · split
            · split
              · rename_i hf
                unfold fieldOk at hf
                have hf := of_decide_eq_true hf
                have := unpackOne_len (c / 16)
                refine ⟨?_, by simp, by simp, ⟨by simp, by simp only; omega, by simp only; exact i32_rng d, by simp⟩⟩
                unfold cellsOf
                simp [show tagOf 9 = 0 from rfl, hf, wordCells]
              · exact hraw
            · exact hraw
theorem it_eta (it : It) : (it.1, it.2.1, it.2.2.1, it.2.2.2.1, it.2.2.2.2) = it := rfl

/-! ### items of cells -/
def parseL : Nat → List Int → List It
  | 0, _ => []
  | _ + 1, [] => []
  | k + 1, c :: r => (parse1 c r).1 :: parseL k ((c :: r).drop (parse1 c r).2)
def zeroIt : It := (0, [], 0, false, 0)
def trim (xs : List It) : List It := (xs.reverse.dropWhile fun it => decide (it = zeroIt)).reverse
theorem trim_nil : trim [] = [] := rfl
theorem trim_app (ys : List It) (u : It) : trim (ys ++ [u]) = if u = zeroIt then trim ys else ys ++ [u] := by
  unfold trim
  rw [List.reverse_append]
  by_cases h : u = zeroIt <;> simp [h, List.dropWhile_cons]
theorem zero_test (u : It) : ((decide (u.1 = 0)) && ((decide (u.2.1 = ([] : List UInt8))) && ((decide (u.2.2.1 = 0)) && ((u.2.2.2.1 == false) && (decide (u.2.2.2.2 = 0)))))) = decide (u = zeroIt) := by
  obtain ⟨a, b, c, d, e⟩ := u
  unfold zeroIt
  by_cases h1 : a = 0 <;> by_cases h2 : b = [] <;> by_cases h3 : c = 0 <;> cases d <;> by_cases h5 : e = 0 <;> simp [h1, h2, h3, h5]
def parseC (cells : List Int) : List It := if 64 < cells.length then [] else trim (parseL 64 cells)

theorem U32s.drop {xs : List Int} (h : U32s xs) (n : Nat) : U32s (xs.drop n) := fun x hx => h x (List.mem_of_mem_drop hx)
theorem impl_ParseCells_l4_is : (k : Nat) → (cells : List Int) → (acc : List It) → U32s cells → cells.length ≤ k → k < 1000000 → acc.length + k < 2000000 → impl_ParseCells_l4 cells acc = some (acc ++ parseL k cells)
  | 0, cells, acc, hu, hk, h1, h2 => by
    obtain rfl : cells = [] := List.length_eq_zero_iff.1 (by omega)
    rw [impl_ParseCells_l4_eq]; simp [len_nat, parseL]
  | k + 1, [], acc, hu, hk, h1, h2 => by
    rw [impl_ParseCells_l4_eq]; simp [len_nat, parseL]
  | k + 1, c :: r, acc, hu, hk, h1, h2 => by
    have hc : C32 c := hu c (by simp)
    have hr : U32s r := fun x hx => hu x (by simp [hx])
    simp only [List.length_cons] at hk
    obtain ⟨p1, p2, p3, p4⟩ := parse1_ok c r hc hr
    have hcl := impl_CellsOf_is (parse1 c r).1 p4.s
    rw [impl_ParseCells_l4_eq, impl_parseOne_is c r hc hr (by omega), len_nat, decide_eq_true (show (0 : Int) < ((c :: r).length : Int) by simp only [List.length_cons]; omega)]
    simp only [cond_true, Option.bind_some]
    rw [decide_eq_true (show acc.length + 1 < 3518437208883 by omega), cond_true, hcl, Option.bind_some, len_nat, p1,
      decide_eq_true (show (0 : Int) ≤ ((parse1 c r).2 : Int) by omega), decide_eq_true (show ((parse1 c r).2 : Int) ≤ ((c :: r).length : Int) by simp only [List.length_cons]; omega), Int.toNat_natCast]
    simp only [Bool.and_self, cond_true]
    rw [impl_ParseCells_l4_is k _ _ (hu.drop _) (by rw [List.length_drop, List.length_cons]; omega) (by omega) (by simp; omega), parseL]
    simp
theorem impl_ParseCells_l9_is : (n : Nat) → (xs : List It) → xs.length = n → n < 1000000 → impl_ParseCells_l9 xs ((n : Int) - 1) = some (trim xs)
  | 0, xs, h, hn => by
    obtain rfl : xs = [] := List.length_eq_zero_iff.1 (by omega)
    rw [impl_ParseCells_l9_eq]; simp [trim_nil]
  | n + 1, xs, h, hn => by
    rcases List.eq_nil_or_concat xs with rfl | ⟨ys, u, rfl⟩
    · simp at h
    · rw [List.concat_eq_append] at h ⊢
      have hy : ys.length = n := by simp at h; omega
      rw [impl_ParseCells_l9_eq, show ((n + 1 : Nat) : Int) - 1 = (n : Int) by omega, decide_eq_true (show (0 : Int) ≤ (n : Int) by omega), decide_eq_true (show (n : Int) < ((ys ++ [u]).length : Int) by simp; omega), Int.toNat_natCast,
        show (ys ++ [u])[n]? = some u by rw [← hy]; simp, decide_eq_true (show (n : Int) ≤ ((ys ++ [u]).length : Int) by simp; omega), trim_app]
      simp only [cond_true, Bool.and_self, Option.bind_some, zero_test]
      by_cases hz : u = zeroIt
      · have e1 : subI .i64 (n : Int) 1 = (n : Int) - 1 := by unfold subI; rw [wI64 (by omega) (by omega)]
        rw [decide_eq_true hz, if_pos hz, cond_true, e1, show ((ys ++ [u]).take (0 + n)).drop 0 = ys by rw [Nat.zero_add, List.drop_zero, ← hy]; simp]
        exact impl_ParseCells_l9_is n ys hy (by omega)
      · rw [decide_eq_false hz, if_neg hz]; rfl
theorem parseL_len : (k : Nat) → (cells : List Int) → (parseL k cells).length ≤ k
  | 0, _ => by simp [parseL]
  | k + 1, [] => by simp [parseL]
  | k + 1, c :: r => by
    rw [parseL]
    have := parseL_len k ((c :: r).drop (parse1 c r).2)
    simp only [List.length_cons]; omega
theorem impl_ParseCells_is (cells : List Int) (hu : U32s cells) : impl_ParseCells cells = some (parseC cells) := by
  rw [impl_ParseCells_eq]; unfold parseC
  by_cases h : 64 < cells.length
  · rw [len_nat, decide_eq_true (show (64 : Int) < (cells.length : Int) by omega), if_pos h]; rfl
  · have hl := parseL_len 64 cells
    rw [len_nat, decide_eq_false (show ¬ (64 : Int) < (cells.length : Int) by omega), if_neg h, cond_false, impl_ParseCells_l4_is 64 cells [] hu (by omega) (by omega) (by simp)]
    simp only [Option.bind_some, List.nil_append]
    have e1 : subI .i64 (len (parseL 64 cells)) 1 = ((parseL 64 cells).length : Int) - 1 := by unfold subI; rw [len_nat, wI64 (by omega) (by omega)]
    rw [e1, impl_ParseCells_l9_is _ _ rfl (by omega)]; rfl
theorem spec_ParseCells_l5_is (cells : List Int) (hu : U32s cells) (hl : cells.length < 1000000) : (k : Nat) → (r p : List Int) → (acc : List It) → cells = p ++ r → r.length ≤ k → k < 1000000 → acc.length + k < 2000000 → spec_ParseCells_l5 cells acc (p.length : Int) = some (acc ++ parseL k r)
  | 0, r, p, acc, h, hk, h1, h2 => by
    obtain rfl : r = [] := List.length_eq_zero_iff.1 (by omega)
    rw [spec_ParseCells_l5_eq]; subst h; simp [len_nat, parseL]
  | k + 1, [], p, acc, h, hk, h1, h2 => by
    rw [spec_ParseCells_l5_eq]; subst h; simp [len_nat, parseL]
  | k + 1, c :: r, p, acc, h, hk, h1, h2 => by
    subst h
    have hc : C32 c := hu c (by simp)
    have hr : U32s r := fun x hx => hu x (by simp [hx])
    simp only [List.length_cons] at hk
    obtain ⟨p1, p2, p3, p4⟩ := parse1_ok c r hc hr
    have hll : p.length + (r.length + 1) < 1000000 := by simpa using hl
    have e1 : addI .i64 (p.length : Int) ((parse1 c r).2 : Int) = ((p ++ (c :: r).take (parse1 c r).2).length : Int) := by
      unfold addI; rw [wI64 (by omega) (by omega)]; simp only [List.length_append, List.length_take, List.length_cons]; omega
    have ih := spec_ParseCells_l5_is (p ++ c :: r) hu hl k ((c :: r).drop (parse1 c r).2) (p ++ (c :: r).take (parse1 c r).2) (acc ++ [(parse1 c r).1]) (by rw [List.append_assoc, List.take_append_drop]) (by rw [List.length_drop, List.length_cons]; omega) (by omega) (by simp; omega)
    rw [spec_ParseCells_l5_eq, spec_l04Item_is p r c hu hl, len_nat, decide_eq_true (show (p.length : Int) < ((p ++ c :: r).length : Int) by simp; omega)]
    simp only [cond_true, Option.bind_some, it6]
    rw [decide_eq_true (show acc.length + 1 < 3518437208883 by omega), cond_true, e1, ih, parseL]
    simp
theorem spec_ParseCells_l9_is : (n : Nat) → (xs : List It) → xs.length = n → n < 1000000 → spec_ParseCells_l9 xs = some (trim xs)
  | 0, xs, h, hn => by
    obtain rfl : xs = [] := List.length_eq_zero_iff.1 (by omega)
    rw [spec_ParseCells_l9_eq]; simp [trim_nil, len_nat]
  | n + 1, xs, h, hn => by
    rcases List.eq_nil_or_concat xs with rfl | ⟨ys, u, rfl⟩
    · simp at h
    · rw [List.concat_eq_append] at h ⊢
      have hy : ys.length = n := by simp at h; omega
      have e1 : subI .i64 (len (ys ++ [u])) 1 = (n : Int) := by unfold subI; rw [len_nat, h, wI64 (by omega) (by omega)]; omega
      rw [spec_ParseCells_l9_eq, e1, len_nat, decide_eq_true (show (0 : Int) < ((ys ++ [u]).length : Int) by simp only [List.length_append, List.length_cons]; omega), decide_eq_true (show (0 : Int) ≤ (n : Int) by omega), decide_eq_true (show (n : Int) < ((ys ++ [u]).length : Int) by simp; omega), Int.toNat_natCast,
        show (ys ++ [u])[n]? = some u by rw [← hy]; simp, decide_eq_true (show (n : Int) ≤ ((ys ++ [u]).length : Int) by simp; omega), trim_app]
      simp only [cond_true, Bool.and_self, Option.bind_some, zero_test]
      by_cases hz : u = zeroIt
      · rw [decide_eq_true hz, if_pos hz, cond_true, show ((ys ++ [u]).take (0 + n)).drop 0 = ys by rw [Nat.zero_add, List.drop_zero, ← hy]; simp]
        exact spec_ParseCells_l9_is n ys hy (by omega)
      · rw [decide_eq_false hz, if_neg hz]; rfl
theorem spec_ParseCells_is (cells : List Int) (hu : U32s cells) : spec_ParseCells cells = some (parseC cells) := by
  rw [spec_ParseCells_eq]; unfold parseC
  by_cases h : 64 < cells.length
  · rw [len_nat, decide_eq_true (show (64 : Int) < (cells.length : Int) by omega), if_pos h]; rfl
  · have hl := parseL_len 64 cells
    have := spec_ParseCells_l5_is cells hu (by omega) 64 cells [] [] rfl (by omega) (by omega) (by simp)
    rw [len_nat, decide_eq_false (show ¬ (64 : Int) < (cells.length : Int) by omega), if_neg h, cond_false, show (0 : Int) = (([] : List Int).length : Int) from rfl, this]
    simp only [Option.bind_some, List.nil_append]
    rw [spec_ParseCells_l9_is _ _ rfl (by omega)]; rfl
end Go.Ev

namespace Go.Ev
open Go Go.Proofs
set_option linter.unusedVariables false
set_option linter.unusedSimpArgs false

def Its (xs : List It) : Prop := ∀ it ∈ xs, ItOk it
theorem it_test (u v : It) : ((decide (u.1 = v.1)) && ((decide (u.2.1 = v.2.1)) && ((decide (u.2.2.1 = v.2.2.1)) && ((u.2.2.2.1 == v.2.2.2.1) && (decide (u.2.2.2.2 = v.2.2.2.2)))))) = decide (u = v) := by
  obtain ⟨a, b, c, d, e⟩ := u
  obtain ⟨a', b', c', d', e'⟩ := v
  simp only [Prod.mk.injEq]
  by_cases h1 : a = a' <;> by_cases h2 : b = b' <;> by_cases h3 : c = c' <;> by_cases h4 : d = d' <;> by_cases h5 : e = e' <;> simp [h1, h2, h3, h4, h5]
theorem slices_Equal_Item_is (xs ys : List It) (h : xs.length < 4000000000000000000) : slices_Equal_Item xs ys = some (decide (xs = ys)) := by
  rw [slices_Equal_Item_eq]
  by_cases hl : xs.length = ys.length
  · have := eq_loop xs ys xs.length rfl hl.symm (slices_Equal_Item_l4 xs ys (len xs)) (fun i u v hi h1 h2 => by
      rw [slices_Equal_Item_l4_eq, nth_nat, nth_nat, h1, h2, len_nat, decide_eq_true (show (i : Int) < (xs.length : Int) by omega), add_one (by omega)]
      simp only [cond_true, Option.bind_some, it_test]
      by_cases he : u = v <;> simp [he]) (by rw [slices_Equal_Item_l4_eq]; simp [len_nat]) xs.length 0 (by omega)
    have hl' : (xs.length : Int) = (ys.length : Int) := by omega
    simp only [len_nat, hl', decide_true, Bool.not_true, cond_false]
    rw [← hl', ← len_nat, show (0 : Int) = ((0 : Nat) : Int) from rfl, this]
    by_cases he : xs = ys <;> simp [he]
  · have hl' : ¬ ((xs.length : Int) = (ys.length : Int)) := by omega
    have he : ¬ xs = ys := fun e => hl (by rw [e])
    simp [len_nat, hl', he]
theorem spec_l04Same_is (xs ys : List It) (h : xs.length < 4000000000000000000) : spec_l04Same xs ys = some (decide (xs = ys)) := by
  rw [spec_l04Same_eq]
  by_cases hl : xs.length = ys.length
  · have := eq_loop xs ys xs.length rfl hl.symm (spec_l04Same_l4 xs ys) (fun i u v hi h1 h2 => by
      rw [spec_l04Same_l4_eq, nth_nat, nth_nat, h1, h2, len_nat, decide_eq_true (show (i : Int) < (xs.length : Int) by omega), add_one (by omega)]
      simp only [cond_true, Option.bind_some, it_test]
      by_cases he : u = v <;> simp [he]) (by rw [spec_l04Same_l4_eq]; simp [len_nat]) xs.length 0 (by omega)
    have hl' : (xs.length : Int) = (ys.length : Int) := by omega
    simp only [len_nat, hl', decide_true, Bool.not_true, cond_false]
    rw [show (0 : Int) = ((0 : Nat) : Int) from rfl, this]
    by_cases he : xs = ys <;> simp [he]
  · have hl' : ¬ ((xs.length : Int) = (ys.length : Int)) := by omega
    have he : ¬ xs = ys := fun e => hl (by rw [e])
    simp [len_nat, hl', he]

/-! ### cells of items -/
def unp : List It → List Int → List Int × Bool
  | [], acc => (acc, true)
  | it :: r, acc => if (cellsOf it).length = 0 ∨ 64 < acc.length + (cellsOf it).length then ([], false) else unp r (acc ++ cellsOf it)
theorem impl_Unparse_l3_is (xs : List It) (hx : Its xs) (hl : xs.length < 1000000) : (r p : List It) → (acc : List Int) → xs = p ++ r → acc.length ≤ 64 →
    impl_Unparse_l3 acc xs (len xs) (p.length : Int) = some (if (unp r acc).2 then .inl (unp r acc).1 else .inr ([], false))
  | [], p, acc, h, ha => by
    rw [impl_Unparse_l3_eq]; subst h; simp [len_nat, unp]
  | it :: r, p, acc, h, ha => by
    have hfl : p.length + r.length + 1 = xs.length := by rw [h]; simp; omega
    have hi := hx it (by rw [h]; simp)
    have hcl := impl_CellsOf_is it hi.s
    have h24 := (cellsOf_rng it hi).1
    rw [impl_Unparse_l3_eq, len_nat, nth_nat, show xs[p.length]? = some it by rw [h]; simp, decide_eq_true (show (p.length : Int) < (xs.length : Int) by omega), unp]
    simp only [cond_true, Option.bind_some]
    rw [hcl, Option.bind_some, decide_eq_true (show acc.length + (cellsOf it).length < 35184372088832 by omega), cond_true, len_nat, len_nat, List.length_append]
    by_cases h0 : (cellsOf it).length = 0
    · rw [decide_eq_true (show ((cellsOf it).length : Int) = 0 by omega), if_pos (show (cellsOf it).length = 0 ∨ 64 < acc.length + (cellsOf it).length from .inl h0)]; rfl
    · rw [decide_eq_false (show ¬ ((cellsOf it).length : Int) = 0 by omega), cond_false]
      by_cases h1 : 64 < acc.length + (cellsOf it).length
      · rw [decide_eq_true (show (64 : Int) < ((acc.length + (cellsOf it).length : Nat) : Int) by omega), if_pos (show (cellsOf it).length = 0 ∨ 64 < acc.length + (cellsOf it).length from .inr h1)]; rfl
      · rw [decide_eq_false (show ¬ (64 : Int) < ((acc.length + (cellsOf it).length : Nat) : Int) by omega), if_neg (show ¬ ((cellsOf it).length = 0 ∨ 64 < acc.length + (cellsOf it).length) by omega), cond_false, add_one (by omega)]
        have ih := impl_Unparse_l3_is xs hx hl r (p ++ [it]) (acc ++ cellsOf it) (by simp [h]) (by simp; omega)
        rw [len_nat, List.length_append] at ih
        exact ih
theorem unp_no : (r : List It) → (acc : List Int) → (unp r acc).2 = false → unp r acc = ([], false)
  | [], acc, h => by simp [unp] at h
  | it :: r, acc, h => by
    rw [unp] at h ⊢
    split
    · rfl
    · rename_i hc; rw [if_neg hc] at h; exact unp_no r _ h
theorem impl_Unparse_is (xs : List It) (hx : Its xs) (hl : xs.length < 1000000) : impl_Unparse xs = some (unp xs []) := by
  rw [impl_Unparse_eq, show (0 : Int) = (([] : List It).length : Int) from rfl, impl_Unparse_l3_is xs hx hl xs [] [] rfl (by simp)]
  cases h : (unp xs []).2
  · rw [unp_no xs [] h]; rfl
  · simp only [if_true, Option.bind_some, Sum.elim_inl, ← h]
theorem spec_Unparse_l3_is (xs : List It) (hx : Its xs) (hl : xs.length < 1000000) : (r p : List It) → (acc : List Int) → xs = p ++ r → acc.length ≤ 64 →
    spec_Unparse_l3 xs acc (p.length : Int) = some (if (unp r acc).2 then .inl (unp r acc).1 else .inr ([], false))
  | [], p, acc, h, ha => by
    rw [spec_Unparse_l3_eq]; subst h; simp [len_nat, unp]
  | it :: r, p, acc, h, ha => by
    have hfl : p.length + r.length + 1 = xs.length := by rw [h]; simp; omega
    have hi := hx it (by rw [h]; simp)
    have hcl := spec_CellsOf_is it hi.s
    have h24 := (cellsOf_rng it hi).1
    have e1 : addI .i64 (acc.length : Int) ((cellsOf it).length : Int) = ((acc.length + (cellsOf it).length : Nat) : Int) := by unfold addI; rw [wI64 (by omega) (by omega)]; omega
    rw [spec_Unparse_l3_eq, len_nat, nth_nat, show xs[p.length]? = some it by rw [h]; simp, decide_eq_true (show (p.length : Int) < (xs.length : Int) by omega), unp]
    simp only [cond_true, Option.bind_some]
    rw [hcl, Option.bind_some, decide_eq_true (show acc.length + (cellsOf it).length < 35184372088832 by omega), len_nat, len_nat, e1]
    by_cases h0 : (cellsOf it).length = 0
    · rw [decide_eq_true (show ((cellsOf it).length : Int) = 0 by omega), if_pos (show (cellsOf it).length = 0 ∨ 64 < acc.length + (cellsOf it).length from .inl h0)]; rfl
    · rw [decide_eq_false (show ¬ ((cellsOf it).length : Int) = 0 by omega), cond_false]
      by_cases h1 : 64 < acc.length + (cellsOf it).length
      · rw [decide_eq_true (show (64 : Int) < ((acc.length + (cellsOf it).length : Nat) : Int) by omega), if_pos (show (cellsOf it).length = 0 ∨ 64 < acc.length + (cellsOf it).length from .inr h1)]; rfl
      · rw [decide_eq_false (show ¬ (64 : Int) < ((acc.length + (cellsOf it).length : Nat) : Int) by omega), if_neg (show ¬ ((cellsOf it).length = 0 ∨ 64 < acc.length + (cellsOf it).length) by omega), cond_false, cond_true, add_one (by omega)]
        have ih := spec_Unparse_l3_is xs hx hl r (p ++ [it]) (acc ++ cellsOf it) (by simp [h]) (by simp; omega)
        rw [List.length_append] at ih
        exact ih
theorem spec_Unparse_is (xs : List It) (hx : Its xs) (hl : xs.length < 1000000) : spec_Unparse xs = some (unp xs []) := by
  rw [spec_Unparse_eq, show (0 : Int) = (([] : List It).length : Int) from rfl, spec_Unparse_l3_is xs hx hl xs [] [] rfl (by simp)]
  cases h : (unp xs []).2
  · rw [unp_no xs [] h]; rfl
  · simp only [if_true, Option.bind_some, Sum.elim_inl, ← h]
theorem unp_yes : (r : List It) → (acc : List Int) → (unp r acc).2 = true → (unp r acc).1 = acc ++ r.flatMap cellsOf ∧ (acc.length ≤ 64 → acc.length + r.length ≤ 64) ∧ (acc.length ≤ 64 → (unp r acc).1.length ≤ 64)
  | [], acc, h => by simp [unp]
  | it :: r, acc, h => by
    rw [unp] at h ⊢
    split
    · rename_i hc; rw [if_pos hc] at h; cases h
    · rename_i hc
      rw [if_neg hc] at h
      obtain ⟨h1, h2, h3⟩ := unp_yes r _ h
      simp only [List.length_append] at h2 h3
      refine ⟨by rw [h1]; simp, fun ha => ?_, fun ha => h3 (by omega)⟩
      have := h2 (by omega)
      simp only [List.length_cons]; omega
theorem cells_u32 (xs : List It) (hx : Its xs) : U32s (xs.flatMap cellsOf) := by
  intro c hc
  obtain ⟨it, hi, hc⟩ := List.mem_flatMap.1 hc
  exact (cellsOf_rng it (hx it hi)).2 c hc
def listOk (xs : List It) : Bool := (unp xs []).2 && decide (parseC (unp xs []).1 = xs)
theorem unp_u32 (xs : List It) (hx : Its xs) (h : (unp xs []).2 = true) : U32s (unp xs []).1 := by
  rw [(unp_yes xs [] h).1, List.nil_append]; exact cells_u32 xs hx
theorem parseC_len (cells : List Int) : (parseC cells).length ≤ 64 := by
  unfold parseC
  split
  · simp
  · have h1 : (trim (parseL 64 cells)).length ≤ (parseL 64 cells).length := by
      unfold trim
      rw [List.length_reverse]
      exact Nat.le_trans (List.dropWhile_sublist _).length_le (by simp)
    have := parseL_len 64 cells
    omega
theorem impl_ListOk_is (xs : List It) (hx : Its xs) (hl : xs.length < 1000000) : impl_ListOk xs = some (listOk xs) := by
  rw [impl_ListOk_eq, impl_Unparse_is xs hx hl, Option.bind_some]; unfold listOk
  cases h : (unp xs []).2
  · rfl
  · have := parseC_len (unp xs []).1
    rw [cond_true, impl_ParseCells_is _ (unp_u32 xs hx h), Option.bind_some, slices_Equal_Item_is _ _ (by omega)]; rfl
theorem spec_ListOk_is (xs : List It) (hx : Its xs) (hl : xs.length < 1000000) : spec_ListOk xs = some (listOk xs) := by
  rw [spec_ListOk_eq, spec_Unparse_is xs hx hl, Option.bind_some]; unfold listOk
  cases h : (unp xs []).2
  · rfl
  · have := parseC_len (unp xs []).1
    rw [cond_true, spec_ParseCells_is _ (unp_u32 xs hx h), Option.bind_some, spec_l04Same_is _ _ (by omega)]; rfl
theorem listOk_len {xs : List It} (h : listOk xs = true) : xs.length ≤ 64 := by
  unfold listOk at h
  simp only [Bool.and_eq_true] at h
  have := (unp_yes xs [] h.1).2.1 (by simp)
  simpa using this

/-! ### editors -/
structure EdM (l r c : List It) : Prop where
  li : Its l
  ri : Its r
  ci : Its c
  ll : l.length < 100000
  rl : r.length < 100000
  cl : c.length < 100000
def edOk (l r c : List It) : Bool := decide (c.length ≤ 20) && (c.all itemOk && listOk (l ++ r))
theorem its_app {l r : List It} (hl : Its l) (hr : Its r) : Its (l ++ r) := fun it h => (List.mem_append.1 h).elim (hl it) (hr it)
theorem impl_edItems_is (l r c : List It) (hl : l.length < 1000000) (hr : r.length < 1000000) : impl_edItems l r c = some (l ++ r) := by
  have a1 : addI .i64 0 1 = 1 := by decide
  have a2 : addI .i64 1 1 = 2 := by decide
  have b1 : addI .i64 0 (l.length : Int) = (l.length : Int) := by unfold addI; rw [Int.zero_add, wI64 (by omega) (by omega)]
  have b2 : addI .i64 (l.length : Int) (r.length : Int) = ((l.length + r.length : Nat) : Int) := by unfold addI; rw [wI64 (by omega) (by omega)]; omega
  have n0 : nth [l, r] 0 = some l := rfl
  have n1 : nth [l, r] 1 = some r := rfl
  have hlen : len [l, r] = 2 := rfl
  rw [impl_edItems_eq, slices_Concat_Item_eq, hlen, slices_Concat_Item_l3_eq, n0, Option.bind_some, len_nat, b1, decide_eq_false (show ¬ (l.length : Int) < 0 by omega), a1, slices_Concat_Item_l3_eq, n1, Option.bind_some, len_nat, b2, decide_eq_false (show ¬ ((l.length + r.length : Nat) : Int) < 0 by omega), a2, slices_Concat_Item_l3_eq]
  simp only [cond_true, cond_false, show decide ((0 : Int) < 2) = true from rfl, show decide ((1 : Int) < 2) = true from rfl, show decide ((2 : Int) < 2) = false from rfl, Option.bind_some]
  have hg : slices_Grow_Item [] ((l.length + r.length : Nat) : Int) = some [] := by
    refine (slices_Grow_Item_eq _ _).trans ?_
    unfold growF limOf
    refine if_pos ⟨by simp only; omega, ?_⟩
    show ([] : List It).length + (Int.toNat ((l.length + r.length : Nat) : Int)) < 140737488355328 / 40
    simp; omega
  rw [hg, Option.bind_some, hlen, slices_Concat_Item_l11_eq, n0, Option.bind_some, a1, slices_Concat_Item_l11_eq, n1, Option.bind_some, a2, slices_Concat_Item_l11_eq]
  rw [decide_eq_true (show ([] : List It).length + l.length < 3518437208883 by simp; omega), decide_eq_true (show (([] : List It) ++ l).length + r.length < 3518437208883 by simp; omega)]
  rfl
theorem impl_EdOk_c1_is (it : It) (h : ItOk it) : impl_EdOk_c1 it.1 it.2.1 it.2.2.1 it.2.2.2.1 it.2.2.2.2 = some (!itemOk it) := by
  rw [impl_EdOk_c1_eq, impl_ItemOk_is it h.s]; rfl
theorem impl_idx_is (xs : List It) (hx : Its xs) (hl : xs.length < 1000000) : (r p : List It) → xs = p ++ r → ∃ d, slices_IndexFunc_Item_impl_EdOk_c1_l2 xs (len xs) (p.length : Int) = some d ∧ (if r.all itemOk = true then d = .inl () else ∃ k : Nat, d = .inr (k : Int))
  | [], p, h => by
    rw [slices_IndexFunc_Item_impl_EdOk_c1_l2_eq]; subst h; exact ⟨.inl (), by simp [len_nat], by simp⟩
  | it :: r, p, h => by
    have hfl : p.length + r.length + 1 = xs.length := by rw [h]; simp; omega
    have hi := hx it (by rw [h]; simp)
    obtain ⟨d, h1, h2⟩ := impl_idx_is xs hx hl r (p ++ [it]) (by simp [h])
    rw [slices_IndexFunc_Item_impl_EdOk_c1_l2_eq, len_nat, nth_nat, show xs[p.length]? = some it by rw [h]; simp, decide_eq_true (show (p.length : Int) < (xs.length : Int) by omega)]
    simp only [cond_true, Option.bind_some]
    rw [impl_EdOk_c1_is it hi, Option.bind_some, add_one (by omega)]
    cases hit : itemOk it
    · refine ⟨.inr (p.length : Int), rfl, ?_⟩
      rw [if_neg (by simp [hit])]; exact ⟨_, rfl⟩
    · rw [len_nat, List.length_append] at h1
      refine ⟨d, h1, ?_⟩
      rw [List.all_cons, hit, Bool.true_and]; exact h2
theorem impl_contains_is (xs : List It) (hx : Its xs) (hl : xs.length < 1000000) : slices_ContainsFunc_Item_impl_EdOk_c1 xs = some (!xs.all itemOk) := by
  obtain ⟨d, h1, h2⟩ := impl_idx_is xs hx hl xs [] rfl
  rw [slices_ContainsFunc_Item_impl_EdOk_c1_eq, slices_IndexFunc_Item_impl_EdOk_c1_eq, show (0 : Int) = (([] : List It).length : Int) from rfl, h1]
  cases ha : xs.all itemOk
  · rw [if_neg (by rw [ha]; simp)] at h2
    obtain ⟨k, rfl⟩ := h2
    simp
  · rw [if_pos ha] at h2
    subst h2
    rfl
theorem impl_EdOk_is (l r c : List It) (h : EdM l r c) : impl_EdOk l r c = some (edOk l r c) := by
  have := h.ll; have := h.rl; have := h.cl
  rw [impl_EdOk_eq]; unfold edOk
  by_cases hc : c.length ≤ 20
  · rw [len_nat, decide_eq_true (show (c.length : Int) ≤ 20 by omega), decide_eq_true hc, impl_contains_is c h.ci (by omega), Option.bind_some]
    cases ha : c.all itemOk
    · rfl
    · simp only [cond_true, Bool.not_true, Bool.not_false, Bool.true_and]
      rw [impl_edItems_is l r c (by omega) (by omega), Option.bind_some, impl_ListOk_is _ (its_app h.li h.ri) (by simp; omega)]; rfl
  · rw [len_nat, decide_eq_false (show ¬ (c.length : Int) ≤ 20 by omega), decide_eq_false hc]; rfl
theorem spec_EdOk_l4_is (l r xs : List It) (hx : Its xs) (hl : xs.length < 1000000) : (q p : List It) → xs = p ++ q → spec_EdOk_l4 (p.length : Int) l r xs = some (if q.all itemOk then .inl (l, r, xs) else .inr false)
  | [], p, h => by
    rw [spec_EdOk_l4_eq]; subst h; simp [len_nat]
  | it :: q, p, h => by
    have hfl : p.length + q.length + 1 = xs.length := by rw [h]; simp; omega
    have hi := hx it (by rw [h]; simp)
    have ih := spec_EdOk_l4_is l r xs hx hl q (p ++ [it]) (by simp [h])
    rw [spec_EdOk_l4_eq, len_nat, nth_nat, show xs[p.length]? = some it by rw [h]; simp, decide_eq_true (show (p.length : Int) < (xs.length : Int) by omega)]
    simp only [cond_true, Option.bind_some]
    rw [spec_ItemOk_is it hi.s, Option.bind_some, add_one (by omega)]
    rw [List.length_append] at ih
    cases hit : itemOk it
    · simp [hit]
    · simp only [Bool.not_true, cond_false, List.all_cons, hit, Bool.true_and]
      exact ih
/-- a list that is too long isn't right -/
theorem listOk_long {xs : List It} (h : 64 < xs.length) : listOk xs = false := by
  cases hl : listOk xs
  · rfl
  · have := listOk_len hl; omega
theorem zeroIt_ok : ItOk zeroIt := ⟨by simp [zeroIt], by simp [zeroIt], by simp [zeroIt], by simp [zeroIt]⟩
theorem spec_l07All_is (l r c : List It) (hl : l.length < 1000000) (hr : r.length < 1000000) : spec_l07All l r c = some (if 64 < l.length ∨ 64 < r.length then List.replicate 65 zeroIt else l ++ r) := by
  rw [spec_l07All_eq, len_nat, len_nat]
  by_cases h1 : 64 < l.length
  · rw [decide_eq_true (show (64 : Int) < (l.length : Int) by omega), if_pos (.inl h1)]; rfl
  · by_cases h2 : 64 < r.length
    · rw [decide_eq_false (show ¬ (64 : Int) < (l.length : Int) by omega), decide_eq_true (show (64 : Int) < (r.length : Int) by omega), if_pos (.inr h2)]; rfl
    · rw [decide_eq_false (show ¬ (64 : Int) < (l.length : Int) by omega), decide_eq_false (show ¬ (64 : Int) < (r.length : Int) by omega), if_neg (by omega),
        decide_eq_true (show 0 + l.length < 3518437208883 by omega), decide_eq_true (show l.length + r.length < 3518437208883 by omega)]; rfl
theorem spec_EdOk_is (l r c : List It) (h : EdM l r c) : spec_EdOk l r c = some (edOk l r c) := by
  have := h.ll; have := h.rl; have := h.cl
  rw [spec_EdOk_eq]; unfold edOk
  by_cases hc : c.length ≤ 20
  · rw [len_nat, decide_eq_false (show ¬ (20 : Int) < (c.length : Int) by omega), decide_eq_true hc, cond_false, show (0 : Int) = (([] : List It).length : Int) from rfl, spec_EdOk_l4_is l r c h.ci (by omega) c [] rfl, Option.bind_some]
    cases ha : c.all itemOk
    · rfl
    · simp only [if_true, Sum.elim_inl, Bool.true_and]
      rw [spec_l07All_is l r c (by omega) (by omega), Option.bind_some]
      by_cases hlr : 64 < l.length ∨ 64 < r.length
      · rw [if_pos hlr, spec_ListOk_is _ (fun it hi => by rw [List.eq_of_mem_replicate hi]; exact zeroIt_ok) (by simp), listOk_long (show 64 < (List.replicate 65 zeroIt).length by simp), listOk_long (show 64 < (l ++ r).length by simp; omega)]; rfl
      · rw [if_neg hlr, spec_ListOk_is _ (its_app h.li h.ri) (by simp; omega)]; rfl
  · rw [len_nat, decide_eq_true (show (20 : Int) < (c.length : Int) by omega), decide_eq_false hc]; rfl
end Go.Ev

namespace Go.Ev
open Go Go.Proofs
set_option linter.unusedVariables false
set_option linter.unusedSimpArgs false

def names2 (k kind : Int) : Bool := decide (0 < tagOf k) && decide (0 < tagOf kind)
def nums2 (k kind : Int) : Bool := decide (k = 7 ∨ k = 8) && decide (kind = 7 ∨ kind = 8)
def recolorOk (it : It) (kind : Int) : Bool := itemOk it && (names2 it.1 kind || (nums2 it.1 kind || decide (kind = it.1)))
def recolor (it : It) (kind : Int) : It := if recolorOk it kind then (kind, it.2) else zeroIt
def flat6 (it : It) (b : Bool) : Int × List UInt8 × Int × Bool × Int × Bool := (it.1, it.2.1, it.2.2.1, it.2.2.2.1, it.2.2.2.2, b)
theorem impl_Recolor_is (it : It) (kind : Int) (h : ItOk it) : impl_Recolor it.1 it.2.1 it.2.2.1 it.2.2.2.1 it.2.2.2.2 kind = some (flat6 (recolor it kind) (recolorOk it kind)) := by
  have hi := impl_ItemOk_is it h.s
  obtain ⟨k, s, n, x, r⟩ := it
  simp only at hi
  rw [impl_Recolor_eq, impl_nameTag_is, impl_nameTag_is]
  unfold recolor recolorOk
  have e1 : ((some (tagOf k)).bind fun r1 => (bif decide (0 < r1) then ((some (tagOf kind)).bind fun r2 => some (kind, decide (0 < r2), k, s, n, x, r, (0 : Int), ([] : List UInt8), (0 : Int), false, (0 : Int))) else some (kind, false, k, s, n, x, r, (0 : Int), ([] : List UInt8), (0 : Int), false, (0 : Int)))) =
      some (kind, names2 k kind, k, s, n, x, r, (0 : Int), ([] : List UInt8), (0 : Int), false, (0 : Int)) := by
    unfold names2
    by_cases h1 : 0 < tagOf k <;> simp [h1]
  simp only [] at e1 ⊢
  rw [e1, Option.bind_some]
  simp only []
  generalize names2 k kind = A
  have e2 : ∀ T : Int × List UInt8 × Int × Bool × Int × Int × List UInt8 × Int × Bool × Int, (bif decide (k = 7) then (bif decide (kind = 7) then some (kind, A, true, T) else some (kind, A, decide (kind = 8), T)) else (bif decide (k = 8) then (bif decide (kind = 7) then some (kind, A, true, T) else some (kind, A, decide (kind = 8), T)) else some (kind, A, false, T))) =
      some (kind, A, nums2 k kind, T) := by
    intro T
    unfold nums2
    by_cases h7 : k = 7
    · by_cases g7 : kind = 7 <;> simp [h7, g7]
    · by_cases h8 : k = 8
      · by_cases g7 : kind = 7 <;> simp [h7, h8, g7]
      · simp [h7, h8]
  rw [e2, Option.bind_some]
  simp only []
  rw [hi, Option.bind_some]
  generalize nums2 k kind = B
  have he : decide (kind = k) = decide (kind = k) := rfl
  generalize decide (kind = k) = E
  generalize itemOk (k, s, n, x, r) = I
  cases A <;> cases B <;> cases E <;> cases I <;> rfl
theorem spec_Recolor_is (it : It) (kind : Int) (h : ItOk it) : spec_Recolor it.1 it.2.1 it.2.2.1 it.2.2.2.1 it.2.2.2.2 kind = some (flat6 (recolor it kind) (recolorOk it kind)) := by
  have hi := spec_ItemOk_is it h.s
  obtain ⟨k, s, n, x, r⟩ := it
  simp only at hi
  rw [spec_Recolor_eq]
  simp only [spec_l01In_is, hi, Option.bind_some]
  unfold recolor recolorOk
  have hk : ∀ k : Int, decide (1 ≤ k ∧ k ≤ 6) = decide (0 < tagOf k) := fun k => by
    obtain ⟨h1, h2, h3⟩ := tag_rng k
    rw [decide_eq_decide]; omega
  have hm : ∀ k : Int, decide (7 ≤ k ∧ k ≤ 8) = decide (k = 7 ∨ k = 8) := fun k => by
    rw [decide_eq_decide]; omega
  have he : decide (k = kind) = decide (kind = k) := by rw [decide_eq_decide]; exact eq_comm
  rw [hk, hk, hm, hm, he]
  unfold names2 nums2
  generalize decide (0 < tagOf k) = A1
  generalize decide (0 < tagOf kind) = A2
  generalize decide (k = 7 ∨ k = 8) = B1
  generalize decide (kind = 7 ∨ kind = 8) = B2
  generalize decide (kind = k) = E
  generalize itemOk (k, s, n, x, r) = I
  cases A1 <;> cases A2 <;> cases B1 <;> cases B2 <;> cases E <;> cases I <;> rfl

/-- copies -/
theorem clone_is (xs : List It) (h : xs.length < 1000000) : slices_Clone_Item xs = some xs := by
  refine (slices_Clone_Item_eq xs).trans ?_
  unfold cloneF limOf
  exact if_pos (show xs.length < 140737488355328 / 40 by omega)
theorem impl_ownEd_is (l r c : List It) (h : EdM l r c) : impl_ownEd l r c = some (l, r, c) := by
  have := h.ll; have := h.rl; have := h.cl
  rw [impl_ownEd_eq, clone_is l (by omega), clone_is r (by omega), clone_is c (by omega)]; rfl
theorem spec_l07Copy_is (l r c : List It) (h : EdM l r c) : spec_l07Copy l r c = some (l, r, c) := by
  have := h.ll; have := h.rl; have := h.cl
  rw [spec_l07Copy_eq, decide_eq_true (show 0 + l.length < 3518437208883 by omega), decide_eq_true (show 0 + r.length < 3518437208883 by omega), decide_eq_true (show 0 + c.length < 3518437208883 by omega)]; rfl

/-! ### what a key does -/
abbrev Ed3 := List It × List It × List It
def lastOf (xs : List It) : It := xs.getLast?.getD zeroIt
def press1 (l r c : List It) (op : Int) (it : It) : Option Ed3 :=
  if op = 0 then (if l = [] then none else some (l.dropLast, lastOf l :: r, c))
  else if op = 1 then (match r with | [] => none | x :: r' => some (l ++ [x], r', c))
  else if op = 2 then some ([], l ++ r, c)
  else if op = 3 then some (l ++ r, [], c)
  else if op = 4 then some (l ++ [it], r, c)
  else if op = 5 then (if l = [] then none else some (l.dropLast, r, c ++ [lastOf l]))
  else if op = 6 then (if c = [] then none else some (l ++ [lastOf c], r, c.dropLast))
  else if op = 7 then (if l = [] then none else if recolorOk (lastOf l) it.1 then some (l.dropLast ++ [recolor (lastOf l) it.1], r, c) else none)
  else none
theorem last_cases (xs : List It) : xs = [] ∨ ∃ ys u, xs = ys ++ [u] ∧ xs.dropLast = ys ∧ lastOf xs = u ∧ xs.length = ys.length + 1 ∧ xs[ys.length]? = some u ∧ xs.take ys.length = ys ∧ xs ≠ [] := by
  rcases List.eq_nil_or_concat xs with h | ⟨ys, u, h⟩
  · exact .inl h
  · rw [List.concat_eq_append] at h
    subst h
    exact .inr ⟨ys, u, rfl, by simp, by simp [lastOf], by simp, by simp, by simp, by simp⟩
theorem its_last {xs ys : List It} {u : It} (h : Its xs) (e : xs = ys ++ [u]) : Its ys ∧ ItOk u := ⟨fun it hi => h it (by rw [e]; simp [hi]), h u (by rw [e]; simp)⟩
theorem its_snoc {ys : List It} {u : It} (h : Its ys) (hu : ItOk u) : Its (ys ++ [u]) := its_app h fun it hi => by simp at hi; rw [hi]; exact hu
theorem its_cons {ys : List It} {u : It} (h : Its ys) (hu : ItOk u) : Its (u :: ys) := fun it hi => (List.mem_cons.1 hi).elim (fun e => by rw [e]; exact hu) (h it)
theorem its_nil : Its [] := fun it hi => by cases hi
theorem recolor_ok {it : It} {kind : Int} (h : ItOk it) (hk : -9223372036854775808 ≤ kind ∧ kind ≤ 9223372036854775807) : ItOk (recolor it kind) := by
  unfold recolor
  split
  · exact ⟨hk, h.s, h.n, h.r⟩
  · exact zeroIt_ok
/-- an editor of lists that aren't long -/
structure EdS (l r c : List It) : Prop where
  m : EdM l r c
  ll : l.length ≤ 70
  rl : r.length ≤ 70
  cl : c.length ≤ 70
theorem press1_ok {l r c : List It} {op : Int} {it : It} (h : EdM l r c) (hl : l.length + r.length ≤ 64) (hc : c.length ≤ 20) (hi : ItOk it) {e : Ed3} (he : press1 l r c op it = some e) : EdM e.1 e.2.1 e.2.2 := by
  unfold press1 at he
  split at he
  · rcases last_cases l with rfl | ⟨ys, u, e1, e2, e3, e4, _, _, e7⟩
    · simp at he
    · rw [if_neg e7, e2, e3] at he
      cases he
      obtain ⟨h1, h2⟩ := its_last h.li e1
      exact ⟨h1, its_cons h.ri h2, h.ci, by simp only; omega, by simp only [List.length_cons]; omega, by simp only; omega⟩
  · split at he
    · cases r with
      | nil => simp at he
      | cons x r' =>
        cases he
        exact ⟨its_snoc h.li (h.ri x (by simp)), fun it hi => h.ri it (by simp [hi]), h.ci, by simp at hl ⊢; omega, by simp at hl ⊢; omega, by simp only; omega⟩
    · split at he
      · cases he
        exact ⟨its_nil, its_app h.li h.ri, h.ci, by simp, by simp; omega, by simp only; omega⟩
      · split at he
        · cases he
          exact ⟨its_app h.li h.ri, its_nil, h.ci, by simp; omega, by simp, by simp only; omega⟩
        · split at he
          · cases he
            exact ⟨its_snoc h.li hi, h.ri, h.ci, by simp; omega, by simp only; omega, by simp only; omega⟩
          · split at he
            · rcases last_cases l with rfl | ⟨ys, u, e1, e2, e3, e4, _, _, e7⟩
              · simp at he
              · rw [if_neg e7, e2, e3] at he
                cases he
                obtain ⟨h1, h2⟩ := its_last h.li e1
                exact ⟨h1, h.ri, its_snoc h.ci h2, by simp only; omega, by simp only; omega, by simp; omega⟩
            · split at he
              · rcases last_cases c with rfl | ⟨ys, u, e1, e2, e3, e4, _, _, e7⟩
                · simp at he
                · rw [if_neg e7, e2, e3] at he
                  cases he
                  obtain ⟨h1, h2⟩ := its_last h.ci e1
                  exact ⟨its_snoc h.li h2, h.ri, h1, by simp; omega, by simp only; omega, by simp only; omega⟩
              · split at he
                · rcases last_cases l with rfl | ⟨ys, u, e1, e2, e3, e4, _, _, e7⟩
                  · simp at he
                  · rw [if_neg e7, e2, e3] at he
                    split at he
                    · cases he
                      obtain ⟨h1, h2⟩ := its_last h.li e1
                      exact ⟨its_snoc h1 (recolor_ok h2 hi.k), h.ri, h.ci, by simp; omega, by simp only; omega, by simp only; omega⟩
                    · cases he
                · cases he
end Go.Ev

namespace Go.Ev
open Go Go.Proofs
set_option linter.unusedVariables false
set_option linter.unusedSimpArgs false

theorem insert_is (xs : List It) (u : It) (h : xs.length < 1000000) : slices_Insert_Item xs 0 [u] = some (u :: xs) := by
  refine (slices_Insert_Item_eq xs 0 [u]).trans ?_
  unfold insF limOf
  exact if_pos ⟨rfl, rfl, show xs.length + 1 < 140737488355328 / 40 by omega⟩
theorem sub_one {n : Nat} (h : n < 1000000) : subI .i64 ((n + 1 : Nat) : Int) 1 = (n : Int) := by
  unfold subI; rw [wI64 (by omega) (by omega)]; omega
/-- what the program hands on -/
def out4 (l r c : List It) (e : Option Ed3) : List It × List It × List It × Bool := match e with
  | some e => (e.1, e.2.1, e.2.2, edOk e.1 e.2.1 e.2.2)
  | none => (l, r, c, false)
theorem edOk_rng {l r c : List It} (h : edOk l r c = true) : l.length + r.length ≤ 64 ∧ c.length ≤ 20 := by
  unfold edOk at h
  simp only [Bool.and_eq_true, decide_eq_true_eq] at h
  have := listOk_len h.2.2
  simp only [List.length_append] at this
  exact ⟨this, h.1⟩
theorem impl_pressed_is (l r c : List It) (op : Int) (it : It) (h : EdM l r c) (hl : l.length + r.length ≤ 64) (hc : c.length ≤ 20) (hi : ItOk it) :
    impl_pressed l r c op it.1 it.2.1 it.2.2.1 it.2.2.2.1 it.2.2.2.2 = some (out4 l r c (press1 l r c op it)) := by
  have hok : ∀ e, press1 l r c op it = some e → impl_EdOk e.1 e.2.1 e.2.2 = some (edOk e.1 e.2.1 e.2.2) := fun e he => impl_EdOk_is _ _ _ (press1_ok h hl hc hi he)
  rw [impl_pressed_eq, impl_ownEd_is l r c h, Option.bind_some]
  simp only []
  unfold press1 at hok ⊢
  by_cases h0 : op = 0
  · rw [if_pos h0] at hok
    rw [decide_eq_true h0, if_pos h0, cond_true]
    rcases last_cases l with rfl | ⟨ys, u, e1, e2, e3, e4, e5, e6, e7⟩
    · simp [out4, len_nat]
    · rw [if_neg e7] at hok
      have hok := hok _ rfl
      simp only [e2, e3] at hok
      rw [if_neg e7, e2, e3, len_nat, e4, sub_one (by omega), decide_eq_false (show ¬ ((ys.length + 1 : Nat) : Int) = 0 by omega), cond_false, decide_eq_true (show (0 : Int) ≤ (ys.length : Int) by omega), decide_eq_true (show (ys.length : Int) < ((ys.length + 1 : Nat) : Int) by omega), decide_eq_true (show (ys.length : Int) ≤ ((ys.length + 1 : Nat) : Int) by omega), Int.toNat_natCast, e5]
      simp only [Bool.and_self, cond_true, Option.bind_some, Nat.zero_add, e6, List.drop_zero]
      rw [show slices_Insert_Item r 0 [(u.1, u.2.1, u.2.2.1, u.2.2.2.1, u.2.2.2.2)] = some (u :: r) from insert_is r u (by omega), Option.bind_some, hok]
      rfl
  · rw [if_neg h0] at hok
    rw [decide_eq_false h0, if_neg h0, cond_false]
    by_cases h1 : op = 1
    · rw [if_pos h1] at hok
      rw [decide_eq_true h1, if_pos h1, cond_true]
      cases r with
      | nil => simp [out4, len_nat]
      | cons x r' =>
        have hok := hok _ rfl
        simp only [List.length_cons] at hl
        rw [len_nat, decide_eq_false (show ¬ ((x :: r').length : Int) = 0 by simp only [List.length_cons]; omega), decide_eq_true (show (0 : Int) < ((x :: r').length : Int) by simp only [List.length_cons]; omega), decide_eq_true (show (1 : Int) ≤ ((x :: r').length : Int) by simp only [List.length_cons]; omega),
          decide_eq_true (show l.length + 1 < 3518437208883 by omega)]
        have ht : ((x :: r').take (0 + Int.toNat ((x :: r').length : Int))).drop 1 = r' := by simp
        rw [ht]
        simp only [cond_false, cond_true, List.getElem?_cons_zero, Option.bind_some, Sum.elim_inl]
        rw [show (x.1, x.2.1, x.2.2.1, x.2.2.2.1, x.2.2.2.2) = x from rfl, hok]
        rfl
    · rw [if_neg h1] at hok
      rw [decide_eq_false h1, if_neg h1, cond_false]
      by_cases h2 : op = 2
      · rw [if_pos h2] at hok
        have hok := hok _ rfl
        rw [decide_eq_true h2, if_pos h2, cond_true, impl_edItems_is l r c (by omega) (by omega)]
        simp only [Option.bind_some, Sum.elim_inl]
        rw [hok]; rfl
      · rw [if_neg h2] at hok
        rw [decide_eq_false h2, if_neg h2, cond_false]
        by_cases h3 : op = 3
        · rw [if_pos h3] at hok
          have hok := hok _ rfl
          rw [decide_eq_true h3, if_pos h3, cond_true, impl_edItems_is l r c (by omega) (by omega)]
          simp only [Option.bind_some, Sum.elim_inl]
          rw [hok]; rfl
        · rw [if_neg h3] at hok
          rw [decide_eq_false h3, if_neg h3, cond_false]
          by_cases h4 : op = 4
          · rw [if_pos h4] at hok
            have hok := hok _ rfl
            rw [decide_eq_true h4, if_pos h4, cond_true, decide_eq_true (show l.length + 1 < 3518437208883 by omega), cond_true]
            simp only [Option.bind_some, Sum.elim_inl]
            rw [it_eta, hok]; rfl
          · rw [if_neg h4] at hok
            rw [decide_eq_false h4, if_neg h4, cond_false]
            by_cases h5 : op = 5
            · rw [if_pos h5] at hok
              rw [decide_eq_true h5, if_pos h5, cond_true]
              rcases last_cases l with rfl | ⟨ys, u, e1, e2, e3, e4, e5, e6, e7⟩
              · simp [out4, len_nat]
              · rw [if_neg e7] at hok
                have hok := hok _ rfl
                simp only [e2, e3] at hok
                rw [if_neg e7, e2, e3, len_nat, e4, sub_one (by omega), decide_eq_false (show ¬ ((ys.length + 1 : Nat) : Int) = 0 by omega), cond_false, decide_eq_true (show (0 : Int) ≤ (ys.length : Int) by omega), decide_eq_true (show (ys.length : Int) < ((ys.length + 1 : Nat) : Int) by omega), decide_eq_true (show (ys.length : Int) ≤ ((ys.length + 1 : Nat) : Int) by omega), Int.toNat_natCast, e5,
                  decide_eq_true (show c.length + 1 < 3518437208883 by omega)]
                simp only [Bool.and_self, cond_true, Option.bind_some, Nat.zero_add, e6, List.drop_zero, Sum.elim_inl]
                rw [it_eta, hok]
                rfl
            · rw [if_neg h5] at hok
              rw [decide_eq_false h5, if_neg h5, cond_false]
              by_cases h6 : op = 6
              · rw [if_pos h6] at hok
                rw [decide_eq_true h6, if_pos h6, cond_true]
                rcases last_cases c with rfl | ⟨ys, u, e1, e2, e3, e4, e5, e6, e7⟩
                · rw [len_nat, show subI .i64 (([] : List It).length : Int) 1 = -1 from by decide]; rfl
                · rw [if_neg e7] at hok
                  have hok := hok _ rfl
                  simp only [e2, e3] at hok
                  rw [if_neg e7, e2, e3, len_nat, e4, sub_one (by omega), decide_eq_false (show ¬ (ys.length : Int) < 0 by omega), cond_false, decide_eq_true (show (0 : Int) ≤ (ys.length : Int) by omega), decide_eq_true (show (ys.length : Int) < ((ys.length + 1 : Nat) : Int) by omega), decide_eq_true (show (ys.length : Int) ≤ ((ys.length + 1 : Nat) : Int) by omega), Int.toNat_natCast, e5,
                    decide_eq_true (show l.length + 1 < 3518437208883 by omega)]
                  simp only [Bool.and_self, cond_true, Option.bind_some, Nat.zero_add, e6, List.drop_zero, Sum.elim_inl]
                  rw [it_eta, hok]
                  rfl
              · rw [if_neg h6] at hok
                rw [decide_eq_false h6, if_neg h6, cond_false]
                by_cases h7 : op = 7
                · rw [if_pos h7] at hok
                  rw [decide_eq_true h7, if_pos h7, cond_true]
                  rcases last_cases l with rfl | ⟨ys, u, e1, e2, e3, e4, e5, e6, e7⟩
                  · simp [out4, len_nat]
                  · rw [if_neg e7] at hok
                    obtain ⟨i1, i2⟩ := its_last h.li e1
                    rw [if_neg e7, e2, e3, len_nat, e4, sub_one (by omega), decide_eq_false (show ¬ ((ys.length + 1 : Nat) : Int) = 0 by omega), cond_false, decide_eq_true (show (0 : Int) ≤ (ys.length : Int) by omega), decide_eq_true (show (ys.length : Int) < ((ys.length + 1 : Nat) : Int) by omega), Int.toNat_natCast, e5]
                    simp only [Bool.and_self, cond_true, Option.bind_some]
                    rw [impl_Recolor_is u it.1 i2, Option.bind_some]
                    simp only [e2, e3] at hok
                    simp only [flat6]
                    cases hr : recolorOk u it.1
                    · simp [out4]
                    · rw [if_pos hr] at hok
                      have hok := hok _ rfl
                      have hset : l.set ys.length (recolor u it.1) = ys ++ [recolor u it.1] := by rw [e1]; simp
                      simp only [Bool.not_true, cond_false, Option.bind_some, Sum.elim_inl, it_eta, hset, if_true]
                      rw [hok]; rfl
                · rw [decide_eq_false h7, if_neg h7]; rfl
/-- a key on an editor -/
def pressE (l r c : List It) (op : Int) (it : It) : List It × List It × List It × Bool :=
  if edOk l r c then (if (out4 l r c (press1 l r c op it)).2.2.2 then out4 l r c (press1 l r c op it) else (l, r, c, false)) else ([], [], [], false)
theorem impl_Press_is (l r c : List It) (op : Int) (it : It) (h : EdM l r c) (hi : ItOk it) :
    impl_Press l r c op it.1 it.2.1 it.2.2.1 it.2.2.2.1 it.2.2.2.2 = some (pressE l r c op it) := by
  rw [impl_Press_eq, impl_EdOk_is l r c h, Option.bind_some]; unfold pressE
  cases he : edOk l r c
  · rfl
  · obtain ⟨h1, h2⟩ := edOk_rng he
    rw [impl_pressed_is l r c op it h h1 h2 hi]
    simp only [Bool.not_true, cond_false, Option.bind_some, if_true]
    cases hp : press1 l r c op it with
    | none => simp only [out4, Bool.not_false, cond_true, impl_ownEd_is l r c h, Option.bind_some]; rfl
    | some e =>
      have hm := press1_ok h h1 h2 hi hp
      simp only [out4]
      rcases Bool.eq_false_or_eq_true (edOk e.1 e.2.1 e.2.2) with hk | hk
      · simp only [hk, Bool.not_true, cond_false, impl_ownEd_is _ _ _ hm, Option.bind_some, if_true]
      · simp only [hk, Bool.not_false, cond_true, impl_ownEd_is l r c h, Option.bind_some]; rfl
end Go.Ev

namespace Go.Ev
open Go Go.Proofs
set_option linter.unusedVariables false
set_option linter.unusedSimpArgs false

def out4s (l r c : List It) (e : Option Ed3) : List It × List It × List It × Bool := match e with
  | some e => (e.1, e.2.1, e.2.2, true)
  | none => (l, r, c, false)
theorem out4s_some (l r c : List It) (e : Ed3) : out4s l r c (some e) = (e.1, e.2.1, e.2.2, true) := rfl
theorem out4s_none (l r c : List It) : out4s l r c none = (l, r, c, false) := rfl
/-- where the cursor goes -/
theorem move_at (l r c all : List It) (n : Nat) (hn : n ≤ all.length) (ha : all.length < 1000) : ((spec_l01In (n : Int) 0 (len all)).bind fun r3 =>
    (bif !r3 then
      some (l, r, c, false)
    else
      (bif (decide (0 ≤ (n : Int))) && (decide ((n : Int) ≤ (all.length : Int))) then
        (bif decide (0 + ((all.take (0 + (n : Int).toNat)).drop 0).length < 3518437208883) then
          (bif (decide (0 ≤ (n : Int))) && (decide ((n : Int) ≤ (all.length : Int))) then
            (bif decide (0 + ((all.take (0 + (all.length : Int).toNat)).drop (0 + (n : Int).toNat)).length < 3518437208883) then
              some ((all.take (0 + (n : Int).toNat)).drop 0, (all.take (0 + (all.length : Int).toNat)).drop (0 + (n : Int).toNat), c, true)
            else
              none)
          else
            none)
        else
          none)
      else
        none))) = some (all.take n, all.drop n, c, true) := by
  rw [spec_l01In_is, len_nat, decide_eq_true (show (0 : Int) ≤ (n : Int) ∧ (n : Int) ≤ (all.length : Int) by omega), Option.bind_some, decide_eq_true (show (0 : Int) ≤ (n : Int) by omega), decide_eq_true (show (n : Int) ≤ (all.length : Int) by omega), Int.toNat_natCast, Int.toNat_natCast]
  simp only [Nat.zero_add, List.drop_zero, List.take_length]
  rw [decide_eq_true (show (all.take n).length < 3518437208883 by simp; omega), decide_eq_true (show (all.drop n).length < 3518437208883 by simp; omega)]
  rfl
theorem spec_l07Move_is (l r c : List It) (op : Int) (it : It) (hl : l.length + r.length ≤ 64) (h03 : 0 ≤ op ∧ op ≤ 3) : spec_l07Move l r c op = some (out4s l r c (press1 l r c op it)) := by
  rw [spec_l07Move_eq, spec_l07All_is l r c (by omega) (by omega), if_neg (by omega), Option.bind_some]
  unfold press1
  have hall : (l ++ r).length < 1000 := by simp; omega
  by_cases h0 : op = 0
  · rw [decide_eq_true h0, if_pos h0, cond_true, Option.bind_some]
    simp only []
    rcases last_cases l with rfl | ⟨ys, u, e1, e2, e3, e4, e5, e6, e7⟩
    · rw [len_nat, show subI .i64 (([] : List It).length : Int) 1 = -1 from by decide, spec_l01In_is, decide_eq_false (by omega)]; rfl
    · have := move_at l r c (l ++ r) ys.length (by simp; omega) hall
      rw [if_neg e7, e2, e3, len_nat, e4, sub_one (by omega)]
      refine this.trans ?_
      rw [e1, out4s_some]
      simp
  · rw [decide_eq_false h0, if_neg h0, cond_false]
    by_cases h1 : op = 1
    · rw [decide_eq_true h1, if_pos h1, cond_true, Option.bind_some]
      simp only []
      rw [len_nat, add_one (by omega)]
      cases r with
      | nil =>
        rw [spec_l01In_is, decide_eq_false (by rw [len_nat]; simp; omega)]; rfl
      | cons x r' =>
        have := move_at l (x :: r') c (l ++ x :: r') (l.length + 1) (by simp) hall
        refine this.trans ?_
        have ea : l ++ x :: r' = (l ++ [x]) ++ r' := by simp
        have el : l.length + 1 = (l ++ [x]).length := by simp
        rw [out4s_some, ea, el, List.take_left, List.drop_left]
    · rw [decide_eq_false h1, if_neg h1, cond_false]
      by_cases h2 : op = 2
      · rw [decide_eq_true h2, if_pos h2, cond_true, Option.bind_some]
        simp only []
        have := move_at l r c (l ++ r) 0 (by omega) hall
        refine this.trans ?_
        rw [out4s_some]; simp
      · have h3 : op = 3 := by omega
        rw [decide_eq_false h2, if_neg h2, cond_false, if_pos h3, Option.bind_some]
        simp only []
        have := move_at l r c (l ++ r) (l ++ r).length (by omega) hall
        rw [← len_nat] at this
        refine this.trans ?_
        rw [out4s_some, List.take_length, List.drop_length]
theorem spec_l07Change_is (l r c : List It) (op : Int) (it : It) (h : EdM l r c) (hl : l.length + r.length ≤ 64) (hc : c.length ≤ 20) (hi : ItOk it) (h03 : ¬ (0 ≤ op ∧ op ≤ 3)) :
    ∃ e, spec_l07Change l r c op it.1 it.2.1 it.2.2.1 it.2.2.2.1 it.2.2.2.2 = some e ∧ ((press1 l r c op it = none ∧ e.2.2.2 = false) ∨ e = out4s l r c (press1 l r c op it)) := by
  have h0 : ¬ op = 0 := by omega
  have h1 : ¬ op = 1 := by omega
  have h2 : ¬ op = 2 := by omega
  have h3 : ¬ op = 3 := by omega
  rw [spec_l07Change_eq]
  unfold press1
  rw [if_neg h0, if_neg h1, if_neg h2, if_neg h3]
  by_cases h4 : op = 4
  · rw [decide_eq_true h4, if_pos h4, cond_true, decide_eq_true (show l.length + 1 < 3518437208883 by omega), cond_true]
    exact ⟨_, rfl, .inr rfl⟩
  · rw [decide_eq_false h4, if_neg h4, cond_false]
    by_cases h5 : op = 5
    · rw [decide_eq_true h5, if_pos h5, cond_true, Option.bind_some]
      simp only []
      rcases last_cases l with rfl | ⟨ys, u, e1, e2, e3, e4, e5, e6, e7⟩
      · subst h5
        refine ⟨([], r, c, false), ?_, .inl ⟨by simp, rfl⟩⟩
        simp [len_nat]
      · rw [if_neg e7, e2, e3, len_nat, e4, sub_one (by omega), decide_eq_true (show (0 : Int) < ((ys.length + 1 : Nat) : Int) by omega), decide_eq_true (show (0 : Int) ≤ (ys.length : Int) by omega), decide_eq_true (show (ys.length : Int) < ((ys.length + 1 : Nat) : Int) by omega), decide_eq_true (show (ys.length : Int) ≤ ((ys.length + 1 : Nat) : Int) by omega), Int.toNat_natCast, e5,
          decide_eq_true (show c.length + 1 < 3518437208883 by omega)]
        simp only [Bool.and_self, cond_true, Option.bind_some, Nat.zero_add, e6, List.drop_zero, Sum.elim_inl]
        exact ⟨_, rfl, .inr rfl⟩
    · rw [decide_eq_false h5, if_neg h5, cond_false, Option.bind_some]
      simp only [cond_false]
      by_cases h6 : op = 6
      · have h7 : ¬ op = 7 := by omega
        rw [decide_eq_true h6, if_pos h6, cond_true]
        rcases last_cases c with rfl | ⟨ys, u, e1, e2, e3, e4, e5, e6, e7⟩
        · refine ⟨(l, r, [], false), ?_, .inl ⟨by simp, rfl⟩⟩
          simp [len_nat, h7]
        · rw [if_neg e7, e2, e3, len_nat, len_nat, e4, sub_one (by omega), decide_eq_true (show (0 : Int) < ((ys.length + 1 : Nat) : Int) by omega), decide_eq_true (show (0 : Int) ≤ (ys.length : Int) by omega), decide_eq_true (show (ys.length : Int) < ((ys.length + 1 : Nat) : Int) by omega), decide_eq_true (show (ys.length : Int) ≤ ((ys.length + 1 : Nat) : Int) by omega), Int.toNat_natCast, e5,
            decide_eq_true (show l.length + 1 < 3518437208883 by omega)]
          simp only [Bool.and_self, cond_true, Option.bind_some, Nat.zero_add, e6, List.drop_zero, Sum.elim_inl]
          exact ⟨_, rfl, .inr rfl⟩
      · rw [decide_eq_false h6, if_neg h6, cond_false]
        by_cases h7 : op = 7
        · rw [decide_eq_true h7, if_pos h7, cond_true]
          rcases last_cases l with rfl | ⟨ys, u, e1, e2, e3, e4, e5, e6, e7⟩
          · refine ⟨([], r, c, false), ?_, .inl ⟨by simp, rfl⟩⟩
            simp [len_nat]
          · obtain ⟨i1, i2⟩ := its_last h.li e1
            rw [if_neg e7, e2, e3, len_nat, e4, sub_one (by omega), decide_eq_true (show (0 : Int) < ((ys.length + 1 : Nat) : Int) by omega), decide_eq_true (show (0 : Int) ≤ (ys.length : Int) by omega), decide_eq_true (show (ys.length : Int) < ((ys.length + 1 : Nat) : Int) by omega), Int.toNat_natCast, e5]
            simp only [Bool.and_self, cond_true, Option.bind_some]
            rw [spec_Recolor_is u it.1 i2, Option.bind_some]
            simp only [flat6, Option.bind_some, Sum.elim_inr, it_eta]
            have hset : l.set ys.length (recolor u it.1) = ys ++ [recolor u it.1] := by rw [e1]; simp
            rw [hset]
            refine ⟨_, rfl, ?_⟩
            cases hr : recolorOk u it.1
            · exact .inl ⟨by simp, rfl⟩
            · exact .inr (by simp [out4s])
        · rw [decide_eq_false h7, if_neg h7, cond_false]
          exact ⟨_, rfl, .inl ⟨rfl, rfl⟩⟩
theorem spec_Press_is (l r c : List It) (op : Int) (it : It) (h : EdM l r c) (hi : ItOk it) :
    spec_Press l r c op it.1 it.2.1 it.2.2.1 it.2.2.2.1 it.2.2.2.2 = some (pressE l r c op it) := by
  rw [spec_Press_eq, spec_EdOk_is l r c h, Option.bind_some]; unfold pressE
  cases he : edOk l r c
  · rfl
  · obtain ⟨h1, h2⟩ := edOk_rng he
    rw [spec_l07Copy_is l r c h]
    simp only [Bool.not_true, cond_false, Option.bind_some, if_true, spec_l01In_is]
    have fin : ∀ e : List It × List It × List It × Bool, ((press1 l r c op it = none ∧ e.2.2.2 = false) ∨ e = out4s l r c (press1 l r c op it)) →
        (bif !e.2.2.2 then (spec_l07Copy l r c).bind fun r7 => some (r7.1, r7.2.1, r7.2.2, false)
          else (spec_EdOk e.1 e.2.1 e.2.2.1).bind fun r8 => (bif !r8 then (spec_l07Copy l r c).bind fun r9 => some (r9.1, r9.2.1, r9.2.2, false) else some (e.1, e.2.1, e.2.2.1, true))) =
        some (if (out4 l r c (press1 l r c op it)).2.2.2 then out4 l r c (press1 l r c op it) else (l, r, c, false)) := by
      intro e hp
      rw [spec_l07Copy_is l r c h]
      rcases hp with ⟨hp, hf⟩ | hp
      · rw [hp, hf]; rfl
      · subst hp
        cases hp : press1 l r c op it with
        | none => rfl
        | some e =>
          have hm := press1_ok h h1 h2 hi hp
          simp only [out4s, out4, spec_EdOk_is _ _ _ hm, Bool.not_true, cond_false, Option.bind_some]
          rcases Bool.eq_false_or_eq_true (edOk e.1 e.2.1 e.2.2) with hk | hk
          · simp only [hk, Bool.not_true, cond_false, if_true]
          · simp only [hk, Bool.not_false, cond_true]; rfl
    by_cases h03 : 0 ≤ op ∧ op ≤ 3
    · rw [decide_eq_true h03, cond_true, spec_l07Move_is l r c op it h1 h03]
      simp only [Option.bind_some]
      exact fin _ (.inr rfl)
    · obtain ⟨e, q1, q2⟩ := spec_l07Change_is l r c op it h h1 h2 hi h03
      rw [decide_eq_false h03, cond_false, q1]
      simp only [Option.bind_some]
      exact fin e q2
end Go.Ev

namespace Go.Ev
open Go Go.Proofs
set_option linter.unusedVariables false
set_option linter.unusedSimpArgs false

theorem laws_sameItems_is (xs ys : List It) (h : xs.length < 4000000000000000000) : laws_sameItems xs ys = some (decide (xs = ys)) := by
  rw [laws_sameItems_eq]
  by_cases hl : xs.length = ys.length
  · have := eq_loop xs ys xs.length rfl hl.symm (laws_sameItems_l4 xs ys) (fun i u v hi h1 h2 => by
      rw [laws_sameItems_l4_eq, nth_nat, nth_nat, h1, h2, len_nat, decide_eq_true (show (i : Int) < (xs.length : Int) by omega), add_one (by omega)]
      simp only [cond_true, Option.bind_some, it_test]
      by_cases he : u = v <;> simp [he]) (by rw [laws_sameItems_l4_eq]; simp [len_nat]) xs.length 0 (by omega)
    have hl' : (xs.length : Int) = (ys.length : Int) := by omega
    simp only [len_nat, hl', decide_true, Bool.not_true, cond_false]
    rw [show (0 : Int) = ((0 : Nat) : Int) from rfl, this]
    by_cases he : xs = ys <;> simp [he]
  · have hl' : ¬ ((xs.length : Int) = (ys.length : Int)) := by omega
    have he : ¬ xs = ys := fun e => hl (by rw [e])
    simp [len_nat, hl', he]
theorem laws_sameCells_is (xs ys : List Int) (h : xs.length < 4000000000000000000) : laws_sameCells xs ys = some (decide (xs = ys)) := by
  rw [laws_sameCells_eq]
  by_cases hl : xs.length = ys.length
  · have := eq_loop xs ys xs.length rfl hl.symm (laws_sameCells_l4 xs ys) (fun i u v hi h1 h2 => by
      rw [laws_sameCells_l4_eq, nth_nat, nth_nat, h1, h2, len_nat, decide_eq_true (show (i : Int) < (xs.length : Int) by omega), add_one (by omega)]
      by_cases he : u = v <;> simp [he]) (by rw [laws_sameCells_l4_eq]; simp [len_nat]) xs.length 0 (by omega)
    have hl' : (xs.length : Int) = (ys.length : Int) := by omega
    simp only [len_nat, hl', decide_true, Bool.not_true, cond_false]
    rw [show (0 : Int) = ((0 : Nat) : Int) from rfl, this]
    by_cases he : xs = ys <;> simp [he]
  · have hl' : ¬ ((xs.length : Int) = (ys.length : Int)) := by omega
    have he : ¬ xs = ys := fun e => hl (by rw [e])
    simp [len_nat, hl', he]
theorem laws_sameEd_self (l r c : List It) (h : l.length < 1000000 ∧ r.length < 1000000 ∧ c.length < 1000000) : laws_sameEd l r c l r c = some true := by
  rw [laws_sameEd_eq, laws_sameItems_is _ _ (by omega), laws_sameItems_is _ _ (by omega), laws_sameItems_is _ _ (by omega)]
  simp
def edCells (l r c : List It) : List Int := if edOk l r c then (unp (l ++ r) []).1 else []
theorem impl_EdCells_is (l r c : List It) (h : EdM l r c) : impl_EdCells l r c = some (edCells l r c) := by
  have := h.ll; have := h.rl
  rw [impl_EdCells_eq, impl_EdOk_is l r c h, Option.bind_some]; unfold edCells
  cases edOk l r c
  · rfl
  · rw [impl_edItems_is l r c (by omega) (by omega)]
    simp only [Bool.not_true, cond_false, Option.bind_some, if_true]
    rw [impl_Unparse_is _ (its_app h.li h.ri) (by simp; omega)]; rfl
theorem edCells_len (l r c : List It) : (edCells l r c).length ≤ 64 := by
  unfold edCells
  split
  · rename_i h
    unfold edOk at h
    simp only [Bool.and_eq_true] at h
    have h := h.2.2
    unfold listOk at h
    simp only [Bool.and_eq_true] at h
    exact (unp_yes _ [] h.1).2.2 (by simp)
  · simp
/-- no move changes what stands -/
theorem press1_move {l r c : List It} {op : Int} {it : It} {e : Ed3} (h : press1 l r c op it = some e) (hop : op ≤ 3) : e.1 ++ e.2.1 = l ++ r ∧ e.2.2 = c := by
  unfold press1 at h
  split at h
  · rcases last_cases l with rfl | ⟨ys, u, e1, e2, e3, e4, _, _, e7⟩
    · simp at h
    · rw [if_neg e7, e2, e3] at h
      cases h
      rw [e1]; simp
  · split at h
    · cases r with
      | nil => simp at h
      | cons x r' => cases h; simp
    · split at h
      · cases h; simp
      · split at h
        · cases h; simp
        · split at h
          · omega
          · split at h
            · omega
            · split at h
              · omega
              · split at h
                · omega
                · cases h
theorem edOk_app {l r l' r' c : List It} (h : l' ++ r' = l ++ r) : edOk l' r' c = edOk l r c := by unfold edOk; rw [h]
theorem pressE_none {l r c : List It} {op : Int} {it : It} (he : edOk l r c = true) (hp : press1 l r c op it = none) : pressE l r c op it = (l, r, c, false) := by
  unfold pressE
  rw [if_pos he, hp]; rfl
theorem pressE_some {l r c : List It} {op : Int} {it : It} {e : Ed3} (he : edOk l r c = true) (hp : press1 l r c op it = some e) (hk : edOk e.1 e.2.1 e.2.2 = true) : pressE l r c op it = (e.1, e.2.1, e.2.2, true) := by
  have ho : out4 l r c (some e) = (e.1, e.2.1, e.2.2, true) := by unfold out4; simp only [hk]
  unfold pressE
  rw [if_pos he, hp, ho]; rfl
theorem pressE_bad {l r c : List It} {op : Int} {it : It} {e : Ed3} (he : edOk l r c = true) (hp : press1 l r c op it = some e) (hk : edOk e.1 e.2.1 e.2.2 = false) : pressE l r c op it = (l, r, c, false) := by
  have ho : out4 l r c (some e) = (e.1, e.2.1, e.2.2, false) := by unfold out4; simp only [hk]
  unfold pressE
  rw [if_pos he, hp, ho]; rfl
theorem pressE_left {l r c : List It} (he : edOk l r c = true) : pressE l r c 0 zeroIt = if l = [] then (l, r, c, false) else (l.dropLast, lastOf l :: r, c, true) := by
  have hp : press1 l r c 0 zeroIt = if l = [] then none else some (l.dropLast, lastOf l :: r, c) := rfl
  by_cases hl : l = []
  · rw [if_pos hl] at hp ⊢
    exact pressE_none he hp
  · rw [if_neg hl] at hp ⊢
    have ha : l.dropLast ++ lastOf l :: r = l ++ r := by
      rcases last_cases l with h | ⟨ys, u, e1, e2, e3, _⟩
      · exact absurd h hl
      · rw [e2, e3, e1]; simp
    exact pressE_some he hp (by rw [edOk_app ha]; exact he)
theorem pressE_right {l r c : List It} {x : It} (he : edOk l (x :: r) c = true) : pressE l (x :: r) c 1 zeroIt = (l ++ [x], r, c, true) := by
  have hp : press1 l (x :: r) c 1 zeroIt = some (l ++ [x], r, c) := rfl
  have ha : (l ++ [x]) ++ r = l ++ x :: r := by simp
  exact pressE_some he hp (by rw [edOk_app ha]; exact he)
theorem lastOf_join {l : List It} (h : l ≠ []) : l.dropLast ++ [lastOf l] = l := by
  rcases last_cases l with h' | ⟨ys, u, e1, e2, e3, _⟩
  · exact absurd h' h
  · rw [e2, e3, e1]
/-- editors behind a key are of the machine's numbers -/
theorem pressE_m {l r c : List It} {op : Int} {it : It} (h : EdM l r c) (hi : ItOk it) : EdM (pressE l r c op it).1 (pressE l r c op it).2.1 (pressE l r c op it).2.2.1 := by
  rcases Bool.eq_false_or_eq_true (edOk l r c) with he | he
  · obtain ⟨h1, h2⟩ := edOk_rng he
    cases hp : press1 l r c op it with
    | none => rw [pressE_none he hp]; exact h
    | some e =>
      rcases Bool.eq_false_or_eq_true (edOk e.1 e.2.1 e.2.2) with hk | hk
      · rw [pressE_some he hp hk]; exact press1_ok h h1 h2 hi hp
      · rw [pressE_bad he hp hk]; exact h
  · unfold pressE
    rw [he]
    exact ⟨its_nil, its_nil, its_nil, by simp, by simp, by simp⟩
theorem moves_body (l r c : List It) (op : Int) (it : It) (h : EdM l r c) (hi : ItOk it) :
    ((some (pressE l r c op it)).bind fun r4 =>
      (some (pressE l r c op it)).bind fun r5 =>
      (bif !(r4.2.2.2 == r5.2.2.2) then
        some false
      else
        (spec_EdOk l r c).bind fun r6 =>
        (bif !r6 then
          (laws_sameEd r4.1 r4.2.1 r4.2.2.1 ([] : List It) ([] : List It) ([] : List It)).bind fun r7 =>
          some r7
        else
          ((
            (bif !r4.2.2.2 then
              (laws_sameEd r4.1 r4.2.1 r4.2.2.1 l r c).bind fun r8 =>
              (bif !r8 then
                some (true, l, r, c)
              else
                (bif decide (op ≤ 3) then
                  (impl_EdCells r4.1 r4.2.1 r4.2.2.1).bind fun r9 =>
                  (impl_EdCells l r c).bind fun r10 =>
                  (laws_sameCells r9 r10).bind fun r11 =>
                  some (!r11, l, r, c)
                else
                  some (false, l, r, c)))
            else
              (bif decide (op ≤ 3) then
                (impl_EdCells r4.1 r4.2.1 r4.2.2.1).bind fun r12 =>
                (impl_EdCells l r c).bind fun r13 =>
                (laws_sameCells r12 r13).bind fun r14 =>
                some (!r14, l, r, c)
              else
                some (false, l, r, c))) : Option (Bool × List It × List It × List It))).bind fun d15 =>
          (bif d15.1 then
            some false
          else
            (impl_Press d15.2.1 d15.2.2.1 d15.2.2.2 0 0 ([] : List UInt8) 0 false 0).bind fun r16 =>
            (impl_Press r16.1 r16.2.1 r16.2.2.1 1 0 ([] : List UInt8) 0 false 0).bind fun r17 =>
            (bif r16.2.2.2 == (decide (0 < len d15.2.1)) then
              (bif !r16.2.2.2 then
                some true
              else
                (bif r17.2.2.2 then
                  (laws_sameEd r17.1 r17.2.1 r17.2.2.1 d15.2.1 d15.2.2.1 d15.2.2.2).bind fun r18 =>
                  some r18
                else
                  some false))
            else
              some false))))) = some true := by
  have q1 := h.ll; have q2 := h.rl; have q3 := h.cl
  have key : ∀ l r c, EdM l r c → ∀ op, impl_Press l r c op 0 ([] : List UInt8) 0 false 0 = some (pressE l r c op zeroIt) := fun l r c h op => impl_Press_is l r c op zeroIt h zeroIt_ok
  simp only [Option.bind_some, spec_EdOk_is l r c h, beq_self_eq_true, Bool.not_true, cond_false]
  rcases Bool.eq_false_or_eq_true (edOk l r c) with he | he
  · simp only [he, Bool.not_true, cond_false]
    have hd : (((bif !(pressE l r c op it).2.2.2 then
              (laws_sameEd (pressE l r c op it).1 (pressE l r c op it).2.1 (pressE l r c op it).2.2.1 l r c).bind fun r8 =>
              (bif !r8 then
                some (true, l, r, c)
              else
                (bif decide (op ≤ 3) then
                  (impl_EdCells (pressE l r c op it).1 (pressE l r c op it).2.1 (pressE l r c op it).2.2.1).bind fun r9 =>
                  (impl_EdCells l r c).bind fun r10 =>
                  (laws_sameCells r9 r10).bind fun r11 =>
                  some (!r11, l, r, c)
                else
                  some (false, l, r, c)))
            else
              (bif decide (op ≤ 3) then
                (impl_EdCells (pressE l r c op it).1 (pressE l r c op it).2.1 (pressE l r c op it).2.2.1).bind fun r12 =>
                (impl_EdCells l r c).bind fun r13 =>
                (laws_sameCells r12 r13).bind fun r14 =>
                some (!r14, l, r, c)
              else
                some (false, l, r, c))) : Option (Bool × List It × List It × List It))) = some (false, l, r, c) := by
      have hcl := edCells_len l r c
      have hpm : EdM (pressE l r c op it).1 (pressE l r c op it).2.1 (pressE l r c op it).2.2.1 := pressE_m h hi
      have hcells := impl_EdCells_is l r c h
      have hno : (pressE l r c op it).2.2.2 = false → pressE l r c op it = (l, r, c, false) := by
        intro hf
        cases hp : press1 l r c op it with
        | none => exact pressE_none he hp
        | some e =>
          rcases Bool.eq_false_or_eq_true (edOk e.1 e.2.1 e.2.2) with hk | hk
          · rw [pressE_some he hp hk] at hf; cases hf
          · exact pressE_bad he hp hk
      cases hk : (pressE l r c op it).2.2.2
      · have hp := hno hk
        rw [hp]
        simp only [Bool.not_false, cond_true, laws_sameEd_self l r c (by omega), Option.bind_some, Bool.not_true, cond_false, hcells, laws_sameCells_is _ _ (show (edCells l r c).length < 4000000000000000000 by omega), decide_true]
        by_cases h3 : op ≤ 3 <;> simp [h3]
      · simp only [Bool.not_true, cond_false]
        by_cases h3 : op ≤ 3
        · have hsame : edCells (pressE l r c op it).1 (pressE l r c op it).2.1 (pressE l r c op it).2.2.1 = edCells l r c := by
            cases hp : press1 l r c op it with
            | none => rw [pressE_none he hp] at hk; cases hk
            | some e =>
              obtain ⟨m1, m2⟩ := press1_move hp h3
              rcases Bool.eq_false_or_eq_true (edOk e.1 e.2.1 e.2.2) with hke | hke
              · rw [pressE_some he hp hke]
                simp only []
                unfold edCells
                rw [m2, edOk_app m1, m1]
              · rw [pressE_bad he hp hke] at hk; cases hk
          rw [decide_eq_true h3, cond_true, impl_EdCells_is _ _ _ hpm, hcells, hsame]
          simp only [Option.bind_some, laws_sameCells_is _ _ (show (edCells l r c).length < 4000000000000000000 by omega), decide_true, Bool.not_true]
        · rw [decide_eq_false h3, cond_false]
    rw [hd]
    simp only [Option.bind_some, cond_false]
    rw [key l r c h 0, pressE_left he]
    by_cases hl : l = []
    · subst hl
      rw [if_pos rfl]
      simp only [Option.bind_some]
      rw [key [] r c h 1]
      simp [len_nat]
    · rw [if_neg hl]
      simp only [Option.bind_some]
      have hm2 : EdM (pressE l r c 0 zeroIt).1 (pressE l r c 0 zeroIt).2.1 (pressE l r c 0 zeroIt).2.2.1 := pressE_m h zeroIt_ok
      rw [pressE_left he, if_neg hl] at hm2
      have ha : l.dropLast ++ lastOf l :: r = l ++ r := by
        have := lastOf_join hl
        rw [show lastOf l :: r = [lastOf l] ++ r from rfl, ← List.append_assoc, this]
      have he2 : edOk l.dropLast (lastOf l :: r) c = true := by rw [edOk_app ha]; exact he
      rw [key _ _ _ hm2 1, pressE_right he2, lastOf_join hl]
      have hlen : (0 : Int) < len l := by
        rw [len_nat]
        have : 0 < l.length := List.length_pos_iff.2 hl
        omega
      simp only [Option.bind_some, decide_eq_true hlen, beq_self_eq_true, cond_true, Bool.not_true, cond_false, laws_sameEd_self l r c (by omega)]
  · have hp : pressE l r c op it = ([], [], [], false) := by unfold pressE; rw [he]; rfl
    rw [hp]
    simp only [he, Bool.not_false, cond_true, laws_sameEd_self [] [] [] (by simp), Option.bind_some]
end Go.Ev

namespace Go.Ev
open Go Go.Proofs
set_option linter.unusedVariables false
set_option linter.unusedSimpArgs false

/-- a cursor stands in its bytes -/
def Cu (b : List Int) (i : Int) : Prop := 0 ≤ i ∧ i ≤ (b.length : Int) ∧ (b.length : Int) ≤ 1048576
theorem and255 (a : Int) : 0 ≤ andI .i64 a 255 ∧ andI .i64 a 255 ≤ 255 := by
  have h : (BitVec.ofInt IntKind.i64.bits a &&& BitVec.ofInt IntKind.i64.bits 255).toNat ≤ 255 := by
    rw [BitVec.toNat_and]
    exact Nat.le_trans Nat.and_le_right (by decide)
  unfold andI
  rw [wI64 (by omega) (by omega)]
  omega
theorem l01Byte_ok {b : List Int} {i : Int} (h : Int) (hc : Cu b i) : ∃ x i' h', spec_l01Byte b i h = some (x, b, i', h') ∧ 0 ≤ x ∧ x ≤ 255 ∧ Cu b i' := by
  obtain ⟨c1, c2, c3⟩ := hc
  rw [spec_l01Byte_eq]
  by_cases hi : i < (b.length : Int)
  · obtain ⟨n, rfl⟩ := Int.eq_ofNat_of_zero_le c1
    have hb : b[n]? = some (b[n]'(by omega)) := List.getElem?_eq_getElem (by omega)
    rw [len_nat, decide_eq_true hi, nth_nat, hb]
    refine ⟨_, _, _, rfl, (and255 _).1, (and255 _).2, ?_⟩
    rw [add_one (by omega)]
    exact ⟨by omega, by omega, c3⟩
  · rw [len_nat, decide_eq_false hi]
    exact ⟨_, _, _, rfl, (and255 _).1, (and255 _).2, c1, c2, c3⟩
theorem l01Below_ok {b : List Int} {i : Int} (h n : Int) (hc : Cu b i) : ∃ x i' h', spec_l01Below b i h n = some (x, b, i', h') ∧ 0 ≤ x ∧ (x < n ∨ n ≤ 0 ∧ x = 0) ∧ Cu b i' := by
  rw [spec_l01Below_eq]
  by_cases h0 : n ≤ 0
  · rw [decide_eq_true h0]
    exact ⟨_, _, _, rfl, by omega, by omega, hc⟩
  · rw [decide_eq_false h0, cond_false]
    have hn : decide (n = 0) = false := decide_eq_false (by omega)
    have hm : ∀ x : Int, 0 ≤ x → 0 ≤ remI x n ∧ remI x n < n := fun x hx => by
      unfold remI
      rw [Int.tmod_eq_emod_of_nonneg hx]
      exact ⟨Int.emod_nonneg _ (by omega), Int.emod_lt_of_pos _ (by omega)⟩
    by_cases h1 : n ≤ 256
    · obtain ⟨x, i1, g1, e1, a1, a2, c1⟩ := l01Byte_ok h hc
      rw [decide_eq_true h1, cond_true, e1]
      simp only [Option.bind_some, hn, Bool.not_false, cond_true]
      exact ⟨_, _, _, rfl, (hm x a1).1, .inl (hm x a1).2, c1⟩
    · obtain ⟨x, i1, g1, e1, a1, a2, c1⟩ := l01Byte_ok h hc
      obtain ⟨y, i2, g2, e2, b1, b2, c2⟩ := l01Byte_ok g1 c1
      obtain ⟨z, i3, g3, e3, d1, d2, c3⟩ := l01Byte_ok g2 c2
      obtain ⟨w, i4, g4, e4, f1, f2, c4⟩ := l01Byte_ok g3 c3
      rw [decide_eq_false h1, cond_false, e1]
      simp only [Option.bind_some, e2, e3, e4, hn, Bool.not_false, cond_true]
      have m1 : mulI .i64 x 16777216 = x * 16777216 := by unfold mulI; exact wI64 (by omega) (by omega)
      have m2 : mulI .i64 y 65536 = y * 65536 := by unfold mulI; exact wI64 (by omega) (by omega)
      have m3 : mulI .i64 z 256 = z * 256 := by unfold mulI; exact wI64 (by omega) (by omega)
      have s1 : addI .i64 (x * 16777216) (y * 65536) = x * 16777216 + y * 65536 := by unfold addI; exact wI64 (by omega) (by omega)
      have s2 : addI .i64 (x * 16777216 + y * 65536) (z * 256) = x * 16777216 + y * 65536 + z * 256 := by unfold addI; exact wI64 (by omega) (by omega)
      have s3 : addI .i64 (x * 16777216 + y * 65536 + z * 256) w = x * 16777216 + y * 65536 + z * 256 + w := by unfold addI; exact wI64 (by omega) (by omega)
      rw [m1, m2, m3, s1, s2, s3]
      exact ⟨_, _, _, rfl, (hm _ (by omega)).1, .inl (hm _ (by omega)).2, c4⟩
theorem l01Once_ok {b : List Int} {i : Int} (h n : Int) (hc : Cu b i) : ∃ x i' h', spec_l01Once b i h n = some (x, b, i', h') ∧ Cu b i' := by
  obtain ⟨x, i1, g1, e1, a1, a2, c1⟩ := l01Below_ok h n hc
  rw [spec_l01Once_eq, e1]
  exact ⟨_, _, _, rfl, c1⟩
theorem l01PickInt_ok {b : List Int} {i : Int} (h : Int) (l : List Int) (hl : 0 < l.length) (hc : Cu b i) : ∃ x i' h', spec_l01PickInt b i h l = some (x, b, i', h') ∧ Cu b i' ∧ x ∈ l := by
  obtain ⟨x, i1, g1, e1, a1, a2, c1⟩ := l01Below_ok h (len l) hc
  rw [len_nat] at a2
  obtain ⟨k, rfl⟩ := Int.eq_ofNat_of_zero_le a1
  have hb : l[k]? = some (l[k]'(by omega)) := List.getElem?_eq_getElem (by omega)
  rw [spec_l01PickInt_eq, e1]
  simp only [Option.bind_some, nth_nat, hb]
  exact ⟨_, _, _, rfl, c1, List.getElem_mem _⟩
theorem l01Pick_ok {b : List Int} {i : Int} (h : Int) (l : List (List UInt8)) (hl : 0 < l.length) (hc : Cu b i) : ∃ x i' h', spec_l01Pick b i h l = some (x, b, i', h') ∧ Cu b i' ∧ x ∈ l := by
  obtain ⟨x, i1, g1, e1, a1, a2, c1⟩ := l01Below_ok h (len l) hc
  rw [len_nat] at a2
  obtain ⟨k, rfl⟩ := Int.eq_ofNat_of_zero_le a1
  have hb : l[k]? = some (l[k]'(by omega)) := List.getElem?_eq_getElem (by omega)
  rw [spec_l01Pick_eq, e1]
  simp only [Option.bind_some, nth_nat, hb]
  exact ⟨_, _, _, rfl, c1, List.getElem_mem _⟩
theorem l04Int_ok {b : List Int} {i : Int} (h : Int) (hc : Cu b i) : ∃ x i' h', spec_l04Int b i h = some (x, b, i', h') ∧ Cu b i' ∧ -2147483648 ≤ x ∧ x ≤ 2147483647 := by
  obtain ⟨q, i1, g1, e1, c1⟩ := l01Once_ok h 2 hc
  rw [spec_l04Int_eq, e1]
  simp only [Option.bind_some]
  cases q
  · obtain ⟨x, i2, g2, e2, c2, _⟩ := l01PickInt_ok g1 [0, 67108863, 67108864, (-67108864), (-67108865), 2147483647, (-2147483648), 1000000, (-1)] (by simp) c1
    rw [cond_false, e2]
    exact ⟨_, _, _, rfl, c2, wI32_rng _⟩
  · obtain ⟨x, i2, g2, e2, a1, a2, c2⟩ := l01Below_ok g1 200 c1
    rw [cond_true, e2]
    exact ⟨_, _, _, rfl, c2, wI32_rng _⟩
theorem l02Name_l6_ok {b : List Int} (n : Nat) (hn : n ≤ 100) : (k m : Nat) → k + m = n → (acc : List Int) → acc.length = m → (i h : Int) → Cu b i → ∃ x i' h', spec_l02Name_l6 acc (n : Int) (m : Int) b i h = some (x, b, i', h') ∧ Cu b i' ∧ x.length = n
  | 0, m, hk, acc, ha, i, h, hc => by
    rw [spec_l02Name_l6_eq, decide_eq_false (by omega)]
    exact ⟨_, _, _, rfl, hc, by omega⟩
  | k + 1, m, hk, acc, ha, i, h, hc => by
    obtain ⟨x, i1, g1, e1, a1, a2, c1⟩ := l01Below_ok h 47 hc
    obtain ⟨y, rfl⟩ := Int.eq_ofNat_of_zero_le a1
    have e3 : addI .i64 1 (y : Int) = ((1 + y : Nat) : Int) := by unfold addI; rw [wI64 (by omega) (by omega)]; omega
    rw [spec_l02Name_l6_eq, decide_eq_true (by omega), cond_true, e1]
    simp only [Option.bind_some]
    rw [e3, spec_LetterAt_is (show 1 + y < 48 by omega), Option.bind_some, decide_eq_true (by omega), cond_true, add_one (by omega)]
    exact l02Name_l6_ok n hn k (m + 1) (by omega) _ (by simp [ha]) _ _ c1
theorem strI_len (xs : List Int) : (strI xs).length = xs.length := by unfold strI; simp
theorem l02Name_ok {b : List Int} {i : Int} (h : Int) (hc : Cu b i) : ∃ x i' h', spec_l02Name b i h = some (x, b, i', h') ∧ Cu b i' ∧ x.length ≤ 100 := by
  obtain ⟨q, i1, g1, e1, c1⟩ := l01Once_ok h 2 hc
  rw [spec_l02Name_eq, e1]
  simp only [Option.bind_some]
  cases q
  · obtain ⟨x, i2, g2, e2, a1, a2, c2⟩ := l01Below_ok g1 9 c1
    obtain ⟨y, rfl⟩ := Int.eq_ofNat_of_zero_le a1
    have e3 : addI .i64 1 (y : Int) = ((1 + y : Nat) : Int) := by unfold addI; rw [wI64 (by omega) (by omega)]; omega
    obtain ⟨z, i3, g3, e4, c3, hz⟩ := l02Name_l6_ok (1 + y) (by omega) (1 + y) 0 (by omega) [] rfl i2 g2 c2
    rw [cond_false, e2]
    simp only [Option.bind_some]
    rw [e3, show (0 : Int) = ((0 : Nat) : Int) from rfl, e4]
    exact ⟨_, _, _, rfl, c3, by show (strI z).length ≤ 100; rw [strI_len]; omega⟩
  · obtain ⟨x, i2, g2, e2, c2, hx⟩ := l01Pick_ok g1 [[100, 117, 112], [111, 118, 101, 114], [115, 113, 117, 97, 114, 101], [97, 33], [50, 42], [103, 111], [45, 105, 102], [59], [63], [114, 114, 114, 114, 114, 114, 114], [114, 116, 111, 101, 97, 110, 105], [119, 119, 119, 119, 119, 119], [113, 113, 113, 113, 113], [120]] (by simp) c1
    rw [cond_true, e2]
    refine ⟨_, _, _, rfl, c2, ?_⟩
    simp only [List.mem_cons, List.not_mem_nil, or_false] at hx
    rcases hx with rfl | rfl | rfl | rfl | rfl | rfl | rfl | rfl | rfl | rfl | rfl | rfl | rfl | rfl <;> simp
/-- an item is handed out -/
def itc (it : It) (b : List Int) (i h : Int) : Int × List UInt8 × Int × Bool × Int × List Int × Int × Int := (it.1, it.2.1, it.2.2.1, it.2.2.2.1, it.2.2.2.2, b, i, h)
theorem l04Some_ok {b : List Int} {i : Int} (h : Int) (hc : Cu b i) : ∃ it i' h', spec_l04Some b i h = some (itc it b i' h') ∧ Cu b i' ∧ ItOk it := by
  obtain ⟨x, i1, g1, e1, a1, a2, c1⟩ := l01Below_ok h 8 hc
  rw [spec_l04Some_eq, e1]
  simp only [Option.bind_some]
  by_cases h0 : x = 0
  · obtain ⟨n, i2, g2, e2, c2, n1, n2⟩ := l04Int_ok g1 c1
    obtain ⟨q, i3, g3, e3, c3⟩ := l01Once_ok g2 3 c2
    rw [decide_eq_true h0, cond_true, e2]
    simp only [Option.bind_some, e3]
    exact ⟨(7, [], n, q, 0), i3, g3, rfl, c3, by simp, by simp, ⟨n1, n2⟩, by simp⟩
  · rw [decide_eq_false h0, cond_false]
    by_cases h1 : x = 1
    · obtain ⟨n, i2, g2, e2, c2, n1, n2⟩ := l04Int_ok g1 c1
      obtain ⟨q, i3, g3, e3, c3⟩ := l01Once_ok g2 3 c2
      rw [decide_eq_true h1, cond_true, e2]
      simp only [Option.bind_some, e3]
      exact ⟨(8, [], n, q, 0), i3, g3, rfl, c3, by simp, by simp, ⟨n1, n2⟩, by simp⟩
    · rw [decide_eq_false h1, cond_false]
      by_cases h2 : x = 2
      · obtain ⟨s, i2, g2, e2, c2, hs⟩ := l01Pick_ok g1 [[120], [97, 116], [113, 113, 113, 113], [116, 101, 110]] (by simp) c1
        obtain ⟨n, i3, g3, e3, c3, n1, n2⟩ := l04Int_ok g2 c2
        rw [decide_eq_true h2, cond_true, e2]
        simp only [Option.bind_some, e3]
        refine ⟨(9, s, n, false, 0), i3, g3, rfl, c3, by simp, ?_, ⟨n1, n2⟩, by simp⟩
        simp only [List.mem_cons, List.not_mem_nil, or_false] at hs
        rcases hs with rfl | rfl | rfl | rfl <;> simp
      · obtain ⟨k, i2, g2, e2, k1, k2, c2⟩ := l01Below_ok g1 6 c1
        obtain ⟨s, i3, g3, e3, c3, hs⟩ := l02Name_ok g2 c2
        rw [decide_eq_false h2, cond_false, e2]
        simp only [Option.bind_some, e3]
        exact ⟨(addI .i64 1 k, s, 0, false, 0), i3, g3, rfl, c3, wI64_rng _, by simp only; omega, by simp, by simp⟩
theorem l01Word_ok {b : List Int} {i : Int} (h : Int) (hc : Cu b i) : ∃ x i' h', spec_l01Word b i h = some (x, b, i', h') ∧ Cu b i' ∧ C32 x := by
  obtain ⟨x, i1, g1, e1, a1, a2, c1⟩ := l01Below_ok h 4 hc
  rw [spec_l01Word_eq, e1]
  simp only [Option.bind_some]
  by_cases h0 : x = 0
  · obtain ⟨n, i2, g2, e2, c2, _⟩ := l01PickInt_ok g1 [0, 1, 2, 31, 32, 255, 256, 2147483647, 2147483648, 4294967295, 4294967294] (by simp) c1
    rw [decide_eq_true h0, cond_true, e2]
    exact ⟨_, _, _, rfl, c2, wU32_rng _⟩
  · rw [decide_eq_false h0, cond_false]
    by_cases h1 : x = 1
    · obtain ⟨n, i2, g2, e2, _, _, c2⟩ := l01Below_ok g1 300 c1
      rw [decide_eq_true h1, cond_true, e2]
      exact ⟨_, _, _, rfl, c2, wU32_rng _⟩
    · obtain ⟨n, i2, g2, e2, _, _, c2⟩ := l01Below_ok g1 65536 c1
      obtain ⟨m, i3, g3, e3, _, _, c3⟩ := l01Below_ok g2 65536 c2
      rw [decide_eq_false h1, cond_false, e2]
      simp only [Option.bind_some, e3]
      exact ⟨_, _, _, rfl, c3, wU32_rng _⟩
theorem l04Any_ok {b : List Int} {i : Int} (h : Int) (hc : Cu b i) : ∃ it i' h', spec_l04Any b i h = some (itc it b i' h') ∧ Cu b i' ∧ ItOk it := by
  obtain ⟨it, i1, g1, e1, c1, hi⟩ := l04Some_ok h hc
  obtain ⟨x, i2, g2, e2, a1, a2, c2⟩ := l01Below_ok g1 14 c1
  rw [spec_l04Any_eq, e1]
  simp only [Option.bind_some, itc, e2]
  by_cases h0 : x = 0
  · obtain ⟨n, i3, g3, e3, c3, hn⟩ := l01Word_ok g2 c2
    rw [decide_eq_true h0, cond_true, e3]
    exact ⟨(0, [], 0, false, n), i3, g3, rfl, c3, by simp, by simp, by simp, hn⟩
  · rw [decide_eq_false h0, cond_false]
    by_cases h1 : x = 1
    · obtain ⟨n, i3, g3, e3, _, _, c3⟩ := l01Below_ok g2 12 c2
      rw [decide_eq_true h1, cond_true, e3]
      exact ⟨(subI .i64 n 1, it.2), i3, g3, rfl, c3, wI64_rng _, hi.s, hi.n, hi.r⟩
    · rw [decide_eq_false h1, cond_false]
      by_cases h2 : x = 2
      · obtain ⟨s, i3, g3, e3, c3, hs⟩ := l01Pick_ok g2 [([] : List UInt8), [65], [113, 113, 113, 113, 113], [115, 113, 117, 97, 114, 101, 115, 113, 117, 97, 114, 101]] (by simp) c2
        rw [decide_eq_true h2, cond_true, e3]
        refine ⟨(it.1, s, it.2.2), i3, g3, rfl, c3, hi.k, ?_, hi.n, hi.r⟩
        simp only [List.mem_cons, List.not_mem_nil, or_false] at hs
        rcases hs with rfl | rfl | rfl | rfl <;> simp
      · rw [decide_eq_false h2, cond_false]
        by_cases h3 : x = 3
        · obtain ⟨n, i3, g3, e3, _, _, c3⟩ := l01Below_ok g2 3 c2
          rw [decide_eq_true h3, cond_true, e3]
          exact ⟨(it.1, it.2.1, it.2.2.1, it.2.2.2.1, cvtI .u32 n), i3, g3, rfl, c3, hi.k, hi.s, hi.n, wU32_rng _⟩
        · rw [decide_eq_false h3, cond_false]
          exact ⟨it, i2, g2, rfl, c2, hi⟩

/-! ### cells -/
theorem u32s_app {xs ys : List Int} (h : U32s xs) (h' : U32s ys) : U32s (xs ++ ys) := fun x hx => (List.mem_append.1 hx).elim (h x) (h' x)
theorem u32s_one {x : Int} (h : C32 x) : U32s [x] := fun y hy => by simp at hy; rw [hy]; exact h
theorem l04Cells_l4_ok {b : List Int} (n : Nat) (hn : n ≤ 100) : (k m : Nat) → k + m = n → (acc : List Int) → U32s acc → acc.length ≤ 30 * m → (i h : Int) → Cu b i →
    ∃ xs i' h', spec_l04Cells_l4 acc (n : Int) (m : Int) b i h = some (xs, b, i', h') ∧ Cu b i' ∧ U32s xs ∧ xs.length ≤ 30 * n
  | 0, m, hk, acc, hu, ha, i, h, hc => by
    rw [spec_l04Cells_l4_eq, decide_eq_false (by omega)]
    exact ⟨_, _, _, rfl, hc, hu, by omega⟩
  | k + 1, m, hk, acc, hu, ha, i, h, hc => by
    obtain ⟨it, i1, g1, e1, c1, hi⟩ := l04Some_ok h hc
    obtain ⟨x, i2, g2, e2, a1, a2, c2⟩ := l01Below_ok g1 9 c1
    obtain ⟨r1, r2⟩ := cellsOf_rng it hi
    have hcl := spec_CellsOf_is it hi.s
    have hu2 : U32s (acc ++ cellsOf it) := u32s_app hu r2
    have hl2 : (acc ++ cellsOf it).length ≤ 30 * m + 24 := by rw [List.length_append]; omega
    have step : ∀ (ys : List Int) (i3 g3 : Int), Cu b i3 → U32s ys → ys.length ≤ 30 * (m + 1) → ∃ xs i' h', spec_l04Cells_l4 ys (n : Int) (addI .i64 (m : Int) 1) b i3 g3 = some (xs, b, i', h') ∧ Cu b i' ∧ U32s xs ∧ xs.length ≤ 30 * n := by
      intro ys i3 g3 c3 hu3 hl3
      rw [add_one (by omega)]
      exact l04Cells_l4_ok n hn k (m + 1) (by omega) ys hu3 hl3 i3 g3 c3
    rw [spec_l04Cells_l4_eq, decide_eq_true (by omega), cond_true, e1]
    simp only [Option.bind_some, itc]
    rw [hcl, Option.bind_some, decide_eq_true (show acc.length + (cellsOf it).length < 35184372088832 by omega), cond_true, e2]
    simp only [Option.bind_some]
    have hlt : decide ((acc ++ cellsOf it).length + 1 < 35184372088832) = true := decide_eq_true (by omega)
    rw [hlt]
    by_cases h0 : x = 0
    · obtain ⟨y, i3, g3, e3, c3, hy⟩ := l01Word_ok g2 c2
      rw [decide_eq_true h0, cond_true, e3]
      exact step _ _ _ c3 (u32s_app hu2 (u32s_one hy)) (by rw [List.length_append, List.length_singleton]; omega)
    · rw [decide_eq_false h0, cond_false]
      by_cases h1 : x = 1
      · rw [decide_eq_true h1]
        exact step _ _ _ c2 (u32s_app hu2 (u32s_one ⟨by omega, by omega⟩)) (by rw [List.length_append, List.length_singleton]; omega)
      · rw [decide_eq_false h1, cond_false]
        by_cases h2 : x = 2
        · obtain ⟨y, i3, g3, e3, _, _, c3⟩ := l01Below_ok g2 4096 c2
          rw [decide_eq_true h2, cond_true, e3]
          exact step _ _ _ c3 (u32s_app hu2 (u32s_one (wU32_rng _))) (by rw [List.length_append, List.length_singleton]; omega)
        · rw [decide_eq_false h2, cond_false]
          by_cases h3 : x = 3
          · obtain ⟨y, i3, g3, e3, c3, _⟩ := l01PickInt_ok g2 [2, 18, 5, 34, 12] (by simp) c2
            rw [decide_eq_true h3, cond_true, e3]
            exact step _ _ _ c3 (u32s_app hu2 (u32s_one (wU32_rng _))) (by rw [List.length_append, List.length_singleton]; omega)
          · rw [decide_eq_false h3, cond_false]
            exact step (acc ++ cellsOf it) _ _ c2 hu2 (by omega)
theorem l04Cells_ok {b : List Int} {i : Int} (h : Int) (hc : Cu b i) : ∃ xs i' h', spec_l04Cells b i h = some (xs, b, i', h') ∧ Cu b i' ∧ U32s xs ∧ xs.length ≤ 1000 := by
  obtain ⟨x, i1, g1, e1, a1, a2, c1⟩ := l01Below_ok h 14 hc
  obtain ⟨n, rfl⟩ := Int.eq_ofNat_of_zero_le a1
  obtain ⟨xs, i2, g2, e2, c2, hu, hl⟩ := l04Cells_l4_ok n (by omega) n 0 (by omega) [] (fun x hx => by cases hx) (by simp) i1 g1 c1
  rw [spec_l04Cells_eq, e1]
  simp only [Option.bind_some]
  rw [show (0 : Int) = ((0 : Nat) : Int) from rfl, e2]
  simp only [Option.bind_some]
  by_cases h64 : (64 : Int) < len xs
  · obtain ⟨q, i3, g3, e3, c3⟩ := l01Once_ok g2 6 c2
    rw [decide_eq_true h64, cond_true, e3]
    rw [len_nat] at h64
    simp only [Option.bind_some]
    rw [decide_eq_true (show (64 : Int) ≤ (xs.length : Int) by omega)]
    cases q
    · exact ⟨_, _, _, rfl, c3, fun x hx => hu x (List.mem_of_mem_take (by simpa using hx)), by simp; omega⟩
    · exact ⟨_, _, _, rfl, c3, hu, by omega⟩
  · rw [decide_eq_false h64]
    exact ⟨_, _, _, rfl, c2, hu, by omega⟩
theorem parseL_its : (k : Nat) → (cells : List Int) → U32s cells → Its (parseL k cells)
  | 0, _, _ => by intro it h; simp [parseL] at h
  | k + 1, [], _ => by intro it h; simp [parseL] at h
  | k + 1, c :: r, hu => by
    intro it h
    rw [parseL] at h
    rcases List.mem_cons.1 h with rfl | h
    · exact (parse1_ok c r (hu c (by simp)) (fun x hx => hu x (by simp [hx]))).2.2.2
    · exact parseL_its k _ (hu.drop _) it h
theorem parseC_its (cells : List Int) (hu : U32s cells) : Its (parseC cells) := by
  unfold parseC
  split
  · exact its_nil
  · intro it h
    unfold trim at h
    exact parseL_its 64 cells hu it (by have := (List.dropWhile_sublist _).subset (List.mem_reverse.1 h); exact List.mem_reverse.1 this)

/-! ### editors -/
def edc (e : Ed3) (b : List Int) (i h : Int) : List It × List It × List It × List Int × Int × Int := (e.1, e.2.1, e.2.2, b, i, h)
theorem l07Make_l11_ok {b : List Int} (n : Nat) (hn : n ≤ 100) (a6 a7 a8 a9 a10 : List It) : (k m : Nat) → k + m = n → (acc : List It) → Its acc → acc.length = m → (i h : Int) → Cu b i →
    ∃ xs i' h', spec_l07Make_l11 (n : Int) (m : Int) b i h a6 a7 a8 a9 a10 acc = some (b, i', h', a6, a7, a8, a9, a10, xs) ∧ Cu b i' ∧ Its xs ∧ xs.length = n
  | 0, m, hk, acc, hu, ha, i, h, hc => by
    rw [spec_l07Make_l11_eq, decide_eq_false (by omega)]
    exact ⟨_, _, _, rfl, hc, hu, by omega⟩
  | k + 1, m, hk, acc, hu, ha, i, h, hc => by
    obtain ⟨it, i1, g1, e1, c1, hi⟩ := l04Some_ok h hc
    rw [spec_l07Make_l11_eq, decide_eq_true (by omega), cond_true, e1]
    simp only [Option.bind_some, itc]
    rw [decide_eq_true (show acc.length + 1 < 3518437208883 by omega), cond_true, add_one (by omega)]
    exact l07Make_l11_ok n hn a6 a7 a8 a9 a10 k (m + 1) (by omega) _ (its_snoc hu hi) (by simp [ha]) _ _ c1
theorem l07Make_ok {b : List Int} {i : Int} (h : Int) (hc : Cu b i) : ∃ e i' h', spec_l07Make b i h = some (edc e b i' h') ∧ Cu b i' ∧ EdM e.1 e.2.1 e.2.2 ∧ e.1.length ≤ 64 ∧ e.2.2.length ≤ 20 := by
  obtain ⟨xs, i1, g1, e1, c1, hu, hl⟩ := l04Cells_ok h hc
  rw [spec_l07Make_eq, e1]
  simp only [Option.bind_some]
  have e2 : ∃ ys, (bif decide (64 < len xs) then (bif decide (64 ≤ (xs.length : Int)) then some ((xs.take 64).drop 0, b, i1, g1, ([] : List It), ([] : List It), ([] : List It)) else none) else some (xs, b, i1, g1, ([] : List It), ([] : List It), ([] : List It))) = some (ys, b, i1, g1, ([] : List It), ([] : List It), ([] : List It)) ∧ U32s ys := by
    by_cases h64 : (64 : Int) < len xs
    · rw [decide_eq_true h64]
      rw [len_nat] at h64
      rw [decide_eq_true (show (64 : Int) ≤ (xs.length : Int) by omega)]
      exact ⟨_, rfl, fun x hx => hu x (List.mem_of_mem_take (by simpa using hx))⟩
    · rw [decide_eq_false h64]
      exact ⟨_, rfl, hu⟩
  obtain ⟨ys, e2, hy⟩ := e2
  rw [e2]
  simp only [Option.bind_some]
  rw [spec_ParseCells_is ys hy, Option.bind_some]
  have hp := parseC_its ys hy
  have hpl := parseC_len ys
  obtain ⟨ps, hps⟩ : ∃ ps, ps = parseC ys := ⟨_, rfl⟩
  rw [← hps] at hp hpl ⊢
  have e3 : addI .i64 (len ps) 1 = ((ps.length + 1 : Nat) : Int) := by rw [len_nat, add_one (by omega)]
  obtain ⟨x, i2, g2, e4, a1, a2, c2⟩ := l01Below_ok g1 ((ps.length + 1 : Nat) : Int) c1
  obtain ⟨n, rfl⟩ := Int.eq_ofNat_of_zero_le a1
  have hn : n ≤ ps.length := by omega
  rw [e3, e4]
  simp only [Option.bind_some]
  rw [decide_eq_true (show (0 : Int) ≤ (n : Int) by omega), decide_eq_true (show (n : Int) ≤ (ps.length : Int) by omega), Int.toNat_natCast, Int.toNat_natCast]
  simp only [Bool.and_self, cond_true, Nat.zero_add, List.drop_zero, List.take_length]
  rw [decide_eq_true (show (ps.take n).length < 3518437208883 by simp; omega), decide_eq_true (show (ps.drop n).length < 3518437208883 by simp; omega)]
  obtain ⟨y, i3, g3, e5, b1, b2, c3⟩ := l01Below_ok g2 4 c2
  obtain ⟨q, i4, g4, e6, c4⟩ := l01Once_ok g3 9 c3
  simp only [cond_true, e5, Option.bind_some, e6]
  have hA : Its (ps.take n) := fun it hi => hp it (List.mem_of_mem_take hi)
  have hB : Its (ps.drop n) := fun it hi => hp it (List.mem_of_mem_drop hi)
  cases q
  · obtain ⟨m, rfl⟩ := Int.eq_ofNat_of_zero_le b1
    obtain ⟨cs, i5, g5, e7, c5, hcs, hcl⟩ := l07Make_l11_ok m (by omega) [] [] [] (ps.take n) (ps.drop n) m 0 (by omega) [] its_nil rfl i4 g4 c4
    rw [cond_false, show (0 : Int) = ((0 : Nat) : Int) from rfl, e7]
    exact ⟨(ps.take n, ps.drop n, cs), i5, g5, rfl, c5, ⟨hA, hB, hcs, by simp; omega, by simp; omega, by simp only; omega⟩, by simp; omega, by simp only; omega⟩
  · obtain ⟨z, i5, g5, e7, d1, d2, c5⟩ := l01Below_ok g4 3 c4
    obtain ⟨m, rfl⟩ := Int.eq_ofNat_of_zero_le d1
    have e8 : addI .i64 18 (m : Int) = ((18 + m : Nat) : Int) := by unfold addI; rw [wI64 (by omega) (by omega)]; omega
    obtain ⟨cs, i6, g6, e9, c6, hcs, hcl⟩ := l07Make_l11_ok (18 + m) (by omega) [] [] [] (ps.take n) (ps.drop n) (18 + m) 0 (by omega) [] its_nil rfl i5 g5 c5
    rw [cond_true, e7]
    simp only [Option.bind_some]
    rw [e8, show (0 : Int) = ((0 : Nat) : Int) from rfl, e9]
    exact ⟨(ps.take n, ps.drop n, cs), i6, g6, rfl, c6, ⟨hA, hB, hcs, by simp; omega, by simp; omega, by simp only; omega⟩, by simp; omega, by simp only; omega⟩
theorem l07Any_l8_ok {b : List Int} (a4 a5 a6 a7 a8 : List It) : (k : Nat) → (acc : List It) → Its acc → 30 ≤ acc.length + k → acc.length ≤ 40 → (i h : Int) → Cu b i →
    ∃ xs i' h', spec_l07Any_l8 b i h a4 a5 a6 a7 a8 acc = some (b, i', h', a4, a5, a6, a7, a8, xs) ∧ Cu b i' ∧ Its xs ∧ xs.length ≤ 60
  | k, acc, hu, ha, hl, i, h, hc => by
    obtain ⟨x, i1, g1, e1, a1, a2, c1⟩ := l01Below_ok h 2 hc
    have e3 : addI .i64 20 x = 20 + x := by unfold addI; rw [wI64 (by omega) (by omega)]
    rw [spec_l07Any_l8_eq, e1]
    simp only [Option.bind_some]
    rw [e3]
    by_cases hlt : len acc < 20 + x
    · rw [decide_eq_true hlt]
      rw [len_nat] at hlt
      rw [decide_eq_true (show acc.length + 1 < 3518437208883 by omega)]
      cases k with
      | zero => omega
      | succ k => exact l07Any_l8_ok a4 a5 a6 a7 a8 k _ (its_snoc hu (show ItOk (0, [], 0, false, 7) from ⟨by simp, by simp, by simp, by simp⟩)) (by simp; omega) (by simp; omega) _ _ c1
    · rw [decide_eq_false hlt]
      exact ⟨_, _, _, rfl, c1, hu, by omega⟩
theorem l07Any_ok {b : List Int} {i : Int} (h : Int) (hc : Cu b i) : ∃ e i' h', spec_l07Any b i h = some (edc e b i' h') ∧ Cu b i' ∧ EdM e.1 e.2.1 e.2.2 := by
  obtain ⟨e, i1, g1, e1, c1, hm, hl, hcl⟩ := l07Make_ok h hc
  obtain ⟨x, i2, g2, e2, a1, a2, c2⟩ := l01Below_ok g1 12 c1
  rw [spec_l07Any_eq, e1]
  simp only [Option.bind_some, edc, e2]
  by_cases h0 : x = 0
  · obtain ⟨it, i3, g3, e3, c3, hi⟩ := l04Any_ok g2 c2
    rw [decide_eq_true h0, cond_true, e3]
    simp only [Option.bind_some, itc]
    rw [decide_eq_true (show e.2.2.length + 1 < 3518437208883 by omega)]
    exact ⟨(e.1, e.2.1, e.2.2 ++ [it]), i3, g3, rfl, c3, hm.li, hm.ri, its_snoc hm.ci hi, hm.ll, hm.rl, by simp; omega⟩
  · rw [decide_eq_false h0, cond_false]
    by_cases h1 : x = 1
    · obtain ⟨it, i3, g3, e3, c3, hi⟩ := l04Any_ok g2 c2
      rw [decide_eq_true h1, cond_true, e3]
      simp only [Option.bind_some, itc]
      rw [decide_eq_true (show e.1.length + 1 < 3518437208883 by omega)]
      exact ⟨(e.1 ++ [it], e.2.1, e.2.2), i3, g3, rfl, c3, its_snoc hm.li hi, hm.ri, hm.ci, by simp; omega, hm.rl, hm.cl⟩
    · rw [decide_eq_false h1, cond_false]
      by_cases h2 : x = 2
      · obtain ⟨cs, i3, g3, e3, c3, hcs, hcl2⟩ := l07Any_l8_ok [] [] [] e.1 e.2.1 30 e.2.2 hm.ci (by omega) (by omega) i2 g2 c2
        rw [decide_eq_true h2, cond_true, e3]
        exact ⟨(e.1, e.2.1, cs), i3, g3, rfl, c3, hm.li, hm.ri, hcs, hm.ll, hm.rl, by simp only; omega⟩
      · rw [decide_eq_false h2, cond_false]
        exact ⟨e, i2, g2, rfl, c2, hm⟩
/-- a key is handed out -/
abbrev Ky := Int × It
def kyc (k : Ky) (b : List Int) (i h : Int) : Int × Int × List UInt8 × Int × Bool × Int × List Int × Int × Int := (k.1, k.2.1, k.2.2.1, k.2.2.2.1, k.2.2.2.2.1, k.2.2.2.2.2, b, i, h)
theorem l07Key_ok {b : List Int} {i : Int} (h : Int) (hc : Cu b i) : ∃ k i' h', spec_l07Key b i h = some (kyc k b i' h') ∧ Cu b i' ∧ ItOk k.2 := by
  obtain ⟨x, i1, g1, e1, a1, a2, c1⟩ := l01Below_ok h 9 hc
  rw [spec_l07Key_eq, e1]
  simp only [Option.bind_some]
  have kind : ∀ (i2 g2 : Int), Cu b i2 → ∃ y i3 g3, spec_l01Below b i2 g2 11 = some (y, b, i3, g3) ∧ Cu b i3 ∧ ItOk (subI .i64 y 1, ([] : List UInt8), (0 : Int), false, (0 : Int)) := by
    intro i2 g2 c2
    obtain ⟨y, i3, g3, e3, _, _, c3⟩ := l01Below_ok g2 11 c2
    exact ⟨y, i3, g3, e3, c3, wI64_rng _, by simp, by simp, by simp⟩
  by_cases h4 : x = 4
  · obtain ⟨it, i2, g2, e2, c2, hi⟩ := l04Any_ok g1 c1
    have h7 : ¬ x = 7 := by omega
    rw [decide_eq_true h4, cond_true, e2]
    simp only [Option.bind_some, itc]
    rw [decide_eq_false h7]
    exact ⟨(x, it), i2, g2, rfl, c2, hi⟩
  · obtain ⟨q, i2, g2, e2, c2⟩ := l01Once_ok g1 6 c1
    rw [decide_eq_false h4, cond_false, e2]
    simp only [Option.bind_some]
    cases q
    · rw [cond_false]
      by_cases h7 : x = 7
      · obtain ⟨y, i3, g3, e3, c3, hy⟩ := kind i2 g2 c2
        rw [decide_eq_true h7, cond_true, e3]
        exact ⟨(x, _), i3, g3, rfl, c3, hy⟩
      · rw [decide_eq_false h7]
        exact ⟨(x, zeroIt), i2, g2, rfl, c2, zeroIt_ok⟩
    · obtain ⟨it, i3, g3, e3, c3, hi⟩ := l04Any_ok g2 c2
      rw [cond_true, e3]
      simp only [Option.bind_some, itc]
      by_cases h7 : x = 7
      · obtain ⟨y, i4, g4, e4, c4, hy⟩ := kind i3 g3 c3
        rw [decide_eq_true h7, cond_true, e4]
        exact ⟨(x, _), i4, g4, rfl, c4, hy⟩
      · rw [decide_eq_false h7]
        exact ⟨(x, it), i3, g3, rfl, c3, hi⟩
theorem l01New_l3_ok {b : List Int} (hb : (b.length : Int) ≤ 1048576) : (k m : Nat) → k + m = b.length → (h : Int) → ∃ h', spec_l01New_l3 b h (m : Int) = some (b, h')
  | 0, m, hk, h => by
    rw [spec_l01New_l3_eq, len_nat, decide_eq_false (by omega)]
    exact ⟨_, rfl⟩
  | k + 1, m, hk, h => by
    have hx : b[m]? = some (b[m]'(by omega)) := List.getElem?_eq_getElem (by omega)
    rw [spec_l01New_l3_eq, len_nat, decide_eq_true (by omega), cond_true, nth_nat, hx, Option.bind_some, add_one (by omega)]
    by_cases h4 : (m : Int) < 4000
    · rw [decide_eq_true h4, cond_true]
      exact l01New_l3_ok hb k (m + 1) (by omega) _
    · rw [decide_eq_false h4]
      exact ⟨_, rfl⟩
theorem l01New_ok {b : List Int} (hb : (b.length : Int) ≤ 1048576) : ∃ h', spec_l01New b = some (b, 0, h') ∧ Cu b 0 := by
  obtain ⟨h', e⟩ := l01New_l3_ok hb b.length 0 (by omega) (addI .i64 711711 (len b))
  rw [spec_l01New_eq, show (0 : Int) = ((0 : Nat) : Int) from rfl, e]
  exact ⟨h', rfl, by omega, by omega, hb⟩
theorem drawPress_ok {b : List Int} (hb : (b.length : Int) ≤ 1048576) : ∃ (e : Ed3) (k : Ky), spec_DrawPress b = some (e.1, e.2.1, e.2.2, k.1, k.2.1, k.2.2.1, k.2.2.2.1, k.2.2.2.2.1, k.2.2.2.2.2) ∧ EdM e.1 e.2.1 e.2.2 ∧ ItOk k.2 := by
  obtain ⟨h0, e0, c0⟩ := l01New_ok hb
  obtain ⟨e, i1, g1, e1, c1, hm⟩ := l07Any_ok h0 c0
  obtain ⟨k, i2, g2, e2, c2, hk⟩ := l07Key_ok g1 c1
  rw [spec_DrawPress_eq, e0]
  simp only [Option.bind_some]
  rw [e1]
  simp only [Option.bind_some, edc]
  rw [e2]
  exact ⟨e, k, rfl, hm, hk⟩
theorem moves_law (zs : List Int) (h : ∀ n ∈ zs, 0 ≤ n ∧ n ≤ 255) : laws_FnMoves zs = some true := by
  rw [laws_FnMoves_eq, laws_big_eq, Option.bind_some]
  by_cases hb : (1048576 : Int) < len zs
  · rw [decide_eq_true hb]; rfl
  · obtain ⟨e, k, e1, hm, hk⟩ := drawPress_ok (b := zs) (by rw [len_nat] at hb; omega)
    rw [decide_eq_false hb, cond_false, e1]
    simp only [Option.bind_some]
    rw [impl_Press_is e.1 e.2.1 e.2.2 k.1 k.2 hm hk, spec_Press_is e.1 e.2.1 e.2.2 k.1 k.2 hm hk]
    exact moves_body e.1 e.2.1 e.2.2 k.1 k.2 hm hk
end Go.Ev

namespace Go.Ev
open Go Go.Proofs
set_option linter.unusedVariables false
set_option linter.unusedSimpArgs false

def Kys (ks : List Ky) : Prop := ∀ k ∈ ks, ItOk k.2
theorem pressE_inv {l r c : List It} {op : Int} {it : It} (he : edOk l r c = true) : edOk (pressE l r c op it).1 (pressE l r c op it).2.1 (pressE l r c op it).2.2.1 = true := by
  cases hp : press1 l r c op it with
  | none => rw [pressE_none he hp]; exact he
  | some e =>
    rcases Bool.eq_false_or_eq_true (edOk e.1 e.2.1 e.2.2) with hk | hk
    · rw [pressE_some he hp hk]; exact hk
    · rw [pressE_bad he hp hk]; exact he
theorem pressE_no {l r c : List It} {op : Int} {it : It} (he : edOk l r c = true) (h : (pressE l r c op it).2.2.2 = false) : pressE l r c op it = (l, r, c, false) := by
  cases hp : press1 l r c op it with
  | none => exact pressE_none he hp
  | some e =>
    rcases Bool.eq_false_or_eq_true (edOk e.1 e.2.1 e.2.2) with hk | hk
    · rw [pressE_some he hp hk] at h; cases h
    · exact pressE_bad he hp hk
/-- keys one by one -/
def runP : List Ky → Ed3 → Nat → Ed3 × Nat
  | [], e, n => (e, n)
  | k :: r, e, n => runP r ((pressE e.1 e.2.1 e.2.2 k.1 k.2).1, (pressE e.1 e.2.1 e.2.2 k.1 k.2).2.1, (pressE e.1 e.2.1 e.2.2 k.1 k.2).2.2.1) (if (pressE e.1 e.2.1 e.2.2 k.1 k.2).2.2.2 then n else n + 1)
structure EdK (e : Ed3) : Prop where
  m : EdM e.1 e.2.1 e.2.2
  ok : edOk e.1 e.2.1 e.2.2 = true
theorem EdK.step {e : Ed3} (h : EdK e) {k : Ky} (hk : ItOk k.2) : EdK ((pressE e.1 e.2.1 e.2.2 k.1 k.2).1, (pressE e.1 e.2.1 e.2.2 k.1 k.2).2.1, (pressE e.1 e.2.1 e.2.2 k.1 k.2).2.2.1) :=
  ⟨pressE_m h.m hk, pressE_inv h.ok⟩
theorem runP_ok : (ks : List Ky) → (e : Ed3) → (n : Nat) → Kys ks → EdK e → EdK (runP ks e n).1
  | [], e, n, _, h => h
  | k :: r, e, n, hk, h => runP_ok r _ _ (fun x hx => hk x (by simp [hx])) (h.step (hk k (by simp)))
/-- what the program's loop does at a key -/
theorem out_press {e : Ed3} {k : Ky} (h : EdK e) : (out4 e.1 e.2.1 e.2.2 (press1 e.1 e.2.1 e.2.2 k.1 k.2)).2.2.2 = (pressE e.1 e.2.1 e.2.2 k.1 k.2).2.2.2 ∧
    ((pressE e.1 e.2.1 e.2.2 k.1 k.2).2.2.2 = true → out4 e.1 e.2.1 e.2.2 (press1 e.1 e.2.1 e.2.2 k.1 k.2) = pressE e.1 e.2.1 e.2.2 k.1 k.2) := by
  cases hp : press1 e.1 e.2.1 e.2.2 k.1 k.2 with
  | none => rw [pressE_none h.ok hp]; exact ⟨rfl, fun h => rfl⟩
  | some e' =>
    rcases Bool.eq_false_or_eq_true (edOk e'.1 e'.2.1 e'.2.2) with hk | hk
    · rw [pressE_some h.ok hp hk]
      have : out4 e.1 e.2.1 e.2.2 (some e') = (e'.1, e'.2.1, e'.2.2, true) := by unfold out4; simp only [hk]
      rw [this]; exact ⟨rfl, fun _ => rfl⟩
    · rw [pressE_bad h.ok hp hk]
      have : out4 e.1 e.2.1 e.2.2 (some e') = (e'.1, e'.2.1, e'.2.2, false) := by unfold out4; simp only [hk]
      rw [this]; exact ⟨rfl, fun h => by cases h⟩
theorem impl_PressAll_l6_is (ks : List Ky) (hk : Kys ks) (hl : ks.length < 1000000) : (r p : List Ky) → (e : Ed3) → (n : Nat) → ks = p ++ r → n ≤ p.length → EdK e →
    impl_PressAll_l6 (n : Int) ks (len ks) (p.length : Int) e.1 e.2.1 e.2.2 [] [] [] = some (((runP r e n).2 : Int), (runP r e n).1.1, (runP r e n).1.2.1, (runP r e n).1.2.2, [], [], [])
  | [], p, e, n, h, hn, he => by
    rw [impl_PressAll_l6_eq]; subst h; simp [len_nat, runP]
  | k :: r, p, e, n, h, hn, he => by
    have hfl : p.length + r.length + 1 = ks.length := by rw [h]; simp; omega
    have hi := hk k (by rw [h]; simp)
    obtain ⟨r1, r2⟩ := edOk_rng he.ok
    obtain ⟨o1, o2⟩ := out_press (k := k) he
    have hp := impl_pressed_is e.1 e.2.1 e.2.2 k.1 k.2 he.m r1 r2 hi
    rw [impl_PressAll_l6_eq, len_nat, nth_nat, show ks[p.length]? = some k by rw [h]; simp, decide_eq_true (show (p.length : Int) < (ks.length : Int) by omega)]
    simp only [cond_true, Option.bind_some]
    rw [hp, Option.bind_some, o1, add_one (by omega), add_one (by omega), runP]
    have hstep := he.step hi
    cases hq : (pressE e.1 e.2.1 e.2.2 k.1 k.2).2.2.2
    · have hno := pressE_no he.ok hq
      have ih := impl_PressAll_l6_is ks hk hl r (p ++ [k]) e (n + 1) (by simp [h]) (by simp; omega) he
      rw [len_nat, List.length_append] at ih
      simp only [Bool.not_false, cond_true]
      rw [hno]
      exact ih
    · have ho := o2 hq
      have ih := impl_PressAll_l6_is ks hk hl r (p ++ [k]) _ n (by simp [h]) (by simp; omega) hstep
      rw [len_nat, List.length_append] at ih
      simp only [Bool.not_true, cond_false, if_true]
      rw [ho]
      exact ih
theorem spec_PressAll_l5_is (ks : List Ky) (hk : Kys ks) (hl : ks.length < 1000000) : (r p : List Ky) → (e : Ed3) → (n : Nat) → ks = p ++ r → n ≤ p.length → EdK e →
    spec_PressAll_l5 ks (n : Int) (p.length : Int) e.1 e.2.1 e.2.2 [] [] [] = some (((runP r e n).2 : Int), (runP r e n).1.1, (runP r e n).1.2.1, (runP r e n).1.2.2, [], [], [])
  | [], p, e, n, h, hn, he => by
    rw [spec_PressAll_l5_eq]; subst h; simp [len_nat, runP]
  | k :: r, p, e, n, h, hn, he => by
    have hfl : p.length + r.length + 1 = ks.length := by rw [h]; simp; omega
    have hi := hk k (by rw [h]; simp)
    have hp := spec_Press_is e.1 e.2.1 e.2.2 k.1 k.2 he.m hi
    rw [spec_PressAll_l5_eq, len_nat, nth_nat, show ks[p.length]? = some k by rw [h]; simp, decide_eq_true (show (p.length : Int) < (ks.length : Int) by omega)]
    simp only [cond_true, Option.bind_some]
    rw [hp, Option.bind_some, add_one (by omega), add_one (by omega), runP]
    have hstep := he.step hi
    cases hq : (pressE e.1 e.2.1 e.2.2 k.1 k.2).2.2.2
    · have ih := spec_PressAll_l5_is ks hk hl r (p ++ [k]) _ (n + 1) (by simp [h]) (by simp; omega) hstep
      rw [List.length_append] at ih
      exact ih
    · have ih := spec_PressAll_l5_is ks hk hl r (p ++ [k]) _ n (by simp [h]) (by simp; omega) hstep
      rw [List.length_append] at ih
      exact ih
theorem laws_FnKeys_l12_is (ks : List Ky) (hk : Kys ks) (hl : ks.length < 1000000) (a2 : Int) (a8 a9 a10 : List It) : (r p : List Ky) → (e : Ed3) → (n : Nat) → ks = p ++ r → n ≤ p.length → EdK e →
    laws_FnKeys_l12 ks a2 (n : Int) (p.length : Int) e.1 e.2.1 e.2.2 a8 a9 a10 = some (a2, ((runP r e n).2 : Int), (runP r e n).1.1, (runP r e n).1.2.1, (runP r e n).1.2.2, a8, a9, a10)
  | [], p, e, n, h, hn, he => by
    rw [laws_FnKeys_l12_eq]; subst h; simp [len_nat, runP]
  | k :: r, p, e, n, h, hn, he => by
    have hfl : p.length + r.length + 1 = ks.length := by rw [h]; simp; omega
    have hi := hk k (by rw [h]; simp)
    have hp := impl_Press_is e.1 e.2.1 e.2.2 k.1 k.2 he.m hi
    rw [laws_FnKeys_l12_eq, len_nat, decide_eq_true (show (p.length : Int) < (ks.length : Int) by omega), decide_eq_true (show (0 : Int) ≤ (p.length : Int) by omega), Int.toNat_natCast, show ks[p.length]? = some k by rw [h]; simp]
    simp only [cond_true, Bool.and_self, Option.bind_some]
    rw [hp, Option.bind_some, add_one (by omega), add_one (by omega), runP]
    have hstep := he.step hi
    cases hq : (pressE e.1 e.2.1 e.2.2 k.1 k.2).2.2.2
    · have ih := laws_FnKeys_l12_is ks hk hl a2 a8 a9 a10 r (p ++ [k]) _ (n + 1) (by simp [h]) (by simp; omega) hstep
      rw [List.length_append] at ih
      exact ih
    · have ih := laws_FnKeys_l12_is ks hk hl a2 a8 a9 a10 r (p ++ [k]) _ n (by simp [h]) (by simp; omega) hstep
      rw [List.length_append] at ih
      exact ih
/-- many keys -/
def pressAllP (e : Ed3) (ks : List Ky) : List It × List It × List It × Int :=
  if edOk e.1 e.2.1 e.2.2 then ((runP ks e 0).1.1, (runP ks e 0).1.2.1, (runP ks e 0).1.2.2, ((runP ks e 0).2 : Int)) else ([], [], [], len ks)
theorem impl_PressAll_is (e : Ed3) (ks : List Ky) (h : EdM e.1 e.2.1 e.2.2) (hk : Kys ks) (hl : ks.length < 1000000) : impl_PressAll e.1 e.2.1 e.2.2 ks = some (pressAllP e ks) := by
  rw [impl_PressAll_eq, impl_EdOk_is _ _ _ h, Option.bind_some]; unfold pressAllP
  rcases Bool.eq_false_or_eq_true (edOk e.1 e.2.1 e.2.2) with he | he
  · have := impl_PressAll_l6_is ks hk hl ks [] e 0 rfl (by simp) ⟨h, he⟩
    have ho := (runP_ok ks e 0 hk ⟨h, he⟩).m
    simp only [he, Bool.not_true, cond_false, if_true, impl_ownEd_is _ _ _ h, Option.bind_some]
    rw [show impl_PressAll_l6 0 ks (len ks) 0 e.1 e.2.1 e.2.2 [] [] [] = _ from this]
    simp only [Option.bind_some, impl_ownEd_is _ _ _ ho]
  · simp only [he, Bool.not_false, cond_true]; rfl
theorem spec_PressAll_is (e : Ed3) (ks : List Ky) (h : EdM e.1 e.2.1 e.2.2) (hk : Kys ks) (hl : ks.length < 1000000) : spec_PressAll e.1 e.2.1 e.2.2 ks = some (pressAllP e ks) := by
  rw [spec_PressAll_eq, spec_EdOk_is _ _ _ h, Option.bind_some]; unfold pressAllP
  rcases Bool.eq_false_or_eq_true (edOk e.1 e.2.1 e.2.2) with he | he
  · have := spec_PressAll_l5_is ks hk hl ks [] e 0 rfl (by simp) ⟨h, he⟩
    have ho := (runP_ok ks e 0 hk ⟨h, he⟩).m
    simp only [he, Bool.not_true, cond_false, if_true]
    rw [show spec_PressAll_l5 ks 0 0 e.1 e.2.1 e.2.2 [] [] [] = _ from this]
    simp only [Option.bind_some, spec_l07Copy_is _ _ _ ho]
  · simp only [he, Bool.not_false, cond_true]; rfl
theorem l6_ok {b : List Int} (n : Nat) (hn : n ≤ 100) (a4 a5 a6 a10 a11 a12 : List It) : (k m : Nat) → k + m = n → (acc : List Ky) → Kys acc → acc.length = m → (i h : Int) → Cu b i →
    ∃ ks, spec_DrawPressAll_l6 acc (n : Int) (m : Int) a4 a5 a6 b i h a10 a11 a12 = some (ks, a4, a5, a6, a10, a11, a12) ∧ Kys ks ∧ ks.length = n
  | 0, m, hk, acc, hu, ha, i, h, hc => by
    rw [spec_DrawPressAll_l6_eq, decide_eq_false (by omega)]
    exact ⟨_, rfl, hu, by omega⟩
  | k + 1, m, hk, acc, hu, ha, i, h, hc => by
    obtain ⟨ky, i1, g1, e1, c1, hi⟩ := l07Key_ok h hc
    rw [spec_DrawPressAll_l6_eq, decide_eq_true (by omega), cond_true, e1]
    simp only [Option.bind_some, kyc]
    rw [decide_eq_true (show acc.length + 1 < 2932031007402 by omega), cond_true, add_one (by omega)]
    exact l6_ok n hn a4 a5 a6 a10 a11 a12 k (m + 1) (by omega) (acc ++ [ky]) (fun x hx => by
      rcases List.mem_append.1 hx with hx | hx
      · exact hu x hx
      · simp at hx; rw [hx]; exact hi) (by simp [ha]) _ _ c1
theorem drawPressAll_ok {b : List Int} (hb : (b.length : Int) ≤ 1048576) : ∃ (e : Ed3) (ks : List Ky), spec_DrawPressAll b = some (e.1, e.2.1, e.2.2, ks) ∧ EdM e.1 e.2.1 e.2.2 ∧ Kys ks ∧ ks.length ≤ 100 := by
  obtain ⟨h0, e0, c0⟩ := l01New_ok hb
  obtain ⟨e, i1, g1, e1, c1, hm⟩ := l07Any_ok h0 c0
  obtain ⟨x, i2, g2, e2, a1, a2, c2⟩ := l01Below_ok g1 9 c1
  obtain ⟨n, rfl⟩ := Int.eq_ofNat_of_zero_le a1
  obtain ⟨ks, e3, hk, hl⟩ := l6_ok n (by omega) [] [] [] e.1 e.2.1 e.2.2 n 0 (by omega) [] (fun x hx => by cases hx) rfl i2 g2 c2
  rw [spec_DrawPressAll_eq, e0]
  simp only [Option.bind_some]
  rw [e1]
  simp only [Option.bind_some, edc]
  rw [e2]
  simp only [Option.bind_some]
  rw [show spec_DrawPressAll_l6 [] (n : Int) 0 [] [] [] b i2 g2 e.1 e.2.1 e.2.2 = _ from e3]
  exact ⟨e, ks, rfl, hm, hk, by omega⟩
theorem edOk_nil : edOk [] [] [] = true := by decide
theorem keys_law (zs : List Int) (h : ∀ n ∈ zs, 0 ≤ n ∧ n ≤ 255) : laws_FnKeys zs = some true := by
  rw [laws_FnKeys_eq, laws_big_eq, Option.bind_some]
  by_cases hb : (1048576 : Int) < len zs
  · rw [decide_eq_true hb]; rfl
  · obtain ⟨e, ks, e1, hm, hk, hl⟩ := drawPressAll_ok (b := zs) (by rw [len_nat] at hb; omega)
    rw [decide_eq_false hb, cond_false, e1]
    simp only [Option.bind_some]
    rw [impl_PressAll_is e ks hm hk (by omega), spec_PressAll_is e ks hm hk (by omega)]
    simp only [Option.bind_some, decide_true, Bool.not_true, cond_false, spec_EdOk_is _ _ _ hm]
    unfold pressAllP
    rcases Bool.eq_false_or_eq_true (edOk e.1 e.2.1 e.2.2) with he | he
    · have hr := runP_ok ks e 0 hk ⟨hm, he⟩
      have hlaw := fun a8 a9 a10 => laws_FnKeys_l12_is ks hk (by omega) ((runP ks e 0).2 : Int) a8 a9 a10 ks [] e 0 rfl (by simp) ⟨hm, he⟩
      have := hr.m.ll; have := hr.m.rl; have := hr.m.cl
      simp only [he, if_true, impl_EdOk_is _ _ _ hr.m, hr.ok, Option.bind_some, Bool.not_true, cond_false]
      rw [show laws_FnKeys_l12 ks ((runP ks e 0).2 : Int) 0 0 e.1 e.2.1 e.2.2 (runP ks e 0).1.1 (runP ks e 0).1.2.1 (runP ks e 0).1.2.2 = _ from hlaw _ _ _]
      simp only [Option.bind_some, decide_true, cond_true, laws_sameEd_self _ _ _ (show (runP ks e 0).1.1.length < 1000000 ∧ (runP ks e 0).1.2.1.length < 1000000 ∧ (runP ks e 0).1.2.2.length < 1000000 by omega)]
    · have hn : EdM [] [] [] := ⟨its_nil, its_nil, its_nil, by simp, by simp, by simp⟩
      rw [if_neg (by rw [he]; simp)]
      simp only [he, impl_EdOk_is _ _ _ hn, edOk_nil, Option.bind_some, Bool.not_true, Bool.not_false, cond_true, cond_false, decide_true]
end Go.Ev

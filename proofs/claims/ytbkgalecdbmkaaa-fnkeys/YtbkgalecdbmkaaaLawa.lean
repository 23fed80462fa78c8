/- FnKeys returns true for every input, on the conditions that the row itself states, and on no other (part 'Lawa') -/
import Derived.Test.YtbkgalecdbmkaaaEqs
import Derived.Test.YtbkgalecdbmkaaaEvNum

namespace Go.Ev
open Go Go.Proofs
set_option linter.unusedVariables false
set_option linter.unusedSimpArgs false

/-! ### letters -/
def lets : List UInt8 := [32, 114, 116, 111, 101, 97, 110, 105, 115, 109, 99, 121, 108, 103, 102, 119, 100, 118, 112, 98, 104, 120, 117, 113, 48, 49, 50, 51, 52, 53, 54, 55, 56, 57, 106, 45, 107, 46, 122, 47, 59, 39, 33, 43, 64, 42, 44, 63]
theorem idx_cons (a : UInt8) (l : List UInt8) (b : UInt8) : Lib.indexByte (a :: l) b = if a == b then 0 else if Lib.indexByte l b == -1 then -1 else Lib.indexByte l b + 1 := rfl
def letterOf (b : UInt8) : Int := Lib.indexByte lets b
theorem letterOf_rng (b : UInt8) : -1 ≤ letterOf b ∧ letterOf b ≤ 47 := by
  have key : ∀ (l : List UInt8) (b : UInt8), -1 ≤ Lib.indexByte l b ∧ Lib.indexByte l b < l.length ∨ (Lib.indexByte l b = -1) := by
    intro l b
    induction l with
    | nil => right; rfl
    | cons a l ih =>
      rw [idx_cons]
      split
      · left; simp
      · split
        · right; rfl
        · left
          rename_i h
          have h : ¬ Lib.indexByte l b = -1 := by simpa using h
          rcases ih with ih | ih
          · simp; omega
          · omega
  have := key lets b
  have hl : lets.length = 48 := rfl
  unfold letterOf
  omega
theorem byte_back (b : UInt8) : (byteI b).toNat.toUInt8 = b := by
  unfold byteI
  simp
theorem impl_LetterOf_is (b : UInt8) : impl_LetterOf (byteI b) = some (letterOf b) := by
  simp only [impl_LetterOf_eq, impl_letters_eq, strings_IndexByte_eq, stringslite_IndexByte_eq, bytealg_IndexByteString_eq, idxF, Option.bind_some, byte_back]
  rfl
theorem byteI_inj {a b : UInt8} : byteI a = byteI b ↔ a = b := by
  constructor
  · intro h; rw [← byte_back a, ← byte_back b, h]
  · intro h; rw [h]
theorem spec_LetterOf_l3_is (b : UInt8) (xs : List UInt8) : (r p : List UInt8) → xs = p ++ r → xs.length < 1000 → spec_LetterOf_l3 (byteI b) xs (p.length : Int) = some (if Lib.indexByte r b = -1 then .inl () else .inr (p.length + Lib.indexByte r b))
  | [], p, h, hl => by
    rw [spec_LetterOf_l3_eq]
    subst h
    simp [len_nat, Lib.indexByte]
  | a :: r, p, h, hl => by
    rw [spec_LetterOf_l3_eq]
    subst h
    have ih := spec_LetterOf_l3_is b (p ++ a :: r) r (p ++ [a]) (by simp) hl
    have e1 : addI .i64 (p.length : Int) 1 = ((p ++ [a]).length : Int) := by
      simp only [List.length_append, List.length_cons, List.length_nil] at hl ⊢
      unfold addI; rw [wI64 (by omega) (by omega)]; omega
    have e2 : decide ((p.length : Int) < len (p ++ a :: r)) = true := by simp [len_nat]; omega
    rw [e2, nth_app, e1, ih]
    simp only [cond_true, Option.bind_some, byteI_inj]
    rw [idx_cons]
    have hg := Lib.indexByte_ge r b
    by_cases hab : a = b
    · simp [hab]
    · have hab' : (a == b) = false := by simpa using hab
      simp only [hab, decide_false, cond_false, hab', Bool.false_eq_true, if_false]
      by_cases hr : Lib.indexByte r b = -1
      · simp [hr]
      · have : ¬ (Lib.indexByte r b + 1 = -1) := by omega
        simp [hr, this]
        omega
theorem spec_LetterOf_is (b : UInt8) : spec_LetterOf (byteI b) = some (letterOf b) := by
  rw [spec_LetterOf_eq, spec_l02All_eq]
  simp only [Option.bind_some]
  have := spec_LetterOf_l3_is b lets lets [] rfl (by decide)
  simp only [List.length_nil] at this
  show (spec_LetterOf_l3 (byteI b) lets 0).bind _ = _
  rw [show (0 : Int) = ((0 : Nat) : Int) from rfl, this]
  unfold letterOf
  by_cases h : Lib.indexByte lets b = -1
  · simp [h]
  · simp [h]

def width (k : Int) : Nat := if 0 ≤ k ∧ k ≤ 7 then 4 else if 8 ≤ k ∧ k ≤ 15 then 5 else if 16 ≤ k ∧ k ≤ 47 then 7 else 0
def bitsOf (k : Int) : Nat := if 0 ≤ k ∧ k ≤ 7 then k.toNat else if 8 ≤ k ∧ k ≤ 15 then (k + 8).toNat else if 16 ≤ k ∧ k ≤ 47 then (k + 80).toNat else 0
theorem bits_lt (k : Int) : bitsOf k < 2 ^ width k := by
  unfold bitsOf width
  split
  · simp; omega
  · split
    · simp; omega
    · split
      · simp; omega
      · simp
theorem impl_within_is (x a b : Int) : impl_within x a b = some (decide (a ≤ x ∧ x ≤ b)) := by
  rw [impl_within_eq]
  by_cases h1 : a ≤ x <;> by_cases h2 : x ≤ b <;> simp [h1, h2]
theorem spec_l01In_is (x a b : Int) : spec_l01In x a b = some (decide (a ≤ x ∧ x ≤ b)) := by
  rw [spec_l01In_eq]
  by_cases h1 : a ≤ x <;> by_cases h2 : x ≤ b <;> simp [h1, h2]
theorem impl_WidthOf_is (k : Int) : impl_WidthOf k = some (width k : Int) := by
  simp only [impl_WidthOf_eq, impl_within_is, Option.bind_some, width]
  by_cases h1 : 0 ≤ k ∧ k ≤ 7 <;> by_cases h2 : 8 ≤ k ∧ k ≤ 15 <;> by_cases h3 : 16 ≤ k ∧ k ≤ 47 <;> simp [h1, h2, h3]
theorem spec_WidthOf_is (k : Int) : spec_WidthOf k = some (width k : Int) := by
  simp only [spec_WidthOf_eq, spec_l01In_is, Option.bind_some, width]
  by_cases h1 : 0 ≤ k ∧ k ≤ 7 <;> by_cases h2 : 8 ≤ k ∧ k ≤ 15 <;> by_cases h3 : 16 ≤ k ∧ k ≤ 47 <;> simp [h1, h2, h3]
theorem width_cases (k : Int) : (0 ≤ k ∧ k ≤ 7 ∧ width k = 4 ∧ (bitsOf k : Int) = k) ∨ (8 ≤ k ∧ k ≤ 15 ∧ width k = 5 ∧ (bitsOf k : Int) = k + 8) ∨ (16 ≤ k ∧ k ≤ 47 ∧ width k = 7 ∧ (bitsOf k : Int) = k + 80) ∨ ((k < 0 ∨ 47 < k) ∧ width k = 0 ∧ bitsOf k = 0) := by
  unfold width bitsOf
  by_cases h1 : 0 ≤ k ∧ k ≤ 7
  · rw [if_pos h1, if_pos h1]; omega
  · rw [if_neg h1, if_neg h1]
    by_cases h2 : 8 ≤ k ∧ k ≤ 15
    · rw [if_pos h2, if_pos h2]; omega
    · rw [if_neg h2, if_neg h2]
      by_cases h3 : 16 ≤ k ∧ k ≤ 47
      · rw [if_pos h3, if_pos h3]; omega
      · rw [if_neg h3, if_neg h3]; omega
theorem impl_BitsOf_is (k : Int) : impl_BitsOf k = some (bitsOf k : Int) := by
  simp only [impl_BitsOf_eq, impl_WidthOf_is, Option.bind_some, cvtI, addI]
  rcases width_cases k with ⟨h1, h2, h3, h4⟩ | ⟨h1, h2, h3, h4⟩ | ⟨h1, h2, h3, h4⟩ | ⟨h1, h3, h4⟩
  · rw [h3, h4, wU32 (n := k) (by omega) (by omega)]; simp
  · rw [h3, h4, wU32 (n := k) (by omega) (by omega), wU32 (n := k + 8) (by omega) (by omega)]; simp
  · rw [h3, h4, wU32 (n := k) (by omega) (by omega), wU32 (n := k + 80) (by omega) (by omega)]; simp
  · rw [h3, h4]; simp
theorem spec_BitsOf_is (k : Int) : spec_BitsOf k = some (bitsOf k : Int) := by
  simp only [spec_BitsOf_eq, spec_WidthOf_is, Option.bind_some, cvtI, addI]
  rcases width_cases k with ⟨h1, h2, h3, h4⟩ | ⟨h1, h2, h3, h4⟩ | ⟨h1, h2, h3, h4⟩ | ⟨h1, h3, h4⟩
  · rw [h3, h4, wU32 (n := k) (by omega) (by omega)]; simp
  · rw [h3, h4, wI64 (n := k + 8) (by omega) (by omega), wU32 (n := k + 8) (by omega) (by omega)]; simp
  · rw [h3, h4, wI64 (n := k + 80) (by omega) (by omega), wU32 (n := k + 80) (by omega) (by omega)]; simp
  · rw [h3, h4]; simp

/-! ### names -/
def goodLetters (s : List UInt8) : Bool := s.all fun b => decide (1 ≤ letterOf b)
def nameOk (s : List UInt8) : Bool := goodLetters s && (decide (1 ≤ s.length) && decide (s.length ≤ 24))
theorem impl_NameOk_l2_is (s : List UInt8) (hl : s.length < 4000000000000000000) : (r p : List UInt8) → s = p ++ r → impl_NameOk_l2 s (len s) (p.length : Int) = some (if goodLetters r then .inl s else .inr false)
  | [], p, h => by
    rw [impl_NameOk_l2_eq]
    subst h
    simp [len_nat, goodLetters]
  | a :: r, p, h => by
    rw [impl_NameOk_l2_eq]
    have ih := impl_NameOk_l2_is s hl r (p ++ [a]) (by simp [h])
    subst h
    have e1 : addI .i64 (p.length : Int) 1 = ((p ++ [a]).length : Int) := by
      simp only [List.length_append, List.length_cons, List.length_nil] at hl ⊢
      unfold addI; rw [wI64 (by omega) (by omega)]; omega
    have e2 : decide ((p.length : Int) < len (p ++ a :: r)) = true := by simp [len_nat]; omega
    rw [e2, nth_app, e1, ih]
    simp only [cond_true, Option.bind_some, impl_LetterOf_is, goodLetters, List.all_cons]
    by_cases h1 : 1 ≤ letterOf a
    · have h2 : ¬ letterOf a < 1 := by omega
      simp [h1, h2]
    · have h2 : letterOf a < 1 := by omega
      simp [h1, h2]
theorem impl_NameOk_is (s : List UInt8) (hl : s.length < 4000000000000000000) : impl_NameOk s = some (nameOk s) := by
  rw [impl_NameOk_eq, show (0 : Int) = (([] : List UInt8).length : Int) from rfl, impl_NameOk_l2_is s hl s [] rfl]
  unfold nameOk
  by_cases h : goodLetters s = true
  · simp only [h, if_true, Option.bind_some, Sum.elim_inl, impl_within_is, Bool.true_and, len_nat, ← Bool.decide_and]
    congr 1
    rw [decide_eq_decide]; omega
  · simp [h]
theorem spec_NameOk_l4_is (s : List UInt8) (hl : s.length < 4000000000000000000) : (r p : List UInt8) → s = p ++ r → spec_NameOk_l4 s (p.length : Int) = some (if goodLetters r then .inl () else .inr false)
  | [], p, h => by
    rw [spec_NameOk_l4_eq]
    subst h
    simp [len_nat, goodLetters]
  | a :: r, p, h => by
    rw [spec_NameOk_l4_eq]
    have ih := spec_NameOk_l4_is s hl r (p ++ [a]) (by simp [h])
    subst h
    have e1 : addI .i64 (p.length : Int) 1 = ((p ++ [a]).length : Int) := by
      simp only [List.length_append, List.length_cons, List.length_nil] at hl ⊢
      unfold addI; rw [wI64 (by omega) (by omega)]; omega
    have e2 : decide ((p.length : Int) < len (p ++ a :: r)) = true := by simp [len_nat]; omega
    rw [e2, nth_app, e1, ih]
    simp only [cond_true, Option.bind_some, spec_LetterOf_is, goodLetters, List.all_cons]
    by_cases h1 : 1 ≤ letterOf a
    · have h2 : ¬ letterOf a < 1 := by omega
      simp [h1, h2]
    · have h2 : letterOf a < 1 := by omega
      simp [h1, h2]
theorem spec_NameOk_is (s : List UInt8) (hl : s.length < 4000000000000000000) : spec_NameOk s = some (nameOk s) := by
  rw [spec_NameOk_eq, spec_l01In_is, show (0 : Int) = (([] : List UInt8).length : Int) from rfl, spec_NameOk_l4_is s hl s [] rfl]
  unfold nameOk
  by_cases h0 : 1 ≤ s.length ∧ s.length ≤ 24
  · have : (1 : Int) ≤ len s ∧ len s ≤ 24 := by simp [len_nat]; omega
    by_cases h : goodLetters s = true
    · simp [h, h0, this]
    · simp [h, this]
  · have : ¬ ((1 : Int) ≤ len s ∧ len s ≤ 24) := by simp [len_nat]; omega
    have h0' : (decide (1 ≤ s.length) && decide (s.length ≤ 24)) = false := by
      rw [Bool.and_eq_false_iff]; simp only [decide_eq_false_iff_not]; omega
    simp [this, h0']
end Go.Ev

namespace Go.Ev
open Go Go.Proofs
set_option linter.unusedVariables false
set_option linter.unusedSimpArgs false

def packGo : List UInt8 → Nat → Nat → Nat → Nat × Nat
  | [], f, left, n => (f, n)
  | c :: r, f, left, n => if left < width (letterOf c) then (f, n) else packGo r (f + bitsOf (letterOf c) * 2 ^ (left - width (letterOf c))) (left - width (letterOf c)) (n + 1)

theorem width_le (k : Int) : width k ≤ 7 := by
  rcases width_cases k with h | h | h | h <;> omega
/-- a step of packing -/
theorem pack_step {f left w b : Nat} (hf : f < 2 ^ 28) (hd : 2 ^ left ∣ f) (hl : left ≤ 28) (hw : w ≤ left) (hb : b < 2 ^ w) :
    b * 2 ^ (left - w) < 2 ^ left ∧ (f ||| b * 2 ^ (left - w)) = f + b * 2 ^ (left - w) ∧ f + b * 2 ^ (left - w) < 2 ^ 28 ∧ 2 ^ (left - w) ∣ f + b * 2 ^ (left - w) := by
  have h1 : b * 2 ^ (left - w) < 2 ^ left := by
    have : b * 2 ^ (left - w) < 2 ^ w * 2 ^ (left - w) := Nat.mul_lt_mul_of_pos_right hb (Nat.two_pow_pos _)
    rwa [← Nat.pow_add, Nat.add_sub_cancel' hw] at this
  have h2 := or_add h1 hd
  refine ⟨h1, h2, ?_, ?_⟩
  · rw [← h2]
    exact Nat.or_lt_two_pow hf (Nat.lt_of_lt_of_le h1 (Nat.pow_le_pow_right (by omega) hl))
  · exact Nat.dvd_add (Nat.dvd_trans (Nat.pow_dvd_pow 2 (by omega)) hd) (Nat.dvd_mul_left _ _)

theorem impl_PackOne_l5_is (s : List UInt8) (hs : s.length < 4000000000000000000) : (r p : List UInt8) → (f left : Nat) → s = p ++ r → f < 2 ^ 28 → 2 ^ left ∣ f → left ≤ 28 →
    impl_PackOne_l5 s f left (p.length : Int) (len s) (p.length : Int) = some (((packGo r f left p.length).1 : Int), ((packGo r f left p.length).2 : Int))
  | [], p, f, left, h, hf, hd, hl => by
    rw [impl_PackOne_l5_eq]
    subst h
    simp [len_nat, packGo]
  | c :: r, p, f, left, h, hf, hd, hl => by
    rw [impl_PackOne_l5_eq, packGo]
    have e1 : addI .i64 (p.length : Int) 1 = ((p ++ [c]).length : Int) := by
      subst h
      simp only [List.length_append, List.length_cons, List.length_nil] at hs ⊢
      unfold addI; rw [wI64 (by omega) (by omega)]; omega
    have e2 : decide ((p.length : Int) < len s) = true := by subst h; simp [len_nat]; omega
    have e3 : nth s (p.length : Int) = some c := by subst h; exact nth_app p c r
    rw [e2, e3]
    simp only [cond_true, Option.bind_some, impl_LetterOf_is, impl_WidthOf_is, impl_BitsOf_is]
    by_cases hw : left < width (letterOf c)
    · have : (left : Int) < (width (letterOf c) : Int) := by omega
      rw [if_pos hw, decide_eq_true this]
      simp
    · have hw' : ¬ (left : Int) < (width (letterOf c) : Int) := by omega
      obtain ⟨q1, q2, q3, q4⟩ := pack_step hf hd hl (show width (letterOf c) ≤ left by omega) (bits_lt (letterOf c))
      have hpw : (2 : Nat) ^ left ≤ 2 ^ 28 := Nat.pow_le_pow_right (by omega) hl
      have e4 : subI .i64 (left : Int) (width (letterOf c) : Int) = ((left - width (letterOf c) : Nat) : Int) := by
        unfold subI; rw [wI64 (by omega) (by omega)]; omega
      have e5 : shlI .u32 (bitsOf (letterOf c) : Int) ((left - width (letterOf c) : Nat) : Int) = ((bitsOf (letterOf c) * 2 ^ (left - width (letterOf c)) : Nat) : Int) := by
        unfold shlI
        have hm : min (Int.toNat ((left - width (letterOf c) : Nat) : Int)) IntKind.u32.bits = left - width (letterOf c) := by
          simp only [Int.toNat_natCast, IntKind.bits]; omega
        rw [hm, show ((bitsOf (letterOf c) : Nat) : Int) * 2 ^ (left - width (letterOf c)) = ((bitsOf (letterOf c) * 2 ^ (left - width (letterOf c)) : Nat) : Int) by simp]
        exact wU32 (by omega) (by omega)
      rw [if_neg hw, decide_eq_false hw', e4, e5, orI_u32 (by omega) (by omega), q2, e1]
      have ih := impl_PackOne_l5_is s hs r (p ++ [c]) (f + bitsOf (letterOf c) * 2 ^ (left - width (letterOf c))) (left - width (letterOf c)) (by simp [h]) q3 q4 (by omega)
      rw [List.length_append] at ih
      simp only [cond_false, show decide ((0 : Int) ≤ ((left - width (letterOf c) : Nat) : Int)) = true from decide_eq_true (by omega), cond_true]
      rw [List.length_append]
      exact ih
theorem impl_PackOne_is (s : List UInt8) (hs : s.length < 4000000000000000000) : impl_PackOne s = some (if nameOk s then (((packGo s 0 28 0).1 : Int), ((packGo s 0 28 0).2 : Int)) else (0, 0)) := by
  rw [impl_PackOne_eq, impl_NameOk_is s hs]
  have := impl_PackOne_l5_is s hs s [] 0 28 rfl (by decide) (by decide) (by decide)
  simp only [List.length_nil] at this
  by_cases h : nameOk s = true
  · simp only [h, Option.bind_some, Bool.not_true, cond_false, if_true]
    show (impl_PackOne_l5 s ((0 : Nat) : Int) ((28 : Nat) : Int) ((0 : Nat) : Int) (len s) ((0 : Nat) : Int)).bind _ = _
    rw [this]; rfl
  · simp [h]

theorem spec_l03One_l2_is (s : List UInt8) (hs : s.length < 4000000000000000000) : (r p : List UInt8) → (f left : Nat) → s = p ++ r → f < 2 ^ 28 → 2 ^ left ∣ f → left ≤ 28 →
    spec_l03One_l2 s f left (p.length : Int) = some (((packGo r f left p.length).1 : Int), ((packGo r f left p.length).2 : Int))
  | [], p, f, left, h, hf, hd, hl => by
    rw [spec_l03One_l2_eq]
    subst h
    simp [len_nat, packGo]
  | c :: r, p, f, left, h, hf, hd, hl => by
    rw [spec_l03One_l2_eq, packGo]
    have e1 : addI .i64 (p.length : Int) 1 = ((p ++ [c]).length : Int) := by
      subst h
      simp only [List.length_append, List.length_cons, List.length_nil] at hs ⊢
      unfold addI; rw [wI64 (by omega) (by omega)]; omega
    have e2 : decide ((p.length : Int) < len s) = true := by subst h; simp [len_nat]; omega
    have e3 : nth s (p.length : Int) = some c := by subst h; exact nth_app p c r
    rw [e2, e3]
    simp only [cond_true, Option.bind_some, spec_LetterOf_is, spec_WidthOf_is, spec_BitsOf_is]
    by_cases hw : left < width (letterOf c)
    · have : (left : Int) < (width (letterOf c) : Int) := by omega
      rw [if_pos hw, decide_eq_true this]
      simp
    · have hw' : ¬ (left : Int) < (width (letterOf c) : Int) := by omega
      obtain ⟨q1, q2, q3, q4⟩ := pack_step hf hd hl (show width (letterOf c) ≤ left by omega) (bits_lt (letterOf c))
      have hpw : (2 : Nat) ^ left ≤ 2 ^ 28 := Nat.pow_le_pow_right (by omega) hl
      have hb := bits_lt (letterOf c)
      have hb2 : (2 : Nat) ^ width (letterOf c) ≤ 2 ^ 7 := Nat.pow_le_pow_right (by omega) (width_le _)
      have e4 : subI .i64 (left : Int) (width (letterOf c) : Int) = ((left - width (letterOf c) : Nat) : Int) := by
        unfold subI; rw [wI64 (by omega) (by omega)]; omega
      have e6 : cvtI .u64 ((left - width (letterOf c) : Nat) : Int) = ((left - width (letterOf c) : Nat) : Int) := by
        unfold cvtI; rw [wU64 (by omega) (by omega)]
      have e7 : cvtI .i64 (bitsOf (letterOf c) : Int) = (bitsOf (letterOf c) : Int) := by
        unfold cvtI; rw [wI64 (by omega) (by omega)]
      have e5 : shlI .i64 (bitsOf (letterOf c) : Int) ((left - width (letterOf c) : Nat) : Int) = ((bitsOf (letterOf c) * 2 ^ (left - width (letterOf c)) : Nat) : Int) := by
        unfold shlI
        have hm : min (Int.toNat ((left - width (letterOf c) : Nat) : Int)) IntKind.i64.bits = left - width (letterOf c) := by
          simp only [Int.toNat_natCast, IntKind.bits]; omega
        rw [hm, show ((bitsOf (letterOf c) : Nat) : Int) * 2 ^ (left - width (letterOf c)) = ((bitsOf (letterOf c) * 2 ^ (left - width (letterOf c)) : Nat) : Int) by simp]
        exact wI64 (by omega) (by omega)
      have e8 : addI .i64 (f : Int) ((bitsOf (letterOf c) * 2 ^ (left - width (letterOf c)) : Nat) : Int) = ((f + bitsOf (letterOf c) * 2 ^ (left - width (letterOf c)) : Nat) : Int) := by
        unfold addI; rw [wI64 (by omega) (by omega)]; simp
      rw [if_neg hw, decide_eq_false hw', e4, e6, e7, e5, e8, e1]
      have ih := spec_l03One_l2_is s hs r (p ++ [c]) (f + bitsOf (letterOf c) * 2 ^ (left - width (letterOf c))) (left - width (letterOf c)) (by simp [h]) q3 q4 (by omega)
      rw [List.length_append] at ih
      simp only [cond_false, show decide ((0 : Int) ≤ ((left - width (letterOf c) : Nat) : Int)) = true from decide_eq_true (by omega), cond_true]
      rw [List.length_append]
      exact ih

theorem packGo_lt : (r : List UInt8) → (f left n : Nat) → f < 2 ^ 28 → 2 ^ left ∣ f → left ≤ 28 → (packGo r f left n).1 < 2 ^ 28
  | [], f, left, n, hf, _, _ => hf
  | c :: r, f, left, n, hf, hd, hl => by
    rw [packGo]
    split
    · exact hf
    · obtain ⟨q1, q2, q3, q4⟩ := pack_step hf hd hl (show width (letterOf c) ≤ left by omega) (bits_lt (letterOf c))
      exact packGo_lt r _ _ _ q3 q4 (by omega)
theorem packGo_n : (r : List UInt8) → (f left n : Nat) → n ≤ (packGo r f left n).2 ∧ (packGo r f left n).2 ≤ n + r.length
  | [], f, left, n => by simp [packGo]
  | c :: r, f, left, n => by
    rw [packGo]
    split
    · simp
    · have := packGo_n r (f + bitsOf (letterOf c) * 2 ^ (left - width (letterOf c))) (left - width (letterOf c)) (n + 1)
      simp only [List.length_cons]; omega
theorem packGo_one {c : UInt8} {r : List UInt8} : 1 ≤ (packGo (c :: r) 0 28 0).2 := by
  have := width_le (letterOf c)
  rw [packGo, if_neg (by omega)]
  have := packGo_n r (0 + bitsOf (letterOf c) * 2 ^ (28 - width (letterOf c))) (28 - width (letterOf c)) (0 + 1)
  omega
theorem spec_l03One_is (s : List UInt8) (hs : s.length < 4000000000000000000) : spec_l03One s = some (((packGo s 0 28 0).1 : Int), ((packGo s 0 28 0).2 : Int)) := by
  rw [spec_l03One_eq]
  have := spec_l03One_l2_is s hs s [] 0 28 rfl (by decide) (by decide) (by decide)
  simp only [List.length_nil] at this
  show (spec_l03One_l2 s ((0 : Nat) : Int) ((28 : Nat) : Int) ((0 : Nat) : Int)).bind _ = _
  rw [this]
  have hf := packGo_lt s 0 28 0 (by decide) (by decide) (by decide)
  simp only [Option.bind_some, cvtI]
  rw [wU32 (by omega) (by omega)]

/-- the fields of letters -/
def packL : Nat → List UInt8 → List Int
  | 0, _ => []
  | k + 1, s => if s = [] then [] else ((packGo s 0 28 0).1 : Int) :: packL k (s.drop (packGo s 0 28 0).2)
def packN (s : List UInt8) : List Int := if nameOk s then packL s.length s else []
theorem good_drop {s : List UInt8} (h : goodLetters s = true) (n : Nat) : goodLetters (s.drop n) = true := by
  unfold goodLetters at h ⊢
  rw [List.all_eq_true] at h ⊢
  exact fun x hx => h x (List.mem_of_mem_drop hx)
theorem impl_Pack_l2_is : (k : Nat) → (s : List UInt8) → (acc : List Int) → goodLetters s = true → s.length ≤ k → s.length ≤ 24 → acc.length + s.length < 1000 → impl_Pack_l2 s acc = some (acc ++ packL k s)
  | 0, s, acc, hg, hk, h24, ha => by
    obtain rfl : s = [] := List.length_eq_zero_iff.1 (by omega)
    rw [impl_Pack_l2_eq, impl_NameOk_is _ (by simp)]
    simp [nameOk, packL]
  | k + 1, [], acc, hg, hk, h24, ha => by
    rw [impl_Pack_l2_eq, impl_NameOk_is _ (by simp)]
    simp [nameOk, packL]
  | k + 1, c :: r, acc, hg, hk, h24, ha => by
    rw [impl_Pack_l2_eq, impl_NameOk_is _ (by omega), impl_PackOne_is _ (by omega)]
    have hn : nameOk (c :: r) = true := by
      unfold nameOk; rw [hg]
      simp only [List.length_cons] at h24 ⊢
      simp; omega
    have h1 := @packGo_one c r
    have h2 := (packGo_n (c :: r) 0 28 0).2
    simp only [List.length_cons] at ha hk h24 h2
    rw [packL, if_neg (show ¬ (c :: r = []) by simp)]
    simp only [hn, if_true, Option.bind_some, cond_true]
    rw [decide_eq_true (show acc.length + 1 < 35184372088832 by omega), cond_true,
      decide_eq_true (show (0 : Int) ≤ ((packGo (c :: r) 0 28 0).2 : Int) by omega), decide_eq_true (show ((packGo (c :: r) 0 28 0).2 : Int) ≤ len (c :: r) by rw [len_nat, List.length_cons]; omega), Int.toNat_natCast]
    simp only [Bool.and_self, cond_true]
    rw [impl_Pack_l2_is k _ _ (good_drop hg _) (by rw [List.length_drop, List.length_cons]; omega) (by rw [List.length_drop, List.length_cons]; omega) (by rw [List.length_drop, List.length_cons, List.length_append]; simp; omega)]
    simp
theorem nameOk_good {s : List UInt8} (h : nameOk s = true) : goodLetters s = true ∧ 1 ≤ s.length ∧ s.length ≤ 24 := by
  unfold nameOk at h
  simp only [Bool.and_eq_true, decide_eq_true_eq] at h
  exact h
theorem impl_Pack_is (s : List UInt8) (hs : s.length < 4000000000000000000) : impl_Pack s = some (packN s) := by
  rw [impl_Pack_eq]
  unfold packN
  by_cases h : nameOk s = true
  · obtain ⟨h1, h2, h3⟩ := nameOk_good h
    rw [impl_Pack_l2_is s.length s [] h1 (Nat.le_refl _) h3 (by simp; omega), if_pos h]
    simp
  · rw [impl_Pack_l2_eq, impl_NameOk_is s hs, if_neg h]
    simp [h]
theorem spec_Pack_l4_is : (k : Nat) → (s : List UInt8) → (acc : List Int) → s.length ≤ k → s.length ≤ 24 → acc.length + s.length < 1000 → spec_Pack_l4 s acc = some (acc ++ packL k s)
  | 0, s, acc, hk, h24, ha => by
    obtain rfl : s = [] := List.length_eq_zero_iff.1 (by omega)
    rw [spec_Pack_l4_eq]
    simp [packL]
  | k + 1, [], acc, hk, h24, ha => by
    rw [spec_Pack_l4_eq]
    simp [packL]
  | k + 1, c :: r, acc, hk, h24, ha => by
    rw [spec_Pack_l4_eq, spec_l03One_is _ (by omega)]
    have h1 := @packGo_one c r
    have h2 := (packGo_n (c :: r) 0 28 0).2
    simp only [List.length_cons] at ha hk h24 h2
    rw [packL, if_neg (show ¬ (c :: r = []) by simp), decide_eq_false (show ¬ (c :: r = []) by simp)]
    simp only [Bool.not_false, Option.bind_some, cond_true]
    rw [decide_eq_true (show acc.length + 1 < 35184372088832 by omega), cond_true,
      decide_eq_true (show (0 : Int) ≤ ((packGo (c :: r) 0 28 0).2 : Int) by omega), decide_eq_true (show ((packGo (c :: r) 0 28 0).2 : Int) ≤ len (c :: r) by rw [len_nat, List.length_cons]; omega), Int.toNat_natCast]
    simp only [Bool.and_self, cond_true]
    rw [spec_Pack_l4_is k _ _ (by rw [List.length_drop, List.length_cons]; omega) (by rw [List.length_drop, List.length_cons]; omega) (by rw [List.length_drop, List.length_cons, List.length_append]; simp; omega)]
    simp
theorem spec_Pack_is (s : List UInt8) (hs : s.length < 4000000000000000000) : spec_Pack s = some (packN s) := by
  rw [spec_Pack_eq, spec_NameOk_is s hs]
  unfold packN
  by_cases h : nameOk s = true
  · obtain ⟨h1, h2, h3⟩ := nameOk_good h
    simp only [h, Option.bind_some, Bool.not_true, cond_false, if_true]
    rw [spec_Pack_l4_is s.length s [] (Nat.le_refl _) h3 (by simp; omega)]
    simp
  · simp [h]
theorem packL_rng : (k : Nat) → (s : List UInt8) → (∀ f ∈ packL k s, 0 ≤ f ∧ f < 268435456) ∧ (packL k s).length ≤ k
  | 0, s => by simp [packL]
  | k + 1, s => by
    rw [packL]
    split
    · simp
    · obtain ⟨h1, h2⟩ := packL_rng k (s.drop (packGo s 0 28 0).2)
      have hf := packGo_lt s 0 28 0 (by decide) (by decide) (by decide)
      refine ⟨fun f h => ?_, by simp; omega⟩
      rcases List.mem_cons.1 h with rfl | h
      · omega
      · exact h1 f h
theorem packN_rng (s : List UInt8) : (∀ f ∈ packN s, 0 ≤ f ∧ f < 268435456) ∧ (packN s).length ≤ 24 := by
  unfold packN
  split
  · rename_i h
    obtain ⟨h1, h2⟩ := packL_rng s.length s
    have := (nameOk_good h).2.2
    exact ⟨h1, by omega⟩
  · simp
end Go.Ev

namespace Go.Ev
open Go Go.Proofs
set_option linter.unusedVariables false
set_option linter.unusedSimpArgs false

def tagOf (k : Int) : Int := if k = 1 then 1 else if k = 2 then 3 else if k = 3 then 4 else if k = 4 then 9 else if k = 5 then 10 else if k = 6 then 11 else 0
theorem impl_nameTag_is (k : Int) : impl_nameTag k = some (tagOf k) := by
  rw [impl_nameTag_eq]; unfold tagOf
  simp only [Bool.cond_decide]
  repeat' split
  all_goals rfl
theorem spec_l04Tag_is (k : Int) : spec_l04Tag k = some (tagOf k) := by
  rw [spec_l04Tag_eq]; unfold tagOf
  simp only [Bool.cond_decide]
  repeat' split
  all_goals rfl
theorem tag_pos {k : Int} (h : 0 < tagOf k) : 1 ≤ k ∧ k ≤ 6 ∧ tagOf k < 16 := by
  unfold tagOf at h ⊢
  repeat' split at h
  all_goals first | (simp [*]; omega) | omega
theorem tag_rng (k : Int) : 0 ≤ tagOf k ∧ tagOf k < 12 ∧ (tagOf k = 0 ↔ k < 1 ∨ 6 < k) := by
  unfold tagOf
  repeat' split
  all_goals omega

def wordCells (tag : Int) : List Int → List Int
  | [] => []
  | f :: r => (f * 16 + tag) :: r.map (· * 16)
def bit16 (h : Bool) : Int := if h then 16 else 0
def numCells (n : Int) (hex : Bool) (short long : Int) : List Int := if -67108864 ≤ n ∧ n ≤ 67108863 then [(n % 134217728) * 32 + bit16 hex + short] else [bit16 hex + long, n % 4294967296]

theorem bit16_cases (h : Bool) : bit16 h = 0 ∨ bit16 h = 16 := by cases h <;> simp [bit16]
theorem or_tag {x t : Int} (h0 : 0 ≤ x) (h1 : x < 268435456) (t0 : 0 ≤ t) (t1 : t < 16) : orI .u32 (shlI .u32 x 4) t = x * 16 + t := by
  obtain ⟨a, rfl⟩ := Int.eq_ofNat_of_zero_le h0
  obtain ⟨b, rfl⟩ := Int.eq_ofNat_of_zero_le t0
  have e : shlI .u32 (a : Int) 4 = ((a * 16 : Nat) : Int) := by
    unfold shlI
    rw [show (2 : Int) ^ (min (Int.toNat 4) IntKind.u32.bits) = 16 from rfl, wU32 (by omega) (by omega)]; omega
  rw [e, orI_u32 (by omega) (by omega), or_add (i := 4) (by omega) ⟨a, by omega⟩]
  omega
theorem spec_l04Num_is (n : Int) (hex : Bool) (s l : Int) (hs : 0 ≤ s ∧ s < 16) (hl : 0 ≤ l ∧ l < 16) : spec_l04Num n hex s l = some (numCells n hex s l) := by
  rw [spec_l04Num_eq]
  have hb : ((bif hex then some (n, s, l, 16) else some (n, s, l, 0) : Option (Int × Int × Int × Int))) = some (n, s, l, bit16 hex) := by cases hex <;> rfl
  have hc := bit16_cases hex
  rw [hb]
  simp only [Option.bind_some, numCells, addI, mulI, cvtI, wU32_mod]
  by_cases h1 : -67108864 ≤ n <;> by_cases h2 : n ≤ 67108863 <;> simp [h1, h2] <;> omega
theorem impl_numberCells_is (n : Int) (hex : Bool) (s l : Int) (hs : 0 ≤ s ∧ s < 16) (hl : 0 ≤ l ∧ l < 16) : impl_numberCells n hex s l = some (numCells n hex s l) := by
  rw [impl_numberCells_eq]
  have hb : ((bif hex then some (n, s, l, 16) else some (n, s, l, 0) : Option (Int × Int × Int × Int))) = some (n, s, l, bit16 hex) := by cases hex <;> rfl
  have hc := bit16_cases hex
  rw [hb]
  obtain ⟨s, rfl⟩ := Int.eq_ofNat_of_zero_le hs.1
  obtain ⟨l, rfl⟩ := Int.eq_ofNat_of_zero_le hl.1
  have e1 : orI .u32 (bit16 hex) (l : Int) = bit16 hex + l := by
    rcases hc with hc | hc
    · rw [hc, show (0 : Int) = ((0 : Nat) : Int) from rfl, orI_u32 (by omega) (by omega)]; simp
    · rw [hc, show (16 : Int) = ((16 : Nat) : Int) from rfl, orI_u32 (by omega) (by omega), or_add (i := 4) (by omega) ⟨1, rfl⟩]; simp
  have e2 : shlI .u32 (cvtI .u32 n) 5 = (((n % 134217728).toNat * 32 : Nat) : Int) := by
    unfold shlI cvtI
    rw [show (2 : Int) ^ (min (Int.toNat 5) IntKind.u32.bits) = 32 from rfl, wU32_mod, wU32_mod]; omega
  have e3 : orI .u32 (orI .u32 (shlI .u32 (cvtI .u32 n) 5) (bit16 hex)) (s : Int) = (n % 134217728) * 32 + bit16 hex + s := by
    obtain ⟨b, hb⟩ : ∃ b : Nat, bit16 hex = b ∧ (b = 0 ∨ b = 16) := by
      rcases hc with hc | hc
      · exact ⟨0, hc, .inl rfl⟩
      · exact ⟨16, hc, .inr rfl⟩
    have hq : (n % 134217728).toNat * 32 < 4294967296 := by omega
    rw [e2, hb.1, orI_u32 hq (by omega), or_add (i := 5) (by omega) ⟨(n % 134217728).toNat, by omega⟩, orI_u32 (by omega) (by omega),
      or_add (i := 4) (by omega) (by rcases hb.2 with h | h <;> rw [h] <;> exact ⟨(n % 134217728).toNat * 2 + b / 16, by omega⟩)]
    omega
  simp only [Option.bind_some, numCells, e1, e3]
  rw [show cvtI .u32 n = n % 4294967296 from wU32_mod n]
  by_cases h1 : -67108864 ≤ n <;> by_cases h2 : n ≤ 67108863 <;> simp [h1, h2]

/-! ### words -/
theorem impl_CellsOf_l5_zero (fs : List Int) (hl : fs.length < 1000) : (r p : List Int) → (acc : List Int) → fs = p ++ r → (∀ f ∈ r, 0 ≤ f ∧ f < 268435456) → acc.length = p.length →
    impl_CellsOf_l5 0 acc fs (len fs) (p.length : Int) = some (acc ++ r.map (· * 16))
  | [], p, acc, h, hr, ha => by
    rw [impl_CellsOf_l5_eq]; subst h; simp [len_nat]
  | f :: r, p, acc, h, hr, ha => by
    rw [impl_CellsOf_l5_eq]
    have hfl : p.length + r.length + 1 = fs.length := by rw [h]; simp; omega
    have e1 : addI .i64 (p.length : Int) 1 = ((p ++ [f]).length : Int) := by
      unfold addI; rw [wI64 (by omega) (by omega)]; simp
    have e3 : fs[p.length]? = some f := by rw [h]; simp
    have hf := hr f (by simp)
    have ih := impl_CellsOf_l5_zero fs hl r (p ++ [f]) (acc ++ [f * 16]) (by simp [h]) (fun x hx => hr x (by simp [hx])) (by simp [ha])
    rw [len_nat, decide_eq_true (show (p.length : Int) < (fs.length : Int) by omega), decide_eq_true (show (0 : Int) ≤ (p.length : Int) by omega), Int.toNat_natCast, e3]
    simp only [cond_true, Bool.and_self, Option.bind_some]
    rw [decide_eq_true (show acc.length + 1 < 35184372088832 by omega), or_tag hf.1 hf.2 (by omega) (by omega), e1, Int.add_zero]
    rw [len_nat] at ih
    rw [cond_true, ih]
    simp
theorem add01 {α : Type} (x : α) : addI .i64 0 1 = (([x] : List α).length : Int) := by
  have : addI .i64 0 1 = 1 := by decide
  rw [this]; rfl
theorem impl_CellsOf_l5_is (tag : Int) (ht : 0 ≤ tag ∧ tag < 16) (fs : List Int) (hl : fs.length < 1000) (hr : ∀ f ∈ fs, 0 ≤ f ∧ f < 268435456) : impl_CellsOf_l5 tag [] fs (len fs) 0 = some (wordCells tag fs) := by
  cases fs with
  | nil => rw [impl_CellsOf_l5_eq]; simp [len_nat, wordCells]
  | cons f r =>
    have hf := hr f (by simp)
    have := impl_CellsOf_l5_zero (f :: r) hl r [f] [f * 16 + tag] rfl (fun x hx => hr x (by simp [hx])) rfl
    rw [impl_CellsOf_l5_eq]
    rw [len_nat] at this ⊢
    rw [decide_eq_true (show (0 : Int) < ((f :: r).length : Int) by simp), decide_eq_true (show (0 : Int) ≤ 0 by omega)]
    simp only [cond_true, Bool.and_self, Int.toNat_zero, List.getElem?_cons_zero, Option.bind_some, List.nil_append]
    rw [decide_eq_true (show ([] : List Int).length + 1 < 35184372088832 by simp), cond_true, or_tag hf.1 hf.2 ht.1 ht.2, show addI .i64 0 1 = (([f] : List Int).length : Int) from add01 f, this]
    rfl
theorem spec_l04Word_l3_zero (tag : Int) (n : Nat) (hl : n < 1000) : (r p : List Int) → p.length + r.length = n → 0 < p.length → (∀ f ∈ r, 0 ≤ f ∧ f < 268435456) →
    spec_l04Word_l3 tag (p ++ r) (p.length : Int) = some (p ++ r.map (· * 16))
  | [], p, h, hp, hr => by
    rw [spec_l04Word_l3_eq]; simp [len_nat]
  | f :: r, p, h, hp, hr => by
    rw [spec_l04Word_l3_eq]
    simp only [List.length_cons] at h
    have e1 : addI .i64 (p.length : Int) 1 = ((p ++ [f * 16]).length : Int) := by
      unfold addI; rw [wI64 (by omega) (by omega)]; simp
    have e3 : (p ++ f :: r)[p.length]? = some f := by simp
    have hf := hr f (by simp)
    have ih := spec_l04Word_l3_zero tag n hl r (p ++ [f * 16]) (by simp; omega) (by simp) (fun x hx => hr x (by simp [hx]))
    have e5 : mulI .u32 f 16 = f * 16 := by unfold mulI; rw [wU32 (by omega) (by omega)]
    have e6 : (p ++ f :: r).set p.length (f * 16) = p ++ [f * 16] ++ r := by simp
    rw [len_nat, decide_eq_true (show (p.length : Int) < ((p ++ f :: r).length : Int) by simp; omega), decide_eq_true (show (0 : Int) ≤ (p.length : Int) by omega), Int.toNat_natCast, e3]
    simp only [cond_true, Bool.and_self, Option.bind_some]
    rw [decide_eq_false (show ¬ (p.length : Int) = 0 by omega), cond_false, e5, e6, e1, ih]
    simp
theorem spec_l04Word_l3_is (tag : Int) (ht : 0 ≤ tag ∧ tag < 16) (fs : List Int) (hl : fs.length < 1000) (hr : ∀ f ∈ fs, 0 ≤ f ∧ f < 268435456) : spec_l04Word_l3 tag fs 0 = some (wordCells tag fs) := by
  cases fs with
  | nil => rw [spec_l04Word_l3_eq]; simp [len_nat, wordCells]
  | cons f r =>
    have hf := hr f (by simp)
    have := spec_l04Word_l3_zero tag (f :: r).length hl r [f * 16 + tag] (by simp; omega) (by simp) (fun x hx => hr x (by simp [hx]))
    rw [spec_l04Word_l3_eq]
    have e5 : mulI .u32 f 16 = f * 16 := by unfold mulI; rw [wU32 (by omega) (by omega)]
    have e6 : addI .u32 (f * 16) tag = f * 16 + tag := by unfold addI; rw [wU32 (by omega) (by omega)]
    have hlt : decide ((0 : Int) < ((f :: r).length : Int)) = true := decide_eq_true (by simp)
    rw [len_nat, hlt]
    simp only [cond_true, Bool.and_self, Int.toNat_zero, List.getElem?_cons_zero, Option.bind_some, List.set_cons_zero, e5, e6, decide_true, Int.le_refl]
    have hlt' : decide ((0 : Int) < ((f * 16 :: r).length : Int)) = true := decide_eq_true (by simp)
    rw [hlt']
    simp only [Bool.and_self, cond_true]
    rw [show addI .i64 0 1 = (([f * 16 + tag] : List Int).length : Int) from add01 _]
    exact this

theorem impl_word (tag : Int) (ht : 0 ≤ tag ∧ tag < 16) (s : List UInt8) : impl_CellsOf_l5 tag [] (packN s) (len (packN s)) 0 = some (wordCells tag (packN s)) :=
  impl_CellsOf_l5_is tag ht (packN s) (by have := (packN_rng s).2; omega) (packN_rng s).1
theorem spec_l04Word_is (tag : Int) (ht : 0 ≤ tag ∧ tag < 16) (s : List UInt8) (hs : s.length < 4000000000000000000) : spec_l04Word tag s = some (wordCells tag (packN s)) := by
  rw [spec_l04Word_eq, spec_Pack_is s hs]
  simp only [Option.bind_some]
  rw [spec_l04Word_l3_is tag ht (packN s) (by have := (packN_rng s).2; omega) (packN_rng s).1]
  rfl

/-! ### items -/
abbrev It := Int × List UInt8 × Int × Bool × Int
/-- an item of the machine's numbers -/
structure ItOk (it : It) : Prop where
  k : -9223372036854775808 ≤ it.1 ∧ it.1 ≤ 9223372036854775807
  s : it.2.1.length < 1000000000
  n : -2147483648 ≤ it.2.2.1 ∧ it.2.2.1 ≤ 2147483647
  r : 0 ≤ it.2.2.2.2 ∧ it.2.2.2.2 ≤ 4294967295
def cellsOf (it : It) : List Int :=
  if 0 < tagOf it.1 then (if it.2.2.1 = 0 ∧ it.2.2.2.1 = false ∧ it.2.2.2.2 = 0 then wordCells (tagOf it.1) (packN it.2.1) else [])
  else if it.1 = 7 then (if it.2.1 = [] ∧ it.2.2.2.2 = 0 then numCells it.2.2.1 it.2.2.2.1 8 2 else [])
  else if it.1 = 8 then (if it.2.1 = [] ∧ it.2.2.2.2 = 0 then numCells it.2.2.1 it.2.2.2.1 6 5 else [])
  else if it.1 = 9 then (if it.2.2.2.1 = false ∧ it.2.2.2.2 = 0 ∧ (packN it.2.1).length = 1 then wordCells 12 (packN it.2.1) ++ [it.2.2.1 % 4294967296] else [])
  else if it.1 = 0 then (if it.2.1 = [] ∧ it.2.2.1 = 0 ∧ it.2.2.2.1 = false then [it.2.2.2.2] else [])
  else []
theorem impl_CellsOf_is (it : It) (h : it.2.1.length < 1000000000) : impl_CellsOf it.1 it.2.1 it.2.2.1 it.2.2.2.1 it.2.2.2.2 = some (cellsOf it) := by
  obtain ⟨k, s, n, x, r⟩ := it
  simp only at h ⊢
  have hp := impl_Pack_is s (by omega)
  obtain ⟨t1, t2, t3⟩ := tag_rng k
  rw [impl_CellsOf_eq, impl_nameTag_is]
  unfold cellsOf
  have hn1 := impl_numberCells_is n x 8 2 (by omega) (by omega)
  have hn2 := impl_numberCells_is n x 6 5 (by omega) (by omega)
  have hwd := impl_word (tagOf k) (by omega) s
  simp only [Option.bind_some]
  by_cases ht : 0 < tagOf k
  · have hk := tag_pos ht
    have k7 : ¬ k = 7 := by omega
    have k8 : ¬ k = 8 := by omega
    have k9 : ¬ k = 9 := by omega
    have k0 : ¬ k = 0 := by omega
    by_cases h1 : n = 0 ∧ x = false ∧ r = 0
    · obtain ⟨rfl, rfl, rfl⟩ := h1
      simp [ht, hp, hwd]
    · have h2 : ((decide (n = 0)) && (!x && (decide (r = 0)))) = false := by
        cases x <;> simp at h1 ⊢ <;> omega
      simp [ht, h1, h2, k7, k8, k9, k0]
  · simp only [ht, decide_false, cond_false, Option.bind_some, if_false]
    by_cases k7 : k = 7
    · subst k7
      by_cases h1 : s = [] <;> by_cases h2 : r = 0 <;> simp [h1, h2, hn1, hn2]
    · by_cases k8 : k = 8
      · subst k8
        by_cases h1 : s = [] <;> by_cases h2 : r = 0 <;> simp [h1, h2, hn1, hn2]
      · by_cases k9 : k = 9
        · subst k9
          by_cases h1 : x = false
          · subst h1
            by_cases h2 : r = 0
            · subst h2
              by_cases h3 : (packN s).length = 1
              · obtain ⟨f, hf⟩ := List.length_eq_one_iff.1 h3
                have hr := (packN_rng s).1 f (by rw [hf]; simp)
                simp [hp, hf, len_nat, or_tag hr.1 hr.2, wordCells, cvtI, wU32_mod]
              · have h3' : ¬ (((packN s).length : Int) = 1) := by omega
                simp [hp, h3, len_nat, h3']
            · simp [h2]
          · simp [h1]
        · by_cases k0 : k = 0
          · subst k0
            by_cases h1 : s = [] <;> by_cases h2 : n = 0 <;> cases x <;> simp [h1, h2]
          · simp [k7, k8, k9, k0]
theorem spec_CellsOf_is (it : It) (h : it.2.1.length < 1000000000) : spec_CellsOf it.1 it.2.1 it.2.2.1 it.2.2.2.1 it.2.2.2.2 = some (cellsOf it) := by
  obtain ⟨k, s, n, x, r⟩ := it
  simp only at h ⊢
  obtain ⟨t1, t2, t3⟩ := tag_rng k
  rw [spec_CellsOf_eq]
  unfold cellsOf
  have e1 : ((bif decide (n = 0) then (bif !x then some (decide (r = 0), k, s, n, x, r) else some (false, k, s, n, x, r)) else some (false, k, s, n, x, r) : Option (Bool × It))) = some (decide (n = 0 ∧ x = false ∧ r = 0), k, s, n, x, r) := by
    by_cases h1 : n = 0 <;> cases x <;> by_cases h2 : r = 0 <;> simp [h1, h2]
  rw [e1]
  simp only [Option.bind_some, spec_l04Num_is n x 8 2 (by omega) (by omega), spec_l04Num_is n x 6 5 (by omega) (by omega), spec_l04Tag_is, spec_l04Word_is 12 (by omega) s (by omega), spec_l04Word_is (tagOf k) (by omega) s (by omega)]
  by_cases ht : 0 < tagOf k
  · have hk := tag_pos ht
    have k7 : ¬ k = 7 := by omega
    have k8 : ¬ k = 8 := by omega
    have k9 : ¬ k = 9 := by omega
    have k0 : ¬ k = 0 := by omega
    by_cases h1 : n = 0 ∧ x = false ∧ r = 0
    · simp [ht, h1, k7, k8, k9, k0]
    · simp [ht, h1, k7, k8, k9, k0]
  · simp only [ht, if_false, decide_false, cond_false]
    by_cases k7 : k = 7
    · subst k7
      by_cases h1 : s = [] <;> by_cases h2 : r = 0 <;> simp [h1, h2]
    · by_cases k8 : k = 8
      · subst k8
        by_cases h1 : s = [] <;> by_cases h2 : r = 0 <;> simp [h1, h2]
      · by_cases k9 : k = 9
        · subst k9
          by_cases h3 : (packN s).length = 1
          · obtain ⟨f, hf⟩ := List.length_eq_one_iff.1 h3
            cases x <;> by_cases h2 : r = 0 <;> simp [hf, len_nat, wordCells, cvtI, wU32_mod, h2]
          · have h3' : ¬ (((wordCells 12 (packN s)).length : Int) = 1) := by
              have : (wordCells 12 (packN s)).length = (packN s).length := by cases packN s <;> simp [wordCells]
              omega
            simp [h3, len_nat, h3']
        · by_cases k0 : k = 0
          · subst k0
            by_cases h1 : s = [] <;> by_cases h2 : n = 0 <;> cases x <;> simp [h1, h2]
          · simp [k7, k8, k9, k0]
def itemOk (it : It) : Bool := decide (0 < (cellsOf it).length)
theorem impl_ItemOk_is (it : It) (h : it.2.1.length < 1000000000) : impl_ItemOk it.1 it.2.1 it.2.2.1 it.2.2.2.1 it.2.2.2.2 = some (itemOk it) := by
  rw [impl_ItemOk_eq, impl_CellsOf_is it h]
  simp [itemOk, len_nat]
theorem spec_ItemOk_is (it : It) (h : it.2.1.length < 1000000000) : spec_ItemOk it.1 it.2.1 it.2.2.1 it.2.2.2.1 it.2.2.2.2 = some (itemOk it) := by
  rw [spec_ItemOk_eq, spec_CellsOf_is it h]
  simp [itemOk, len_nat]
/-- how many cells an item has, and of what numbers -/
theorem cellsOf_rng (it : It) (h : ItOk it) : (cellsOf it).length ≤ 24 ∧ ∀ x ∈ cellsOf it, 0 ≤ x ∧ x ≤ 4294967295 := by
  have hw : ∀ tag : Int, 0 ≤ tag ∧ tag < 16 → (wordCells tag (packN it.2.1)).length = (packN it.2.1).length ∧ ∀ x ∈ wordCells tag (packN it.2.1), 0 ≤ x ∧ x ≤ 4294967295 := by
    intro tag ht
    have hr := (packN_rng it.2.1).1
    cases hp : packN it.2.1 with
    | nil => simp [wordCells]
    | cons f r =>
      rw [hp] at hr
      refine ⟨by simp [wordCells], fun x hx => ?_⟩
      simp only [wordCells, List.mem_cons, List.mem_map] at hx
      rcases hx with rfl | ⟨g, hg, rfl⟩
      · have := hr f (by simp); omega
      · have := hr g (by simp [hg]); omega
  have hn : ∀ s l : Int, 0 ≤ s ∧ s < 16 → 0 ≤ l ∧ l < 16 → (numCells it.2.2.1 it.2.2.2.1 s l).length ≤ 24 ∧ ∀ x ∈ numCells it.2.2.1 it.2.2.2.1 s l, 0 ≤ x ∧ x ≤ 4294967295 := by
    intro s l hs hl
    have := bit16_cases it.2.2.2.1
    unfold numCells
    split
    · refine ⟨by simp, fun x hx => ?_⟩
      simp only [List.mem_cons, List.not_mem_nil, or_false] at hx
      omega
    · refine ⟨by simp, fun x hx => ?_⟩
      simp only [List.mem_cons, List.not_mem_nil, or_false] at hx
      omega
  have hl := (packN_rng it.2.1).2
  obtain ⟨t1, t2, _⟩ := tag_rng it.1
  unfold cellsOf
  split
  · split
    · obtain ⟨h1, h2⟩ := hw (tagOf it.1) (by omega); exact ⟨by omega, h2⟩
    · simp
  · split
    · split
      · exact hn 8 2 (by omega) (by omega)
      · simp
    · split
      · split
        · exact hn 6 5 (by omega) (by omega)
        · simp
      · split
        · split
          · rename_i hc
            obtain ⟨h1, h2⟩ := hw 12 (by omega)
            refine ⟨by simp; omega, fun x hx => ?_⟩
            rcases List.mem_append.1 hx with hx | hx
            · exact h2 x hx
            · simp only [List.mem_cons, List.not_mem_nil, or_false] at hx; omega
          · simp
        · split
          · split
            · have := h.r
              refine ⟨by simp, fun x hx => ?_⟩
              simp only [List.mem_cons, List.not_mem_nil, or_false] at hx; omega
            · simp
          · simp
end Go.Ev

namespace Go.Ev
open Go Go.Proofs
set_option linter.unusedVariables false
set_option linter.unusedSimpArgs false

/-- a loop that compares -/
theorem eq_loop {α : Type} [DecidableEq α] (xs ys : List α) (n : Nat) (hx : xs.length = n) (hy : ys.length = n) (F : Int → Option (Unit ⊕ Bool))
    (h1 : ∀ (i : Nat) (u v : α), i < n → xs[i]? = some u → ys[i]? = some v → F (i : Int) = if u = v then F ((i + 1 : Nat) : Int) else some (.inr false)) (h2 : F (n : Int) = some (.inl ())) :
    (k i : Nat) → i + k = n → F (i : Int) = some (if xs.drop i = ys.drop i then .inl () else .inr false)
  | 0, i, h => by
    have : i = n := by omega
    subst this
    rw [h2, List.drop_of_length_le (by omega), List.drop_of_length_le (by omega)]; simp
  | k + 1, i, h => by
    have e1 : xs[i]? = some (xs[i]'(by omega)) := List.getElem?_eq_getElem (by omega)
    have e2 : ys[i]? = some (ys[i]'(by omega)) := List.getElem?_eq_getElem (by omega)
    rw [h1 i _ _ (by omega) e1 e2, eq_loop xs ys n hx hy F h1 h2 k (i + 1) (by omega), List.drop_eq_getElem_cons (show i < xs.length by omega), List.drop_eq_getElem_cons (show i < ys.length by omega)]
    generalize xs.drop (i + 1) = A
    generalize ys.drop (i + 1) = B
    generalize xs[i]'(by omega) = p
    generalize ys[i]'(by omega) = q
    by_cases hu : p = q
    · simp [hu]
    · simp [hu]
theorem add_one {i : Nat} (h : i < 4000000000000000000) : addI .i64 (i : Int) 1 = ((i + 1 : Nat) : Int) := by
  unfold addI; rw [wI64 (by omega) (by omega)]; simp

theorem slices_Equal_uint32_is (xs ys : List Int) (h : xs.length < 4000000000000000000) : slices_Equal_uint32 xs ys = some (decide (xs = ys)) := by
  rw [slices_Equal_uint32_eq]
  by_cases hl : xs.length = ys.length
  · have := eq_loop xs ys xs.length rfl hl.symm (slices_Equal_uint32_l4 xs ys (len xs)) (fun i u v hi h1 h2 => by
      rw [slices_Equal_uint32_l4_eq, nth_nat, nth_nat, h1, h2, len_nat, decide_eq_true (show (i : Int) < (xs.length : Int) by omega), add_one (by omega)]
      by_cases he : u = v <;> simp [he]) (by rw [slices_Equal_uint32_l4_eq]; simp [len_nat]) xs.length 0 (by omega)
    have hl' : (xs.length : Int) = (ys.length : Int) := by omega
    simp only [len_nat, hl', decide_true, Bool.not_true, cond_false]
    rw [← hl', ← len_nat, show (0 : Int) = ((0 : Nat) : Int) from rfl, this]
    by_cases he : xs = ys <;> simp [he]
  · have hl' : ¬ ((xs.length : Int) = (ys.length : Int)) := by omega
    have he : ¬ xs = ys := fun e => hl (by rw [e])
    simp [len_nat, hl', he]
theorem spec_l03Same_is (xs ys : List Int) (h : xs.length < 4000000000000000000) : spec_l03Same xs ys = some (decide (xs = ys)) := by
  rw [spec_l03Same_eq]
  by_cases hl : xs.length = ys.length
  · have := eq_loop xs ys xs.length rfl hl.symm (spec_l03Same_l4 xs ys) (fun i u v hi h1 h2 => by
      rw [spec_l03Same_l4_eq, nth_nat, nth_nat, h1, h2, len_nat, decide_eq_true (show (i : Int) < (xs.length : Int) by omega), add_one (by omega)]
      by_cases he : u = v <;> simp [he]) (by rw [spec_l03Same_l4_eq]; simp [len_nat]) xs.length 0 (by omega)
    have hl' : (xs.length : Int) = (ys.length : Int) := by omega
    simp only [len_nat, hl', decide_true, Bool.not_true, cond_false]
    rw [show (0 : Int) = ((0 : Nat) : Int) from rfl, this]
    by_cases he : xs = ys <;> simp [he]
  · have hl' : ¬ ((xs.length : Int) = (ys.length : Int)) := by omega
    have he : ¬ xs = ys := fun e => hl (by rw [e])
    simp [len_nat, hl', he]

/-! ### the letter at the beginning of bits -/
def decFrom (f n : Nat) : Nat → Nat → Option (Nat × Nat)
  | 0, _ => none
  | m + 1, k => if width k ≤ n ∧ f % 2 ^ n / 2 ^ (n - width k) = bitsOf k then some (k, width k) else decFrom f n m (k + 1)
theorem width_pos {k : Nat} (h : k < 48) : 4 ≤ width k := by
  rcases width_cases k with h | h | h | h <;> omega
theorem shr_nat {k : IntKind} (f m : Nat) (h : m ≤ 32) (hk : 32 ≤ k.bits) : shrI k (f : Int) (m : Int) = ((f / 2 ^ m : Nat) : Int) := by
  unfold shrI
  rw [Int.toNat_natCast, Nat.min_eq_left (by omega), Int.fdiv_eq_ediv_of_nonneg _ (by exact Int.pow_nonneg (by decide))]
  simp
theorem impl_Decode_l4_is (f n : Nat) (hf : f < 268435456) (hn : n ≤ 28) : (m k : Nat) → m + k = 48 → impl_Decode_l4 f n k = some (match decFrom f n m k with | some d => .inr ((d.1 : Int), (d.2 : Int)) | none => .inl ())
  | 0, k, h => by
    obtain rfl : k = 48 := by omega
    rw [impl_Decode_l4_eq]; rfl
  | m + 1, k, h => by
    have ih := impl_Decode_l4_is f n hf hn m (k + 1) (by omega)
    rw [impl_Decode_l4_eq, decFrom, impl_WidthOf_is, impl_BitsOf_is, add_one (by omega), ih, decide_eq_true (show (k : Int) < 48 by omega)]
    simp only [cond_true, Option.bind_some]
    have hw := width_le (k : Int)
    by_cases hwn : width k ≤ n
    · have e1 : subI .i64 (n : Int) (width k : Int) = ((n - width k : Nat) : Int) := by unfold subI; rw [wI64 (by omega) (by omega)]; omega
      have e2 : subI .u32 (shlI .u32 1 (width k : Int)) 1 = ((2 ^ width k - 1 : Nat) : Int) := by
        have hp : (2 : Nat) ^ width k ≤ 2 ^ 7 := Nat.pow_le_pow_right (by omega) hw
        have hp0 : 0 < (2 : Nat) ^ width k := Nat.two_pow_pos _
        have es : shlI .u32 1 (width k : Int) = ((2 ^ width k : Nat) : Int) := by
          unfold shlI
          rw [Int.toNat_natCast, Nat.min_eq_left (by simp only [IntKind.bits]; omega), Int.one_mul, show (2 : Int) ^ width k = ((2 ^ width k : Nat) : Int) by simp, wU32 (by omega) (by omega)]
        rw [es]; unfold subI; rw [wU32 (by omega) (by omega)]; omega
      have hp : (2 : Nat) ^ width k ≤ 2 ^ 7 := Nat.pow_le_pow_right (by omega) hw
      have hdv : f / 2 ^ (n - width k) ≤ f := Nat.div_le_self _ _
      have e3 : f / 2 ^ (n - width k) % 2 ^ width k = f % 2 ^ n / 2 ^ (n - width k) := by
        rw [show (2 : Nat) ^ n = 2 ^ (n - width k) * 2 ^ width k by rw [← Nat.pow_add]; congr 1; omega, Nat.mod_mul_right_div_self]
      rw [decide_eq_true (show (width k : Int) ≤ (n : Int) by omega), e1, e2, shr_nat _ _ (by omega) (by decide), andI_u32 (by omega) (by omega), and_low, e3,
        decide_eq_true (show (0 : Int) ≤ ((n - width k : Nat) : Int) by omega), decide_eq_true (show (0 : Int) ≤ (width k : Int) by omega)]
      simp only [cond_true, hwn, true_and]
      by_cases hb : f % 2 ^ n / 2 ^ (n - width k) = bitsOf k
      · simp [hb]
      · have hb' : ¬ (((f % 2 ^ n / 2 ^ (n - width k) : Nat) : Int) = (bitsOf k : Int)) := by omega
        rw [decide_eq_false hb', if_neg hb]; rfl
    · rw [decide_eq_false (show ¬ (width k : Int) ≤ (n : Int) by omega), if_neg (by omega)]; rfl
theorem spec_Decode_l4_is (f n : Nat) (hf : f < 268435456) (hn : n ≤ 28) : (m k : Nat) → m + k = 48 → spec_Decode_l4 f n k = some (match decFrom f n m k with | some d => .inr ((d.1 : Int), (d.2 : Int)) | none => .inl ())
  | 0, k, h => by
    obtain rfl : k = 48 := by omega
    rw [spec_Decode_l4_eq]; rfl
  | m + 1, k, h => by
    have ih := spec_Decode_l4_is f n hf hn m (k + 1) (by omega)
    rw [spec_Decode_l4_eq, decFrom, spec_WidthOf_is, spec_BitsOf_is, add_one (by omega), ih, decide_eq_true (show (k : Int) < 48 by omega)]
    simp only [cond_true, Option.bind_some]
    have hw := width_le (k : Int)
    by_cases hwn : width k ≤ n
    · have e0 : cvtI .u64 (n : Int) = (n : Int) := by unfold cvtI; rw [wU64 (by omega) (by omega)]
      have e1 : subI .i64 (n : Int) (width k : Int) = ((n - width k : Nat) : Int) := by unfold subI; rw [wI64 (by omega) (by omega)]; omega
      have e1' : cvtI .u64 ((n - width k : Nat) : Int) = ((n - width k : Nat) : Int) := by unfold cvtI; rw [wU64 (by omega) (by omega)]
      have hp : (2 : Nat) ^ n ≤ 2 ^ 28 := Nat.pow_le_pow_right (by omega) hn
      have hp0 : 0 < (2 : Nat) ^ n := Nat.two_pow_pos _
      have e2 : subI .i64 (shlI .i64 1 (n : Int)) 1 = ((2 ^ n - 1 : Nat) : Int) := by
        have es : shlI .i64 1 (n : Int) = ((2 ^ n : Nat) : Int) := by
          unfold shlI
          rw [Int.toNat_natCast, Nat.min_eq_left (by simp only [IntKind.bits]; omega), Int.one_mul, show (2 : Int) ^ n = ((2 ^ n : Nat) : Int) by simp, wI64 (by omega) (by omega)]
        rw [es]; unfold subI; rw [wI64 (by omega) (by omega)]; omega
      have e4 : cvtI .i64 (f : Int) = (f : Int) := by unfold cvtI; rw [wI64 (by omega) (by omega)]
      have hb := bits_lt (k : Int)
      have hp2 : (2 : Nat) ^ width k ≤ 2 ^ 7 := Nat.pow_le_pow_right (by omega) hw
      have e5 : cvtI .i64 (bitsOf k : Int) = (bitsOf k : Int) := by unfold cvtI; rw [wI64 (by omega) (by omega)]
      rw [decide_eq_false (show ¬ (n : Int) < (width k : Int) by omega), e0, e1, e1', e2, e4, e5, andI_i64 (by omega) (by omega), and_low, shr_nat _ _ (by omega) (by decide),
        decide_eq_true (show (0 : Int) ≤ (n : Int) by omega), decide_eq_true (show (0 : Int) ≤ ((n - width k : Nat) : Int) by omega)]
      simp only [cond_true, cond_false, hwn, true_and]
      by_cases hb : f % 2 ^ n / 2 ^ (n - width k) = bitsOf k
      · simp [hb]
      · have hb' : ¬ (((f % 2 ^ n / 2 ^ (n - width k) : Nat) : Int) = (bitsOf k : Int)) := by omega
        rw [decide_eq_false hb', if_neg hb]; rfl
    · rw [decide_eq_true (show (n : Int) < (width k : Int) by omega), if_neg (by omega)]; rfl
def dec (f n : Nat) : Int × Int := match decFrom f n 48 0 with | some d => ((d.1 : Int), (d.2 : Int)) | none => (-1, 0)
theorem impl_Decode_is (f n : Nat) (hf : f < 268435456) (hn : 1 ≤ n) (hn2 : n ≤ 28) : impl_Decode f n = some (dec f n) := by
  have := impl_Decode_l4_is f n hf hn2 48 0 rfl
  rw [impl_Decode_eq, impl_within_is, decide_eq_true (show (1 : Int) ≤ (n : Int) ∧ (n : Int) ≤ 32 by omega)]
  simp only [Option.bind_some, Bool.not_true, cond_false]
  rw [show (0 : Int) = ((0 : Nat) : Int) from rfl, this]
  unfold dec
  cases decFrom f n 48 0 <;> rfl
theorem spec_Decode_is (f n : Nat) (hf : f < 268435456) (hn : 1 ≤ n) (hn2 : n ≤ 28) : spec_Decode f n = some (dec f n) := by
  have := spec_Decode_l4_is f n hf hn2 48 0 rfl
  rw [spec_Decode_eq, spec_l01In_is, decide_eq_true (show (1 : Int) ≤ (n : Int) ∧ (n : Int) ≤ 32 by omega)]
  simp only [Option.bind_some, Bool.not_true, cond_false]
  rw [show (0 : Int) = ((0 : Nat) : Int) from rfl, this]
  unfold dec
  cases decFrom f n 48 0 <;> rfl
theorem decFrom_rng (f n : Nat) : (m k : Nat) → m + k = 48 → ∀ d, decFrom f n m k = some d → k ≤ d.1 ∧ d.1 < 48 ∧ d.2 = width d.1 ∧ d.2 ≤ n
  | 0, k, h, d, hd => by cases hd
  | m + 1, k, h, d, hd => by
    rw [decFrom] at hd
    split at hd
    · rename_i hc; cases hd; exact ⟨Nat.le_refl _, by simp only; omega, rfl, hc.1⟩
    · have := decFrom_rng f n m (k + 1) (by omega) d hd
      exact ⟨by omega, this.2⟩
theorem dec_rng (f n : Nat) (h : ¬ (dec f n).1 < 1) : ∃ k w : Nat, dec f n = ((k : Int), (w : Int)) ∧ 1 ≤ k ∧ k < 48 ∧ 4 ≤ w ∧ w ≤ n := by
  unfold dec at h ⊢
  cases hd : decFrom f n 48 0 with
  | none => rw [hd] at h; simp at h
  | some d =>
    obtain ⟨h1, h2, h3, h4⟩ := decFrom_rng f n 48 0 rfl d hd
    rw [hd] at h
    simp only at h
    have := width_pos h2
    exact ⟨d.1, d.2, rfl, by omega, h2, by omega, h4⟩

/-! ### letters in a field -/
def letterAt (k : Nat) : UInt8 := lets.getD k 0
theorem lets_at {k : Nat} (h : k < 48) : lets[k]? = some (letterAt k) := by
  unfold letterAt
  rw [List.getD_eq_getElem?_getD, List.getElem?_eq_getElem (show k < lets.length from h)]; rfl
theorem impl_LetterAt_is {k : Nat} (h : k < 48) : impl_LetterAt k = some (byteI (letterAt k)) := by
  rw [impl_LetterAt_eq, impl_within_is, impl_letters_eq, decide_eq_true (show (0 : Int) ≤ (k : Int) ∧ (k : Int) ≤ 47 by omega)]
  simp only [Option.bind_some, Bool.not_true, cond_false]
  show (nth lets (k : Int)).bind _ = _
  rw [nth_nat, lets_at h]; rfl
theorem spec_LetterAt_is {k : Nat} (h : k < 48) : spec_LetterAt k = some (byteI (letterAt k)) := by
  rw [spec_LetterAt_eq, spec_l01In_is, spec_l02All_eq, decide_eq_true (show (0 : Int) ≤ (k : Int) ∧ (k : Int) ≤ 47 by omega)]
  simp only [Option.bind_some, Bool.not_true, cond_false]
  show (nth lets (k : Int)).bind _ = _
  rw [nth_nat, lets_at h]; rfl
theorem strI_bytesI (s : List UInt8) : strI (bytesI s) = s := by
  unfold strI bytesI
  rw [List.map_map]
  conv => rhs; rw [← List.map_id s]
  apply List.map_congr_left
  intro b _
  exact byte_back b
def upGo (f : Nat) : Nat → Nat → List UInt8 → List UInt8
  | 0, _, acc => acc
  | m + 1, left, acc => if f % 2 ^ left = 0 then acc else if (dec f left).1 < 1 then acc else upGo f m (left - (dec f left).2.toNat) (acc ++ [letterAt (dec f left).1.toNat])
def unpackOne (f : Int) : List UInt8 := if 268435456 ≤ f then [] else upGo f.toNat 28 28 []
theorem upGo_len (f : Nat) : (m left : Nat) → (acc : List UInt8) → (upGo f m left acc).length ≤ acc.length + m
  | 0, left, acc => by simp [upGo]
  | m + 1, left, acc => by
    rw [upGo]
    split
    · omega
    · split
      · omega
      · have := upGo_len f m (left - (dec f left).2.toNat) (acc ++ [letterAt (dec f left).1.toNat])
        simp at this; omega
theorem unpackOne_len (f : Int) : (unpackOne f).length ≤ 28 := by
  unfold unpackOne
  split
  · simp
  · have := upGo_len f.toNat 28 28 []
    simpa using this
theorem mask_u32 {f left : Nat} (hf : f < 268435456) (hl : left ≤ 28) : andI .u32 (f : Int) (subI .u32 (shlI .u32 1 (left : Int)) 1) = ((f % 2 ^ left : Nat) : Int) := by
  have hp : (2 : Nat) ^ left ≤ 2 ^ 28 := Nat.pow_le_pow_right (by omega) hl
  have hp0 : 0 < (2 : Nat) ^ left := Nat.two_pow_pos _
  have es : shlI .u32 1 (left : Int) = ((2 ^ left : Nat) : Int) := by
    unfold shlI
    rw [Int.toNat_natCast, Nat.min_eq_left (by simp only [IntKind.bits]; omega), Int.one_mul, show (2 : Int) ^ left = ((2 ^ left : Nat) : Int) by simp, wU32 (by omega) (by omega)]
  have e2 : subI .u32 ((2 ^ left : Nat) : Int) 1 = ((2 ^ left - 1 : Nat) : Int) := by unfold subI; rw [wU32 (by omega) (by omega)]; omega
  rw [es, e2, andI_u32 (by omega) (by omega), and_low]
theorem mask_i64 {f left : Nat} (hf : f < 268435456) (hl : left ≤ 28) : andI .i64 (f : Int) (subI .i64 (shlI .i64 1 (left : Int)) 1) = ((f % 2 ^ left : Nat) : Int) := by
  have hp : (2 : Nat) ^ left ≤ 2 ^ 28 := Nat.pow_le_pow_right (by omega) hl
  have hp0 : 0 < (2 : Nat) ^ left := Nat.two_pow_pos _
  have es : shlI .i64 1 (left : Int) = ((2 ^ left : Nat) : Int) := by
    unfold shlI
    rw [Int.toNat_natCast, Nat.min_eq_left (by simp only [IntKind.bits]; omega), Int.one_mul, show (2 : Int) ^ left = ((2 ^ left : Nat) : Int) by simp, wI64 (by omega) (by omega)]
  have e2 : subI .i64 ((2 ^ left : Nat) : Int) 1 = ((2 ^ left - 1 : Nat) : Int) := by unfold subI; rw [wI64 (by omega) (by omega)]; omega
  rw [es, e2, andI_i64 (by omega) (by omega), and_low]
theorem impl_UnpackOne_l4_is (f : Nat) (hf : f < 268435456) : (m left : Nat) → (acc : List UInt8) → left ≤ m → left ≤ 28 → acc.length + m < 1000 → impl_UnpackOne_l4 f (bytesI acc) left = some (bytesI (upGo f m left acc))
  | 0, left, acc, h, hl, ha => by
    obtain rfl : left = 0 := by omega
    rw [impl_UnpackOne_l4_eq, mask_u32 hf (by omega)]
    simp [upGo]
  | m + 1, left, acc, h, hl, ha => by
    rw [impl_UnpackOne_l4_eq, mask_u32 hf hl, upGo, decide_eq_true (show (0 : Int) ≤ (left : Int) by omega), cond_true]
    by_cases h0 : f % 2 ^ left = 0
    · simp [h0]
    · have h0' : ¬ (((f % 2 ^ left : Nat) : Int) = 0) := by omega
      have hl1 : 1 ≤ left := by
        rcases Nat.eq_zero_or_pos left with rfl | h
        · rw [Nat.pow_zero, Nat.mod_one] at h0; exact absurd rfl h0
        · exact h
      rw [decide_eq_false h0', if_neg h0, impl_Decode_is f left hf hl1 hl]
      simp only [Bool.not_false, cond_true, Option.bind_some]
      by_cases h1 : (dec f left).1 < 1
      · simp [h1]
      · obtain ⟨k, w, hd, hk1, hk2, hw1, hw2⟩ := dec_rng f left h1
        rw [decide_eq_false h1, if_neg h1, hd]
        simp only [cond_false, impl_LetterAt_is hk2, Option.bind_some, Int.toNat_natCast]
        have e1 : subI .i64 (left : Int) (w : Int) = ((left - w : Nat) : Int) := by unfold subI; rw [wI64 (by omega) (by omega)]; omega
        have e2 : (bytesI acc).length + 1 < 140737488355328 := by unfold bytesI; simp; omega
        have e3 : bytesI acc ++ [byteI (letterAt k)] = bytesI (acc ++ [letterAt k]) := by unfold bytesI; simp
        rw [decide_eq_true e2, e1, e3, cond_true]
        exact impl_UnpackOne_l4_is f hf m (left - w) (acc ++ [letterAt k]) (by omega) (by omega) (by simp; omega)
theorem spec_UnpackOne_l5_is (f : Nat) (hf : f < 268435456) : (m left : Nat) → (acc : List UInt8) → left ≤ m → left ≤ 28 → acc.length + m < 1000 → spec_UnpackOne_l5 f (bytesI acc) left = some (bytesI (upGo f m left acc))
  | 0, left, acc, h, hl, ha => by
    obtain rfl : left = 0 := by omega
    rw [spec_UnpackOne_l5_eq]
    simp [upGo]
  | m + 1, left, acc, h, hl, ha => by
    have e0 : cvtI .u64 (left : Int) = (left : Int) := by unfold cvtI; rw [wU64 (by omega) (by omega)]
    have e4 : cvtI .i64 (f : Int) = (f : Int) := by unfold cvtI; rw [wI64 (by omega) (by omega)]
    rw [spec_UnpackOne_l5_eq, e0, e4, mask_i64 hf hl, upGo, decide_eq_true (show (0 : Int) ≤ (left : Int) by omega)]
    by_cases h0 : f % 2 ^ left = 0
    · by_cases hl0 : (0 : Int) < left <;> simp [h0, hl0]
    · have h0' : ¬ (((f % 2 ^ left : Nat) : Int) = 0) := by omega
      have hl1 : 1 ≤ left := by
        rcases Nat.eq_zero_or_pos left with rfl | h
        · rw [Nat.pow_zero, Nat.mod_one] at h0; exact absurd rfl h0
        · exact h
      rw [decide_eq_true (show (0 : Int) < (left : Int) by omega), decide_eq_false h0', if_neg h0, spec_Decode_is f left hf hl1 hl]
      simp only [Bool.not_false, cond_true, Option.bind_some]
      by_cases h1 : (dec f left).1 < 1
      · simp [h1]
      · obtain ⟨k, w, hd, hk1, hk2, hw1, hw2⟩ := dec_rng f left h1
        rw [decide_eq_false h1, if_neg h1, hd]
        simp only [cond_false, spec_LetterAt_is hk2, Option.bind_some, Int.toNat_natCast]
        have e1 : subI .i64 (left : Int) (w : Int) = ((left - w : Nat) : Int) := by unfold subI; rw [wI64 (by omega) (by omega)]; omega
        have e2 : (bytesI acc).length + 1 < 140737488355328 := by unfold bytesI; simp; omega
        have e3 : bytesI acc ++ [byteI (letterAt k)] = bytesI (acc ++ [letterAt k]) := by unfold bytesI; simp
        rw [decide_eq_true e2, e1, e3, cond_true]
        exact spec_UnpackOne_l5_is f hf m (left - w) (acc ++ [letterAt k]) (by omega) (by omega) (by simp; omega)
theorem impl_UnpackOne_is (f : Int) (h0 : 0 ≤ f) (h1 : f ≤ 4294967295) : impl_UnpackOne f = some (unpackOne f) := by
  rw [impl_UnpackOne_eq]; unfold unpackOne
  by_cases h : 268435456 ≤ f
  · simp [h]
  · obtain ⟨n, rfl⟩ := Int.eq_ofNat_of_zero_le h0
    have := impl_UnpackOne_l4_is n (by omega) 28 28 [] (by omega) (by omega) (by simp)
    rw [decide_eq_false h, if_neg h, cond_false, Int.toNat_natCast]
    show (impl_UnpackOne_l4 (n : Int) (bytesI []) ((28 : Nat) : Int)).bind _ = _
    rw [this]; simp [strI_bytesI]
theorem spec_UnpackOne_is (f : Int) (h0 : 0 ≤ f) (h1 : f ≤ 4294967295) : spec_UnpackOne f = some (unpackOne f) := by
  have e4 : cvtI .i64 f = f := by unfold cvtI; rw [wI64 (by omega) (by omega)]
  rw [spec_UnpackOne_eq, e4]; unfold unpackOne
  by_cases h : 268435456 ≤ f
  · simp [h]
  · obtain ⟨n, rfl⟩ := Int.eq_ofNat_of_zero_le h0
    have := spec_UnpackOne_l5_is n (by omega) 28 28 [] (by omega) (by omega) (by simp)
    rw [decide_eq_false h, if_neg h, cond_false, Int.toNat_natCast]
    show (spec_UnpackOne_l5 (n : Int) (bytesI []) ((28 : Nat) : Int)).bind _ = _
    rw [this]; simp [strI_bytesI]
end Go.Ev

namespace Go.Ev
open Go Go.Proofs
set_option linter.unusedVariables false
set_option linter.unusedSimpArgs false

def U32s (xs : List Int) : Prop := ∀ x ∈ xs, 0 ≤ x ∧ x ≤ 4294967295

def fieldOk (f : Int) : Bool := decide (packN (unpackOne f) = [f])
theorem impl_FieldOk_is (f : Int) (h0 : 0 ≤ f) (h1 : f ≤ 4294967295) : impl_FieldOk f = some (fieldOk f) := by
  have := unpackOne_len f
  have h2 := (packN_rng (unpackOne f)).2
  rw [impl_FieldOk_eq, impl_UnpackOne_is f h0 h1, Option.bind_some, impl_Pack_is _ (by omega), Option.bind_some, slices_Equal_uint32_is _ _ (by omega)]
  rfl
theorem spec_FieldOk_is (f : Int) (h0 : 0 ≤ f) (h1 : f ≤ 4294967295) : spec_FieldOk f = some (fieldOk f) := by
  have := unpackOne_len f
  rw [spec_FieldOk_eq, spec_UnpackOne_is f h0 h1, Option.bind_some, spec_Pack_is _ (by omega), Option.bind_some]
  unfold fieldOk
  cases hp : packN (unpackOne f) with
  | nil => simp [len_nat]
  | cons a r =>
    cases r with
    | nil => simp [len_nat]
    | cons b r =>
      have : ¬ (((a :: b :: r).length : Int) = 1) := by simp only [List.length_cons]; omega
      rw [len_nat, decide_eq_false this]
      simp

def unpackN (fs : List Int) : List UInt8 × Bool :=
  if 24 < fs.length then ([], false) else if nameOk (fs.flatMap unpackOne) && decide (packN (fs.flatMap unpackOne) = fs) then (fs.flatMap unpackOne, true) else ([], false)
theorem impl_Unpack_l5_is (xs fs : List Int) (hf : U32s fs) (hl : fs.length < 1000) : (r p : List Int) → (acc : List UInt8) → fs = p ++ r → acc.length + 28 * r.length < 1000000 → impl_Unpack_l5 xs acc fs (len fs) (p.length : Int) = some (xs, acc ++ r.flatMap unpackOne)
  | [], p, acc, h, ha => by
    rw [impl_Unpack_l5_eq]; subst h; simp [len_nat]
  | f :: r, p, acc, h, ha => by
    have hfl : p.length + r.length + 1 = fs.length := by rw [h]; simp; omega
    have hr := hf f (by rw [h]; simp)
    have hu := unpackOne_len f
    simp only [List.length_cons] at ha
    have ih := impl_Unpack_l5_is xs fs hf hl r (p ++ [f]) (acc ++ unpackOne f) (by simp [h]) (by simp; omega)
    rw [impl_Unpack_l5_eq, len_nat, nth_nat, show fs[p.length]? = some f by rw [h]; simp, decide_eq_true (show (p.length : Int) < (fs.length : Int) by omega)]
    simp only [cond_true, Option.bind_some, impl_UnpackOne_is f hr.1 hr.2]
    rw [len_nat, len_nat, decide_eq_true (show (acc.length : Int) + ((unpackOne f).length : Int) ≤ 9223372036854775807 by omega), cond_true, add_one (by omega)]
    rw [len_nat] at ih
    rw [show p.length + 1 = (p ++ [f]).length by simp, ih]
    simp
theorem flatMap_len (fs : List Int) : (fs.flatMap unpackOne).length ≤ 28 * fs.length := by
  induction fs with
  | nil => simp
  | cons f r ih =>
    have := unpackOne_len f
    simp only [List.flatMap_cons, List.length_append, List.length_cons]; omega
theorem impl_Unpack_is (fs : List Int) (hf : U32s fs) : impl_Unpack fs = some (unpackN fs) := by
  rw [impl_Unpack_eq]; unfold unpackN
  by_cases h : 24 < fs.length
  · have h' : (24 : Int) < len fs := by rw [len_nat]; omega
    simp [h, h']
  · have h' : ¬ (24 : Int) < len fs := by rw [len_nat]; omega
    have := impl_Unpack_l5_is fs fs hf (by omega) fs [] [] rfl (by simp; omega)
    have hl := flatMap_len fs
    rw [decide_eq_false h', if_neg h, cond_false]
    rw [show (0 : Int) = (([] : List Int).length : Int) from rfl, this]
    simp only [Option.bind_some, List.nil_append]
    rw [impl_NameOk_is _ (by omega), Option.bind_some]
    by_cases hn : nameOk (fs.flatMap unpackOne) = true
    · rw [hn, Bool.not_true, cond_false, impl_Pack_is _ (by omega), Option.bind_some, slices_Equal_uint32_is _ _ (by have := (packN_rng (fs.flatMap unpackOne)).2; omega)]
      by_cases hp : packN (fs.flatMap unpackOne) = fs <;> simp [hp]
    · simp [hn]
theorem spec_Unpack_l5_is (fs : List Int) (hf : U32s fs) (hl : fs.length < 1000) : (r p : List Int) → (acc : List UInt8) → fs = p ++ r → acc.length + 28 * r.length < 1000000 → spec_Unpack_l5 fs acc (p.length : Int) = some (fs, acc ++ r.flatMap unpackOne)
  | [], p, acc, h, ha => by
    rw [spec_Unpack_l5_eq]; subst h; simp [len_nat]
  | f :: r, p, acc, h, ha => by
    have hfl : p.length + r.length + 1 = fs.length := by rw [h]; simp; omega
    have hr := hf f (by rw [h]; simp)
    have hu := unpackOne_len f
    simp only [List.length_cons] at ha
    have ih := spec_Unpack_l5_is fs hf hl r (p ++ [f]) (acc ++ unpackOne f) (by simp [h]) (by simp; omega)
    rw [spec_Unpack_l5_eq, len_nat, nth_nat, show fs[p.length]? = some f by rw [h]; simp, decide_eq_true (show (p.length : Int) < (fs.length : Int) by omega)]
    simp only [cond_true, Option.bind_some, spec_UnpackOne_is f hr.1 hr.2]
    rw [len_nat, len_nat, decide_eq_true (show (acc.length : Int) + ((unpackOne f).length : Int) ≤ 9223372036854775807 by omega), cond_true, add_one (by omega)]
    rw [show p.length + 1 = (p ++ [f]).length by simp, ih]
    simp
theorem spec_Unpack_is (fs : List Int) (hf : U32s fs) : spec_Unpack fs = some (unpackN fs) := by
  rw [spec_Unpack_eq]; unfold unpackN
  by_cases h : 24 < fs.length
  · have h' : (24 : Int) < len fs := by rw [len_nat]; omega
    simp [h, h']
  · have h' : ¬ (24 : Int) < len fs := by rw [len_nat]; omega
    have := spec_Unpack_l5_is fs hf (by omega) fs [] [] rfl (by simp; omega)
    have hl := flatMap_len fs
    rw [decide_eq_false h', if_neg h, cond_false]
    rw [show (0 : Int) = (([] : List Int).length : Int) from rfl, this]
    simp only [Option.bind_some, List.nil_append]
    rw [spec_NameOk_is _ (by omega), Option.bind_some]
    by_cases hn : nameOk (fs.flatMap unpackOne) = true
    · rw [hn, Bool.not_true, cond_false, spec_Pack_is _ (by omega), Option.bind_some, spec_l03Same_is _ _ (by have := (packN_rng (fs.flatMap unpackOne)).2; omega)]
      by_cases hp : packN (fs.flatMap unpackOne) = fs <;> simp [hp]
    · simp [hn]

/-! ### kinds -/
def kindOf (t : Int) : Int := if t = 1 then 1 else if t = 3 then 2 else if t = 4 then 3 else if t = 9 then 4 else if t = 10 then 5 else if t = 11 then 6 else -1
theorem kindOf_cases (t : Int) : (kindOf t = -1 ∧ t ≠ 1 ∧ t ≠ 3 ∧ t ≠ 4 ∧ t ≠ 9 ∧ t ≠ 10 ∧ t ≠ 11) ∨ (1 ≤ kindOf t ∧ kindOf t ≤ 6 ∧ tagOf (kindOf t) = t ∧ 0 < t ∧ (t = 1 ∨ t = 3 ∨ t = 4 ∨ t = 9 ∨ t = 10 ∨ t = 11)) := by
  unfold kindOf
  by_cases h1 : t = 1
  · subst h1; right; decide
  by_cases h2 : t = 3
  · subst h2; right; decide
  by_cases h3 : t = 4
  · subst h3; right; decide
  by_cases h4 : t = 9
  · subst h4; right; decide
  by_cases h5 : t = 10
  · subst h5; right; decide
  by_cases h6 : t = 11
  · subst h6; right; decide
  left; simp [h1, h2, h3, h4, h5, h6]
theorem add_lit (a : Nat) (h : a < 1000000) : addI .i64 (a : Int) 1 = ((a + 1 : Nat) : Int) := add_one (by omega)
theorem impl_nameKind_is (t : Int) : impl_nameKind t = some (if 0 ≤ kindOf t then kindOf t else 0) := by
  have a1 : addI .i64 1 1 = 2 := by decide
  have a2 : addI .i64 2 1 = 3 := by decide
  have a3 : addI .i64 3 1 = 4 := by decide
  have a4 : addI .i64 4 1 = 5 := by decide
  have a5 : addI .i64 5 1 = 6 := by decide
  have a6 : addI .i64 6 1 = 7 := by decide
  have t1 : tagOf 1 = 1 := rfl
  have t2 : tagOf 2 = 3 := rfl
  have t3 : tagOf 3 = 4 := rfl
  have t4 : tagOf 4 = 9 := rfl
  have t5 : tagOf 5 = 10 := rfl
  have t6 : tagOf 6 = 11 := rfl
  rw [impl_nameKind_eq, impl_nameKind_l2_eq, impl_nameTag_is, a1, impl_nameKind_l2_eq, impl_nameTag_is, a2, impl_nameKind_l2_eq, impl_nameTag_is, a3, impl_nameKind_l2_eq, impl_nameTag_is, a4, impl_nameKind_l2_eq, impl_nameTag_is, a5, impl_nameKind_l2_eq, impl_nameTag_is, a6, impl_nameKind_l2_eq, t1, t2, t3, t4, t5, t6]
  unfold kindOf
  by_cases h1 : t = 1
  · subst h1; simp
  by_cases h2 : t = 3
  · subst h2; simp
  by_cases h3 : t = 4
  · subst h3; simp
  by_cases h4 : t = 9
  · subst h4; simp
  by_cases h5 : t = 10
  · subst h5; simp
  by_cases h6 : t = 11
  · subst h6; simp
  simp [h1, h2, h3, h4, h5, h6, Ne.symm h1, Ne.symm h2, Ne.symm h3, Ne.symm h4, Ne.symm h5, Ne.symm h6, eq_comm]
theorem spec_l04Kind_is (t : Int) : spec_l04Kind t = some (kindOf t) := by
  have a1 : addI .i64 1 1 = 2 := by decide
  have a2 : addI .i64 2 1 = 3 := by decide
  have a3 : addI .i64 3 1 = 4 := by decide
  have a4 : addI .i64 4 1 = 5 := by decide
  have a5 : addI .i64 5 1 = 6 := by decide
  have a6 : addI .i64 6 1 = 7 := by decide
  have t1 : tagOf 1 = 1 := rfl
  have t2 : tagOf 2 = 3 := rfl
  have t3 : tagOf 3 = 4 := rfl
  have t4 : tagOf 4 = 9 := rfl
  have t5 : tagOf 5 = 10 := rfl
  have t6 : tagOf 6 = 11 := rfl
  rw [spec_l04Kind_eq, spec_l04Kind_l2_eq, spec_l04Tag_is, a1, spec_l04Kind_l2_eq, spec_l04Tag_is, a2, spec_l04Kind_l2_eq, spec_l04Tag_is, a3, spec_l04Kind_l2_eq, spec_l04Tag_is, a4, spec_l04Kind_l2_eq, spec_l04Tag_is, a5, spec_l04Kind_l2_eq, spec_l04Tag_is, a6, spec_l04Kind_l2_eq, t1, t2, t3, t4, t5, t6]
  unfold kindOf
  by_cases h1 : t = 1
  · subst h1; simp
  by_cases h2 : t = 3
  · subst h2; simp
  by_cases h3 : t = 4
  · subst h3; simp
  by_cases h4 : t = 9
  · subst h4; simp
  by_cases h5 : t = 10
  · subst h5; simp
  by_cases h6 : t = 11
  · subst h6; simp
  simp [h1, h2, h3, h4, h5, h6, Ne.symm h1, Ne.symm h2, Ne.symm h3, Ne.symm h4, Ne.symm h5, Ne.symm h6, eq_comm]
end Go.Ev

namespace Go.Ev
open Go Go.Proofs
set_option linter.unusedVariables false
set_option linter.unusedSimpArgs false

def C32 (c : Int) : Prop := 0 ≤ c ∧ c ≤ 4294967295
theorem and15 {c : Int} (h : C32 c) : andI .u32 c 15 = c % 16 := by
  obtain ⟨n, rfl⟩ := Int.eq_ofNat_of_zero_le h.1
  have := h.2
  rw [show (15 : Int) = ((2 ^ 4 - 1 : Nat) : Int) from rfl, andI_u32 (by omega) (by omega), and_low]; simp
theorem shr4 {c : Int} (h : C32 c) : shrI .u32 c 4 = c / 16 := by
  obtain ⟨n, rfl⟩ := Int.eq_ofNat_of_zero_le h.1
  rw [show (4 : Int) = ((4 : Nat) : Int) from rfl, shr_nat _ _ (by omega) (by decide)]; simp
theorem quo16 {c : Int} (h : C32 c) : quoI .u32 c 16 = c / 16 := by
  have := h.1; have := h.2
  unfold quoI; rw [Int.tdiv_eq_ediv_of_nonneg h.1, wU32 (by omega) (by omega)]
theorem quo32 {c : Int} (h : C32 c) : quoI .u32 c 32 = c / 32 := by
  have := h.1; have := h.2
  unfold quoI; rw [Int.tdiv_eq_ediv_of_nonneg h.1, wU32 (by omega) (by omega)]
theorem rem16 {c : Int} (h : C32 c) : remI c 16 = c % 16 := by
  unfold remI; rw [Int.tmod_eq_emod_of_nonneg h.1]
def hexOf (c : Int) : Bool := !(decide (andI .u32 c 16 = 0))
theorem hex_low {c : Int} (h : 0 ≤ c) (h2 : c < 32) : c = bit16 (hexOf c) + c % 16 := by
  have key : ∀ n : Fin 32, ((n.val : Nat) : Int) = bit16 (hexOf (n.val : Nat)) + ((n.val : Nat) : Int) % 16 := by decide
  obtain ⟨n, rfl⟩ := Int.eq_ofNat_of_zero_le h
  exact key ⟨n, by omega⟩

def nameFields (r : List Int) : List Int := (r.takeWhile fun c => decide (c % 16 = 0) && !decide (c = 0)).map (· / 16)
theorem nameFields_cons (c : Int) (r : List Int) : nameFields (c :: r) = if c % 16 = 0 ∧ c ≠ 0 then c / 16 :: nameFields r else [] := by
  unfold nameFields
  by_cases h1 : c % 16 = 0 <;> by_cases h2 : c = 0 <;> simp [h1, h2, List.takeWhile_cons]
theorem nameFields_rng {r : List Int} (h : U32s r) : U32s (nameFields r) := by
  intro x hx
  unfold nameFields at hx
  obtain ⟨y, hy, rfl⟩ := List.mem_map.1 hx
  have := h y ((List.takeWhile_sublist _).subset hy)
  omega
theorem nameFields_len (r : List Int) : (nameFields r).length ≤ r.length := by
  unfold nameFields
  rw [List.length_map]
  exact (List.takeWhile_sublist _).length_le
def rawItem (c : Int) : It := (0, [], 0, false, c)
def numItem (k c n : Int) : It := (k, [], n, hexOf c, 0)
def i32 (x : Int) : Int := cvtI .i32 x
def numKind (t : Int) : Int := if t = 5 then 8 else 7
def parse1 (c : Int) (rest : List Int) : It × Nat :=
  if 0 ≤ kindOf (c % 16) then (if (unpackN (c / 16 :: nameFields rest)).2 then ((kindOf (c % 16), (unpackN (c / 16 :: nameFields rest)).1, 0, false, 0), (nameFields rest).length + 1) else (rawItem c, 1))
  else if c % 16 = 8 then (numItem 7 c (shrI .i32 (i32 c) 5), 1)
  else if c % 16 = 6 then (numItem 8 c (shrI .i32 (i32 c) 5), 1)
  else match rest with
    | [] => (rawItem c, 1)
    | d :: _ =>
      if c % 16 = 2 ∨ c % 16 = 5 then (if c / 32 = 0 ∧ (cellsOf (numItem (numKind (c % 16)) c (i32 d))).length = 2 then (numItem (numKind (c % 16)) c (i32 d), 2) else (rawItem c, 1))
      else if c % 16 = 12 then (if fieldOk (c / 16) then ((9, unpackOne (c / 16), i32 d, false, 0), 2) else (rawItem c, 1))
      else (rawItem c, 1)

theorem impl_parseOne_l12_is (rest : List Int) (hr : U32s rest) (hl : rest.length < 1000000) (a1 a6 : Int) (a7 : List UInt8) (a8 : Int) (a9 : Bool) (a10 a11 : Int) (a12 : List UInt8) (a13 : Int) (a14 : Bool) (a15 : Int) :
    (r p : List Int) → (acc : List Int) → rest = p ++ r → acc.length + r.length < 2000000 → impl_parseOne_l12 a1 acc rest (len rest) (p.length : Int) a6 a7 a8 a9 a10 a11 a12 a13 a14 a15 = some (a1, acc ++ nameFields r, a6, a7, a8, a9, a10, a11, a12, a13, a14, a15)
  | [], p, acc, h, ha => by
    rw [impl_parseOne_l12_eq]; subst h; simp [len_nat, nameFields]
  | f :: r, p, acc, h, ha => by
    have hfl : p.length + r.length + 1 = rest.length := by rw [h]; simp; omega
    have hf : C32 f := hr f (by rw [h]; simp)
    simp only [List.length_cons] at ha
    have ih := impl_parseOne_l12_is rest hr hl a1 a6 a7 a8 a9 a10 a11 a12 a13 a14 a15 r (p ++ [f]) (acc ++ [f / 16]) (by simp [h]) (by simp; omega)
    rw [impl_parseOne_l12_eq, len_nat, nth_nat, show rest[p.length]? = some f by rw [h]; simp, decide_eq_true (show (p.length : Int) < (rest.length : Int) by omega)]
    simp only [cond_true, Option.bind_some, and15 hf, shr4 hf]
    rw [nameFields_cons]
    by_cases h0 : f = 0
    · simp [h0]
    · by_cases h1 : f % 16 = 0
      · rw [decide_eq_false h0, decide_eq_true h1, decide_eq_true (show acc.length + 1 < 35184372088832 by omega), if_pos ⟨h1, h0⟩, add_one (by omega)]
        rw [len_nat] at ih
        simp only [cond_false, Bool.not_true, cond_true]
        rw [show p.length + 1 = (p ++ [f]).length by simp, ih]
        simp
      · simp [h0, h1]
theorem impl_flag (t : Int) (xs : List Int) (u : Int) : (((
      (bif decide (t = 1) then
        some (xs, u, t, t, decide (t = 1), 0, ([] : List UInt8), 0, false, 0, 0, ([] : List UInt8), 0, false, u)
      else
        (bif decide (t = 3) then
          some (xs, u, t, t, decide (t = 3), 0, ([] : List UInt8), 0, false, 0, 0, ([] : List UInt8), 0, false, u)
        else
          (bif decide (t = 4) then
            some (xs, u, t, t, decide (t = 4), 0, ([] : List UInt8), 0, false, 0, 0, ([] : List UInt8), 0, false, u)
          else
            (bif decide (t = 9) then
              some (xs, u, t, t, decide (t = 9), 0, ([] : List UInt8), 0, false, 0, 0, ([] : List UInt8), 0, false, u)
            else
              (bif decide (t = 10) then
                some (xs, u, t, t, decide (t = 10), 0, ([] : List UInt8), 0, false, 0, 0, ([] : List UInt8), 0, false, u)
              else
                some (xs, u, t, t, decide (t = 11), 0, ([] : List UInt8), 0, false, 0, 0, ([] : List UInt8), 0, false, u)))))) : Option ((List (Int)) × Int × Int × Int × Bool × Int × (List UInt8) × Int × Bool × Int × Int × (List UInt8) × Int × Bool × Int)))) =
    some (xs, u, t, t, decide (0 ≤ kindOf t), 0, ([] : List UInt8), 0, false, 0, 0, ([] : List UInt8), 0, false, u) := by
  unfold kindOf
  by_cases h1 : t = 1
  · subst h1; simp
  by_cases h2 : t = 3
  · subst h2; simp
  by_cases h3 : t = 4
  · subst h3; simp
  by_cases h4 : t = 9
  · subst h4; simp
  by_cases h5 : t = 10
  · subst h5; simp
  by_cases h6 : t = 11
  · subst h6; simp
  simp [h1, h2, h3, h4, h5, h6]
/-- two cells, of a number that is long -/
theorem long_eq {c d : Int} (hc : C32 c) (hd : C32 d) {k : Int} (hk : k = 7 ∧ c % 16 = 2 ∨ k = 8 ∧ c % 16 = 5) : decide (cellsOf (numItem k c (i32 d)) = [c, d]) = decide (c / 32 = 0 ∧ (cellsOf (numItem k c (i32 d))).length = 2) := by
  have hcc : cellsOf (numItem k c (i32 d)) = numCells (i32 d) (hexOf c) (if k = 7 then 8 else 6) (if k = 7 then 2 else 5) := by
    unfold cellsOf numItem
    rcases hk with ⟨rfl, _⟩ | ⟨rfl, _⟩
    · simp [show tagOf 7 = 0 from rfl]
    · simp [show tagOf 8 = 0 from rfl]
  have hd' : i32 d % 4294967296 = d := by
    have := hd.1; have := hd.2
    unfold i32 cvtI; rw [wI32_mod]; omega
  have hb := bit16_cases (hexOf c)
  have hc1 := hc.1
  rw [hcc, decide_eq_decide]
  unfold numCells
  split
  · simp
  · rw [hd']
    simp only [List.cons.injEq, and_true, List.length_cons, List.length_nil]
    have ht : (if k = 7 then (2 : Int) else 5) = c % 16 := by
      rcases hk with ⟨rfl, h⟩ | ⟨rfl, h⟩
      · simp [h]
      · simp [h]
    rw [ht]
    constructor
    · intro h; omega
    · intro h
      have := hex_low hc.1 (by omega)
      omega
theorem cells2 {c d : Int} {r : List Int} : (c :: d :: r).take 2 = [c, d] := rfl
theorem cellsOf_num (k c n : Int) (hk : k = 7 ∨ k = 8) : (cellsOf (numItem k c n)).length < 100 := by
  have hl : ∀ s l, (numCells n (hexOf c) s l).length < 100 := by
    intro s l; unfold numCells; split <;> simp
  unfold cellsOf numItem
  rcases hk with rfl | rfl
  · simp only [show tagOf 7 = 0 from rfl]; simp; exact hl _ _
  · simp only [show tagOf 8 = 0 from rfl]; simp; exact hl _ _
theorem impl_parseOne_is (c : Int) (rest : List Int) (hc : C32 c) (hr : U32s rest) (hl : rest.length < 1000000) : impl_parseOne (c :: rest) = some (parse1 c rest).1 := by
  have hq : C32 (c / 16) := by have := hc.1; have := hc.2; exact ⟨by omega, by omega⟩
  rw [impl_parseOne_eq, show nth (c :: rest) 0 = some c from rfl, Option.bind_some, Option.bind_some, and15 hc, impl_flag, Option.bind_some]
  unfold parse1
  simp only []
  by_cases hk : 0 ≤ kindOf (c % 16)
  · have hn := impl_parseOne_l12_is rest hr hl (c % 16) 0 [] 0 false 0 0 [] 0 false c rest [] [c / 16] rfl (by simp; omega)
    have hu := impl_Unpack_is (c / 16 :: nameFields rest) (fun x hx => by
      rcases List.mem_cons.1 hx with rfl | hx
      · exact hq
      · exact nameFields_rng hr x hx)
    rw [decide_eq_true hk, if_pos hk, len_nat, decide_eq_true (show (1 : Int) ≤ ((c :: rest).length : Int) by simp only [List.length_cons]; omega)]
    simp only [cond_true, List.drop_one, List.tail_cons, shr4 hc]
    rw [show (0 : Int) = (([] : List Int).length : Int) from rfl]
    rw [show impl_parseOne_l12 (c % 16) [c / 16] rest (len rest) (([] : List Int).length : Int) (([] : List Int).length : Int) [] (([] : List Int).length : Int) false (([] : List Int).length : Int) (([] : List Int).length : Int) [] (([] : List Int).length : Int) false c = _ from hn]
    simp only [Option.bind_some, List.singleton_append, hu]
    cases hx : (unpackN (c / 16 :: nameFields rest)).2
    · simp [rawItem]
    · simp [impl_nameKind_is, hk]
  · rw [decide_eq_false hk, if_neg hk, cond_false]
    by_cases h8 : c % 16 = 8
    · simp [h8, numItem, i32, hexOf]
    · rw [decide_eq_false h8, if_neg h8, cond_false]
      by_cases h6 : c % 16 = 6
      · simp [h6, numItem, i32, hexOf]
      · rw [decide_eq_false h6, if_neg h6, cond_false]
        have hfl : (bif decide (c % 16 = 2) then some (c :: rest, c, c % 16, c % 16, decide (c % 16 = 2), (0 : Int), ([] : List UInt8), (0 : Int), false, (0 : Int), (0 : Int), ([] : List UInt8), (0 : Int), false, c) else
            some (c :: rest, c, c % 16, c % 16, decide (c % 16 = 5), (0 : Int), ([] : List UInt8), (0 : Int), false, (0 : Int), (0 : Int), ([] : List UInt8), (0 : Int), false, c)) =
            some (c :: rest, c, c % 16, c % 16, decide (c % 16 = 2 ∨ c % 16 = 5), (0 : Int), ([] : List UInt8), (0 : Int), false, (0 : Int), (0 : Int), ([] : List UInt8), (0 : Int), false, c) := by
          by_cases h : c % 16 = 2 <;> simp [h]
        rw [hfl, Option.bind_some]
        simp only []
        cases rest with
        | nil =>
          by_cases h25 : c % 16 = 2 ∨ c % 16 = 5
          · simp [h25, len_nat, rawItem]
          · by_cases h12 : c % 16 = 12
            · simp [h12, len_nat, rawItem]
            · simp [h25, h12, len_nat, rawItem]
        | cons d r =>
          have hd : C32 d := hr d (by simp)
          have hlen : ¬ (len (c :: d :: r) < 2) := by rw [len_nat]; simp only [List.length_cons]; omega
          have hlen2 : (2 : Int) ≤ len (c :: d :: r) := by rw [len_nat]; simp only [List.length_cons]; omega
          have hlen3 : (1 : Int) < len (c :: d :: r) := by rw [len_nat]; simp only [List.length_cons]; omega
          simp only []
          by_cases h25 : c % 16 = 2 ∨ c % 16 = 5
          · rw [decide_eq_true h25, if_pos h25, cond_true, decide_eq_false hlen, cond_false, show nth (c :: d :: r) 1 = some d from rfl, Option.bind_some]
            by_cases h5 : c % 16 = 5
            · have hcl : impl_CellsOf 8 ([] : List UInt8) (cvtI .i32 d) (!(decide (andI .u32 c 16 = 0))) 0 = some (cellsOf (numItem 8 c (i32 d))) := impl_CellsOf_is (numItem 8 c (i32 d)) (by simp [numItem])
              have hll := cellsOf_num 8 c (i32 d) (.inr rfl)
              rw [decide_eq_true h5, cond_true, hcl, Option.bind_some, decide_eq_true hlen2, cond_true, cells2, slices_Equal_uint32_is _ _ (by omega), Option.bind_some, long_eq hc hd (.inr ⟨rfl, h5⟩)]
              have hkk : numKind (c % 16) = 8 := by unfold numKind; rw [if_pos h5]
              rw [hkk]
              by_cases hz : c / 32 = 0 ∧ (cellsOf (numItem 8 c (i32 d))).length = 2
              · rw [if_pos hz, decide_eq_true hz]; rfl
              · rw [if_neg hz, decide_eq_false hz]; rfl
            · have h2 : c % 16 = 2 := by omega
              have hcl : impl_CellsOf 7 ([] : List UInt8) (cvtI .i32 d) (!(decide (andI .u32 c 16 = 0))) 0 = some (cellsOf (numItem 7 c (i32 d))) := impl_CellsOf_is (numItem 7 c (i32 d)) (by simp [numItem])
              have hll := cellsOf_num 7 c (i32 d) (.inl rfl)
              rw [decide_eq_false h5, cond_false, hcl, Option.bind_some, decide_eq_true hlen2, cond_true, cells2, slices_Equal_uint32_is _ _ (by omega), Option.bind_some, long_eq hc hd (.inl ⟨rfl, h2⟩)]
              have hkk : numKind (c % 16) = 7 := by unfold numKind; rw [if_neg h5]
              rw [hkk]
              by_cases hz : c / 32 = 0 ∧ (cellsOf (numItem 7 c (i32 d))).length = 2
              · rw [if_pos hz, decide_eq_true hz]; rfl
              · rw [if_neg hz, decide_eq_false hz]; rfl
          · rw [decide_eq_false h25, if_neg h25, cond_false]
            by_cases h12 : c % 16 = 12
            · rw [decide_eq_true h12, if_pos h12, cond_true, decide_eq_true hlen3, cond_true, shr4 hc, impl_FieldOk_is _ hq.1 hq.2, Option.bind_some]
              cases hf : fieldOk (c / 16)
              · simp [rawItem]
              · simp [impl_UnpackOne_is _ hq.1 hq.2, show nth (c :: d :: r) 1 = some d from rfl, i32]
            · simp [h12, rawItem]
end Go.Ev

namespace Go.Ev
open Go Go.Proofs
set_option linter.unusedVariables false
set_option linter.unusedSimpArgs false

theorem spec_l04Name_l3_is (cells : List Int) (hr : U32s cells) (hl : cells.length < 1000000) (a2 a5 : Int) (a6 : List UInt8) (a7 : Int) (a8 : Bool) (a9 : Int) :
    (r p : List Int) → (acc : List Int) → cells = p ++ r → acc.length + r.length < 2000000 → spec_l04Name_l3 cells a2 acc (p.length : Int) a5 a6 a7 a8 a9 = some (a2, acc ++ nameFields r, a5, a6, a7, a8, a9)
  | [], p, acc, h, ha => by
    rw [spec_l04Name_l3_eq]; subst h; simp [len_nat, nameFields]
  | f :: r, p, acc, h, ha => by
    have hfl : p.length + r.length + 1 = cells.length := by rw [h]; simp; omega
    have hf : C32 f := hr f (by rw [h]; simp)
    simp only [List.length_cons] at ha
    have ih := spec_l04Name_l3_is cells hr hl a2 a5 a6 a7 a8 a9 r (p ++ [f]) (acc ++ [f / 16]) (by simp [h]) (by simp; omega)
    rw [spec_l04Name_l3_eq, len_nat, nth_nat, show cells[p.length]? = some f by rw [h]; simp, decide_eq_true (show (p.length : Int) < (cells.length : Int) by omega)]
    simp only [cond_true, Option.bind_some, rem16 hf, quo16 hf]
    rw [nameFields_cons]
    by_cases h1 : f % 16 = 0
    · by_cases h0 : f = 0
      · simp [h0]
      · rw [decide_eq_false h0, decide_eq_true h1, decide_eq_true (show acc.length + 1 < 35184372088832 by omega), if_pos ⟨h1, h0⟩, add_one (by omega)]
        simp only [Bool.not_false, cond_true]
        rw [show p.length + 1 = (p ++ [f]).length by simp, ih]
        simp
    · simp [h1]

/-- how the reference hands an item back -/
abbrev It6 := Int × List UInt8 × Int × Bool × Int × Int
def it6 (d : It × Nat) : It6 := (d.1.1, d.1.2.1, d.1.2.2.1, d.1.2.2.2.1, d.1.2.2.2.2, (d.2 : Int))
theorem spec_l04Name_is (p rest : List Int) (c k : Int) (hr : U32s (p ++ c :: rest)) (hl : (p ++ c :: rest).length < 1000000) :
    spec_l04Name (p ++ c :: rest) (p.length : Int) k = some (if (unpackN (c / 16 :: nameFields rest)).2 then it6 ((k, (unpackN (c / 16 :: nameFields rest)).1, 0, false, 0), (nameFields rest).length + 1) else (0, [], 0, false, 0, 0)) := by
  have hc : C32 c := hr c (by simp)
  have hq : C32 (c / 16) := by have := hc.1; have := hc.2; exact ⟨by omega, by omega⟩
  have hrest : U32s rest := fun x hx => hr x (by simp [hx])
  have hn := spec_l04Name_l3_is (p ++ c :: rest) hr hl k 0 [] 0 false 0 rest (p ++ [c]) [c / 16] (by simp) (by simp at hl ⊢; omega)
  have hu := spec_Unpack_is (c / 16 :: nameFields rest) (fun x hx => by
    rcases List.mem_cons.1 hx with rfl | hx
    · exact hq
    · exact nameFields_rng hrest x hx)
  rw [spec_l04Name_eq, nth_app, Option.bind_some, quo16 hc, add_one (by simp at hl; omega)]
  rw [show (p ++ [c]).length = p.length + 1 by simp] at hn
  rw [hn]
  simp only [Option.bind_some, List.singleton_append, hu]
  cases hx : (unpackN (c / 16 :: nameFields rest)).2
  · simp
  · simp [it6, len_nat]
def long6 (c : Int) : List Int → It6
  | [] => (0, [], 0, false, 0, 0)
  | d :: _ => if c / 32 = 0 then it6 (numItem (numKind (c % 16)) c (i32 d), (cellsOf (numItem (numKind (c % 16)) c (i32 d))).length / 2 * 2) else (0, [], 0, false, 0, 0)
/-- a number at a place -/
def num6 (c : Int) (rest : List Int) : It6 :=
  if c % 16 = 8 then it6 (numItem 7 c (shrI .i32 (i32 c) 5), 1)
  else if c % 16 = 6 then it6 (numItem 8 c (shrI .i32 (i32 c) 5), 1)
  else long6 c rest
theorem spec_l04Number_is (p rest : List Int) (c : Int) (hr : U32s (p ++ c :: rest)) (hl : (p ++ c :: rest).length < 1000000) (h25 : c % 16 = 8 ∨ c % 16 = 6 ∨ c % 16 = 2 ∨ c % 16 = 5) :
    spec_l04Number (p ++ c :: rest) (p.length : Int) = some (num6 c rest) := by
  have hc : C32 c := hr c (by simp)
  have hpl : p.length < 1000000 := by simp at hl; omega
  have hadd : addI .i64 (p.length : Int) 1 = (p.length : Int) + 1 := by rw [add_one (by omega)]; simp
  have hq32 := quo32 hc
  rw [spec_l04Number_eq, nth_app, Option.bind_some, rem16 hc]
  unfold num6
  by_cases h8 : c % 16 = 8
  · simp [h8, it6, numItem, i32, hexOf]
  · by_cases h6 : c % 16 = 6
    · simp [h6, it6, numItem, i32, hexOf]
    · rw [if_neg h8, if_neg h6]
      unfold long6
      cases rest with
      | nil =>
        have hlen : len (p ++ [c]) ≤ ((p.length : Int) + 1) := by rw [len_nat]; simp
        by_cases h5 : c % 16 = 5 <;> simp [h6, h8, h5, hlen, hadd]
      | cons d r =>
        have hlen : ¬ (len (p ++ c :: d :: r) ≤ ((p.length : Int) + 1)) := by rw [len_nat]; simp only [List.length_append, List.length_cons]; omega
        have hnth : nth (p ++ c :: d :: r) ((p.length : Int) + 1) = some d := by rw [show (p.length : Int) + 1 = ((p.length + 1 : Nat) : Int) by simp, nth_nat]; simp
        have key : ∀ k : Int, (k = 7 ∨ k = 8) → (spec_CellsOf k ([] : List UInt8) (cvtI .i32 d) (!(decide (andI .u32 c 16 = 0))) 0) = some (cellsOf (numItem k c (i32 d))) := fun k hk => spec_CellsOf_is (numItem k c (i32 d)) (by simp [numItem])
        have hm : ∀ k : Int, (k = 7 ∨ k = 8) → mulI .i64 (quoI .i64 (len (cellsOf (numItem k c (i32 d)))) 2) 2 = ((cellsOf (numItem k c (i32 d))).length : Int) / 2 * 2 := by
          intro k hk
          have := cellsOf_num k c (i32 d) hk
          unfold mulI quoI
          rw [len_nat, Int.tdiv_eq_ediv_of_nonneg (by omega), wI64 (n := ((cellsOf (numItem k c (i32 d))).length : Int) / 2) (by omega) (by omega), wI64 (by omega) (by omega)]
        by_cases h5 : c % 16 = 5
        · have hkk : numKind (c % 16) = 8 := by unfold numKind; rw [if_pos h5]
          simp only [h5] at hkk
          simp only [h5, hkk]
          by_cases hz : c / 32 = 0
          · simp [hadd, hq32, hlen, hz, hnth, key 8 (.inr rfl), it6, numItem, i32, hexOf]
            simpa [numItem, i32, hexOf] using hm 8 (.inr rfl)
          · simp [hadd, hq32, hlen, hz]
        · have hkk : numKind (c % 16) = 7 := by unfold numKind; rw [if_neg h5]
          rw [hkk]
          by_cases hz : c / 32 = 0
          · simp [h5, h6, h8, hadd, hq32, hlen, hz, hnth, key 7 (.inl rfl), it6, numItem, i32, hexOf]
            simpa [numItem, i32, hexOf] using hm 7 (.inl rfl)
          · simp [h5, h6, h8, hadd, hq32, hlen, hz]
theorem num_len (k c n : Int) (hk : k = 7 ∨ k = 8) : (cellsOf (numItem k c n)).length = 1 ∨ (cellsOf (numItem k c n)).length = 2 := by
  have hl : ∀ s l, (numCells n (hexOf c) s l).length = 1 ∨ (numCells n (hexOf c) s l).length = 2 := by
    intro s l; unfold numCells; split <;> simp
  unfold cellsOf numItem
  rcases hk with rfl | rfl
  · simp only [show tagOf 7 = 0 from rfl]; simp; exact hl _ _
  · simp only [show tagOf 8 = 0 from rfl]; simp; exact hl _ _
theorem numKind_or (t : Int) : numKind t = 7 ∨ numKind t = 8 := by unfold numKind; split <;> simp
theorem spec_l04Item_is (p rest : List Int) (c : Int) (hr : U32s (p ++ c :: rest)) (hl : (p ++ c :: rest).length < 1000000) :
    spec_l04Item (p ++ c :: rest) (p.length : Int) = some (it6 (parse1 c rest)) := by
  have hc : C32 c := hr c (by simp)
  have hq : C32 (c / 16) := by have := hc.1; have := hc.2; exact ⟨by omega, by omega⟩
  have hpl : p.length < 1000000 := by simp at hl; omega
  rw [spec_l04Item_eq, nth_app, Option.bind_some, rem16 hc, spec_l04Kind_is, add_one (by omega)]
  simp only [Option.bind_some]
  unfold parse1
  by_cases hk : 0 ≤ kindOf (c % 16)
  · rw [decide_eq_true hk, if_pos hk, cond_true, spec_l04Name_is p rest c _ hr hl]
    cases hx : (unpackN (c / 16 :: nameFields rest)).2
    · simp [it6, rawItem, nth_app]
    · have : ¬ (((nameFields rest).length : Int) + 1 = 0) := by omega
      simp [it6, this]
  · rw [decide_eq_false hk, if_neg hk, cond_false]
    by_cases h8 : c % 16 = 8
    · rw [decide_eq_true h8, if_pos h8, cond_true, spec_l04Number_is p rest c hr hl (.inl h8)]
      simp [num6, h8, it6, numItem]
    · rw [decide_eq_false h8, if_neg h8, cond_false]
      by_cases h6 : c % 16 = 6
      · rw [decide_eq_true h6, if_pos h6, cond_true, spec_l04Number_is p rest c hr hl (.inr (.inl h6))]
        simp [num6, h6, it6, numItem]
      · rw [decide_eq_false h6, if_neg h6, cond_false]
        have hlong : num6 c rest = long6 c rest := by
          unfold num6; rw [if_neg h8, if_neg h6]
        by_cases h25 : c % 16 = 2 ∨ c % 16 = 5
        · have hnum := spec_l04Number_is p rest c hr hl (by omega)
          rw [hlong] at hnum
          have h2c : ∀ (A : Option (List Int × Int × Int × Int × List UInt8 × Int × Bool × Int × Int × List UInt8 × Int × Bool × Int)) (B : Option (List Int × Int × Int × Int × List UInt8 × Int × Bool × Int × Int × List UInt8 × Int × Bool × Int)),
              (bif decide (c % 16 = 2) then A else bif decide (c % 16 = 5) then A else B) = A := by
            intro A B
            rcases h25 with h | h <;> simp [h]
          rw [h2c, hnum]
          cases rest with
          | nil => simp [rawItem, it6, nth_app, long6]
          | cons d r =>
            simp only [Option.bind_some, if_pos h25, long6]
            by_cases hz : c / 32 = 0
            · rcases num_len (numKind (c % 16)) c (i32 d) (numKind_or _) with h1 | h1
              · simp [hz, h1, it6, rawItem, nth_app]
              · simp [hz, h1, it6]
            · simp [hz, it6, rawItem, nth_app]
        · have h2 : ¬ c % 16 = 2 := by omega
          have h5 : ¬ c % 16 = 5 := by omega
          rw [decide_eq_false h2, decide_eq_false h5, cond_false, cond_false]
          cases rest with
          | nil =>
            have hlen : ¬ (((p.length + 1 : Nat) : Int) < len (p ++ [c])) := by rw [len_nat]; simp
            by_cases h12 : c % 16 = 12
            · rw [decide_eq_true h12, cond_true, decide_eq_false hlen]
              simp [rawItem, it6, nth_app]
            · simp [h12, rawItem, it6, nth_app]
          | cons d r =>
            have hlen : ((p.length + 1 : Nat) : Int) < len (p ++ c :: d :: r) := by rw [len_nat]; simp only [List.length_append, List.length_cons]; omega
            have hnth : nth (p ++ c :: d :: r) ((p.length + 1 : Nat) : Int) = some d := by rw [nth_nat]; simp
            simp only [if_neg h25]
            by_cases h12 : c % 16 = 12
            · rw [decide_eq_true h12, if_pos h12, cond_true, decide_eq_true hlen, cond_true, quo16 hc, spec_FieldOk_is _ hq.1 hq.2, Option.bind_some]
              cases hf : fieldOk (c / 16)
              · simp [rawItem, it6, nth_app]
              · rw [cond_true, spec_UnpackOne_is _ hq.1 hq.2, Option.bind_some, hnth]
                simp [i32, it6]
            · simp [h12, rawItem, it6, nth_app]
end Go.Ev

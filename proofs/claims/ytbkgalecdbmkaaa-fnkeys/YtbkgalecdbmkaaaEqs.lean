/- FnKeys returns true for every input, on the conditions that the row itself states, and on no other (part 'Eqs') -/
import Derived.Test.YtbkgalecdbmkaaaTab

namespace Go.Ev
open Go Go.Proofs
set_option linter.unusedVariables false
set_option maxRecDepth 100000
noncomputable def laws_big (x1 : List (Int)) : Option (Bool) := L.callee 5 x1
theorem laws_big_eq (x1 : List (Int)) : laws_big x1 =
    some (decide (1048576 < len x1)) :=
  (lim_fun' _ _).trans (by kernel_rfl)
noncomputable def spec_l01New (x1 : List (Int)) : Option ((List (Int)) × Int × Int) := L.callee 17 x1
noncomputable def spec_l01New_l3 (a1 : List (Int)) (a2 : Int) (a3 : Int) : Option ((List (Int)) × Int) := L.loop 17 3 (a1, a2, a3)
theorem spec_l01New_l3_eq (a1 : List (Int)) (a2 : Int) (a3 : Int) : spec_l01New_l3 a1 a2 a3 =
    (bif decide (a3 < len a1) then
      (bif decide (a3 < 4000) then
        (Ev.nth a1 a3).bind fun u1 =>
        spec_l01New_l3 a1 (andI .i64 (addI .i64 (addI .i64 (mulI .i64 a2 131) (cvtI .i64 u1)) 7) 1073741823) (addI .i64 a3 1)
      else
        some (a1, a2))
    else
      some (a1, a2)) :=
  (lim_round' _ _ _).trans (by kernel_rfl)
theorem spec_l01New_eq (x1 : List (Int)) : spec_l01New x1 =
    (spec_l01New_l3 x1 (addI .i64 711711 (len x1)) 0).bind fun d1 =>
    some (d1.1, 0, d1.2) :=
  (lim_fun' _ _).trans (by kernel_rfl)
noncomputable def spec_l01Byte (x1 : List (Int)) (x2 : Int) (x3 : Int) : Option (Int × (List (Int)) × Int × Int) := L.callee 50 (x1, x2, x3)
theorem spec_l01Byte_eq (x1 : List (Int)) (x2 : Int) (x3 : Int) : spec_l01Byte x1 x2 x3 =
    (bif decide (x2 < len x1) then
      (Ev.nth x1 x2).bind fun u1 =>
      some (andI .i64 (addI .i64 (andI .i64 (xorI .i64 (shrI .i64 (addI .i64 (mulI .i64 x3 6364136223846793005) 1442695040888963407) 33) (shrI .i64 (addI .i64 (mulI .i64 x3 6364136223846793005) 1442695040888963407) 45)) 255) (cvtI .i64 u1)) 255, x1, addI .i64 x2 1, addI .i64 (mulI .i64 x3 6364136223846793005) 1442695040888963407)
    else
      some (andI .i64 (xorI .i64 (shrI .i64 (addI .i64 (mulI .i64 x3 6364136223846793005) 1442695040888963407) 33) (shrI .i64 (addI .i64 (mulI .i64 x3 6364136223846793005) 1442695040888963407) 45)) 255, x1, x2, addI .i64 (mulI .i64 x3 6364136223846793005) 1442695040888963407)) :=
  (lim_fun' _ _).trans (by kernel_rfl)
noncomputable def spec_l01Below (x1 : List (Int)) (x2 : Int) (x3 : Int) (x4 : Int) : Option (Int × (List (Int)) × Int × Int) := L.callee 32 (x1, x2, x3, x4)
theorem spec_l01Below_eq (x1 : List (Int)) (x2 : Int) (x3 : Int) (x4 : Int) : spec_l01Below x1 x2 x3 x4 =
    (bif decide (x4 ≤ 0) then
      some (0, x1, x2, x3)
    else
      (bif decide (x4 ≤ 256) then
        (spec_l01Byte x1 x2 x3).bind fun r1 =>
        (bif !(decide (x4 = 0)) then
          some (remI r1.1 x4, r1.2.1, r1.2.2.1, r1.2.2.2)
        else
          none)
      else
        (spec_l01Byte x1 x2 x3).bind fun r2 =>
        (spec_l01Byte r2.2.1 r2.2.2.1 r2.2.2.2).bind fun r3 =>
        (spec_l01Byte r3.2.1 r3.2.2.1 r3.2.2.2).bind fun r4 =>
        (spec_l01Byte r4.2.1 r4.2.2.1 r4.2.2.2).bind fun r5 =>
        (bif !(decide (x4 = 0)) then
          some (remI (addI .i64 (addI .i64 (addI .i64 (mulI .i64 r2.1 16777216) (mulI .i64 r3.1 65536)) (mulI .i64 r4.1 256)) r5.1) x4, r5.2.1, r5.2.2.1, r5.2.2.2)
        else
          none))) :=
  (lim_fun' _ _).trans (by kernel_rfl)
noncomputable def spec_l01Once (x1 : List (Int)) (x2 : Int) (x3 : Int) (x4 : Int) : Option (Bool × (List (Int)) × Int × Int) := L.callee 39 (x1, x2, x3, x4)
theorem spec_l01Once_eq (x1 : List (Int)) (x2 : Int) (x3 : Int) (x4 : Int) : spec_l01Once x1 x2 x3 x4 =
    (spec_l01Below x1 x2 x3 x4).bind fun r1 =>
    some (decide (r1.1 = 0), r1.2.1, r1.2.2.1, r1.2.2.2) :=
  (lim_fun' _ _).trans (by kernel_rfl)
noncomputable def spec_l01PickInt (x1 : List (Int)) (x2 : Int) (x3 : Int) (x4 : List (Int)) : Option (Int × (List (Int)) × Int × Int) := L.callee 69 (x1, x2, x3, x4)
theorem spec_l01PickInt_eq (x1 : List (Int)) (x2 : Int) (x3 : Int) (x4 : List (Int)) : spec_l01PickInt x1 x2 x3 x4 =
    (spec_l01Below x1 x2 x3 (len x4)).bind fun r1 =>
    (Ev.nth x4 r1.1).bind fun u2 =>
    some (u2, r1.2.1, r1.2.2.1, r1.2.2.2) :=
  (lim_fun' _ _).trans (by kernel_rfl)
noncomputable def spec_l04Int (x1 : List (Int)) (x2 : Int) (x3 : Int) : Option (Int × (List (Int)) × Int × Int) := L.callee 70 (x1, x2, x3)
theorem spec_l04Int_eq (x1 : List (Int)) (x2 : Int) (x3 : Int) : spec_l04Int x1 x2 x3 =
    (spec_l01Once x1 x2 x3 2).bind fun r1 =>
    (bif r1.1 then
      (spec_l01Below r1.2.1 r1.2.2.1 r1.2.2.2 200).bind fun r2 =>
      some (cvtI .i32 (subI .i64 r2.1 40), r2.2.1, r2.2.2.1, r2.2.2.2)
    else
      (spec_l01PickInt r1.2.1 r1.2.2.1 r1.2.2.2 [0, 67108863, 67108864, (-67108864), (-67108865), 2147483647, (-2147483648), 1000000, (-1)]).bind fun r3 =>
      some (cvtI .i32 r3.1, r3.2.1, r3.2.2.1, r3.2.2.2)) :=
  (lim_fun' _ _).trans (by kernel_rfl)
noncomputable def spec_l01Pick (x1 : List (Int)) (x2 : Int) (x3 : Int) (x4 : List ((List UInt8))) : Option ((List UInt8) × (List (Int)) × Int × Int) := L.callee 57 (x1, x2, x3, x4)
theorem spec_l01Pick_eq (x1 : List (Int)) (x2 : Int) (x3 : Int) (x4 : List ((List UInt8))) : spec_l01Pick x1 x2 x3 x4 =
    (spec_l01Below x1 x2 x3 (len x4)).bind fun r1 =>
    (Ev.nth x4 r1.1).bind fun u2 =>
    some (u2, r1.2.1, r1.2.2.1, r1.2.2.2) :=
  (lim_fun' _ _).trans (by kernel_rfl)
noncomputable def spec_l01In (x1 : Int) (x2 : Int) (x3 : Int) : Option (Bool) := L.callee 23 (x1, x2, x3)
theorem spec_l01In_eq (x1 : Int) (x2 : Int) (x3 : Int) : spec_l01In x1 x2 x3 =
    (bif decide (x2 ≤ x1) then
      some (decide (x1 ≤ x3))
    else
      some false) :=
  (lim_fun' _ _).trans (by kernel_rfl)
noncomputable def spec_l02All : Option ((List UInt8)) := L.callee 98 ()
theorem spec_l02All_eq : spec_l02All  =
    some [32, 114, 116, 111, 101, 97, 110, 105, 115, 109, 99, 121, 108, 103, 102, 119, 100, 118, 112, 98, 104, 120, 117, 113, 48, 49, 50, 51, 52, 53, 54, 55, 56, 57, 106, 45, 107, 46, 122, 47, 59, 39, 33, 43, 64, 42, 44, 63] :=
  (lim_fun' _ _).trans (by kernel_rfl)
noncomputable def spec_LetterAt (x1 : Int) : Option (Int) := L.callee 86 x1
theorem spec_LetterAt_eq (x1 : Int) : spec_LetterAt x1 =
    (spec_l01In x1 0 47).bind fun r1 =>
    (bif !r1 then
      some 0
    else
      spec_l02All.bind fun r2 =>
      (Ev.nth r2 x1).bind fun b3 =>
      some (byteI b3)) :=
  (lim_fun' _ _).trans (by kernel_rfl)
noncomputable def spec_l02Name (x1 : List (Int)) (x2 : Int) (x3 : Int) : Option ((List UInt8) × (List (Int)) × Int × Int) := L.callee 71 (x1, x2, x3)
noncomputable def spec_l02Name_l6 (a1 : List (Int)) (a2 : Int) (a3 : Int) (a4 : List (Int)) (a5 : Int) (a6 : Int) : Option ((List (Int)) × (List (Int)) × Int × Int) := L.loop 71 6 (a1, a2, a3, a4, a5, a6)
theorem spec_l02Name_l6_eq (a1 : List (Int)) (a2 : Int) (a3 : Int) (a4 : List (Int)) (a5 : Int) (a6 : Int) : spec_l02Name_l6 a1 a2 a3 a4 a5 a6 =
    (bif decide (a3 < a2) then
      (spec_l01Below a4 a5 a6 47).bind fun r1 =>
      (spec_LetterAt (addI .i64 1 r1.1)).bind fun r2 =>
      (bif decide (a1.length + 1 < 140737488355328) then
        spec_l02Name_l6 (a1 ++ [r2]) a2 (addI .i64 a3 1) r1.2.1 r1.2.2.1 r1.2.2.2
      else
        none)
    else
      some (a1, a4, a5, a6)) :=
  (lim_round' _ _ _).trans (by kernel_rfl)
theorem spec_l02Name_eq (x1 : List (Int)) (x2 : Int) (x3 : Int) : spec_l02Name x1 x2 x3 =
    (spec_l01Once x1 x2 x3 2).bind fun r1 =>
    (bif r1.1 then
      (spec_l01Pick r1.2.1 r1.2.2.1 r1.2.2.2 [[100, 117, 112], [111, 118, 101, 114], [115, 113, 117, 97, 114, 101], [97, 33], [50, 42], [103, 111], [45, 105, 102], [59], [63], [114, 114, 114, 114, 114, 114, 114], [114, 116, 111, 101, 97, 110, 105], [119, 119, 119, 119, 119, 119], [113, 113, 113, 113, 113], [120]]).bind fun r2 =>
      some (r2.1, r2.2.1, r2.2.2.1, r2.2.2.2)
    else
      (spec_l01Below r1.2.1 r1.2.2.1 r1.2.2.2 9).bind fun r3 =>
      (spec_l02Name_l6 ([] : List (Int)) (addI .i64 1 r3.1) 0 r3.2.1 r3.2.2.1 r3.2.2.2).bind fun d4 =>
      some (strI d4.1, d4.2.1, d4.2.2.1, d4.2.2.2)) :=
  (lim_fun' _ _).trans (by kernel_rfl)
noncomputable def spec_l04Some (x1 : List (Int)) (x2 : Int) (x3 : Int) : Option (Int × (List UInt8) × Int × Bool × Int × (List (Int)) × Int × Int) := L.callee 55 (x1, x2, x3)
theorem spec_l04Some_eq (x1 : List (Int)) (x2 : Int) (x3 : Int) : spec_l04Some x1 x2 x3 =
    (spec_l01Below x1 x2 x3 8).bind fun r1 =>
    (bif decide (r1.1 = 0) then
      (spec_l04Int r1.2.1 r1.2.2.1 r1.2.2.2).bind fun r2 =>
      (spec_l01Once r2.2.1 r2.2.2.1 r2.2.2.2 3).bind fun r3 =>
      some (7, ([] : List UInt8), r2.1, r3.1, 0, r3.2.1, r3.2.2.1, r3.2.2.2)
    else
      (bif decide (r1.1 = 1) then
        (spec_l04Int r1.2.1 r1.2.2.1 r1.2.2.2).bind fun r4 =>
        (spec_l01Once r4.2.1 r4.2.2.1 r4.2.2.2 3).bind fun r5 =>
        some (8, ([] : List UInt8), r4.1, r5.1, 0, r5.2.1, r5.2.2.1, r5.2.2.2)
      else
        (bif decide (r1.1 = 2) then
          (spec_l01Pick r1.2.1 r1.2.2.1 r1.2.2.2 [[120], [97, 116], [113, 113, 113, 113], [116, 101, 110]]).bind fun r6 =>
          (spec_l04Int r6.2.1 r6.2.2.1 r6.2.2.2).bind fun r7 =>
          some (9, r6.1, r7.1, false, 0, r7.2.1, r7.2.2.1, r7.2.2.2)
        else
          (spec_l01Below r1.2.1 r1.2.2.1 r1.2.2.2 6).bind fun r8 =>
          (spec_l02Name r8.2.1 r8.2.2.1 r8.2.2.2).bind fun r9 =>
          some (addI .i64 1 r8.1, r9.1, 0, false, 0, r9.2.1, r9.2.2.1, r9.2.2.2)))) :=
  (lim_fun' _ _).trans (by kernel_rfl)
noncomputable def spec_l04Num (x1 : Int) (x2 : Bool) (x3 : Int) (x4 : Int) : Option ((List (Int))) := L.callee 61 (x1, x2, x3, x4)
theorem spec_l04Num_eq (x1 : Int) (x2 : Bool) (x3 : Int) (x4 : Int) : spec_l04Num x1 x2 x3 x4 =
    ((
      (bif x2 then
        some (x1, x3, x4, 16)
      else
        some (x1, x3, x4, 0)) : Option (Int × Int × Int × Int))).bind fun d1 =>
    (bif decide ((-67108864) ≤ d1.1) then
      (bif decide (d1.1 ≤ 67108863) then
        some [addI .u32 (addI .u32 (mulI .u32 (cvtI .u32 d1.1) 32) d1.2.2.2) d1.2.1]
      else
        some [addI .u32 d1.2.2.2 d1.2.2.1, cvtI .u32 d1.1])
    else
      some [addI .u32 d1.2.2.2 d1.2.2.1, cvtI .u32 d1.1]) :=
  (lim_fun' _ _).trans (by kernel_rfl)
noncomputable def spec_LetterOf (x1 : Int) : Option (Int) := L.callee 99 x1
noncomputable def spec_LetterOf_l3 (a1 : Int) (a2 : List UInt8) (a3 : Int) : Option ((Unit) ⊕ (Int)) := L.loop 99 3 (a1, a2, a3)
theorem spec_LetterOf_l3_eq (a1 : Int) (a2 : List UInt8) (a3 : Int) : spec_LetterOf_l3 a1 a2 a3 =
    (bif decide (a3 < len a2) then
      (Ev.nth a2 a3).bind fun b1 =>
      (bif decide (byteI b1 = a1) then
        some (.inr a3)
      else
        spec_LetterOf_l3 a1 a2 (addI .i64 a3 1))
    else
      some (.inl ())) :=
  (lim_round' _ _ _).trans (by kernel_rfl)
theorem spec_LetterOf_eq (x1 : Int) : spec_LetterOf x1 =
    spec_l02All.bind fun r1 =>
    (spec_LetterOf_l3 x1 r1 0).bind fun d2 =>
    Sum.elim (fun s3 =>
      some (-1)) (fun s4 =>
      some s4) d2 :=
  (lim_fun' _ _).trans (by kernel_rfl)
noncomputable def spec_NameOk (x1 : List UInt8) : Option (Bool) := L.callee 88 x1
noncomputable def spec_NameOk_l4 (a1 : List UInt8) (a2 : Int) : Option ((Unit) ⊕ (Bool)) := L.loop 88 4 (a1, a2)
theorem spec_NameOk_l4_eq (a1 : List UInt8) (a2 : Int) : spec_NameOk_l4 a1 a2 =
    (bif decide (a2 < len a1) then
      (Ev.nth a1 a2).bind fun b1 =>
      (spec_LetterOf (byteI b1)).bind fun r2 =>
      (bif decide (r2 < 1) then
        some (.inr false)
      else
        spec_NameOk_l4 a1 (addI .i64 a2 1))
    else
      some (.inl ())) :=
  (lim_round' _ _ _).trans (by kernel_rfl)
theorem spec_NameOk_eq (x1 : List UInt8) : spec_NameOk x1 =
    (spec_l01In (len x1) 1 24).bind fun r1 =>
    (bif !r1 then
      some false
    else
      (spec_NameOk_l4 x1 0).bind fun d2 =>
      Sum.elim (fun s3 =>
        some true) (fun s4 =>
        some s4) d2) :=
  (lim_fun' _ _).trans (by kernel_rfl)
noncomputable def spec_WidthOf (x1 : Int) : Option (Int) := L.callee 100 x1
theorem spec_WidthOf_eq (x1 : Int) : spec_WidthOf x1 =
    (spec_l01In x1 0 7).bind fun r1 =>
    (bif r1 then
      some 4
    else
      (spec_l01In x1 8 15).bind fun r2 =>
      (bif r2 then
        some 5
      else
        (spec_l01In x1 16 47).bind fun r3 =>
        (bif r3 then
          some 7
        else
          some 0))) :=
  (lim_fun' _ _).trans (by kernel_rfl)
noncomputable def spec_BitsOf (x1 : Int) : Option (Int) := L.callee 101 x1
theorem spec_BitsOf_eq (x1 : Int) : spec_BitsOf x1 =
    (spec_WidthOf x1).bind fun r1 =>
    (bif decide (r1 = 4) then
      some (cvtI .u32 x1)
    else
      (bif decide (r1 = 5) then
        some (cvtI .u32 (addI .i64 x1 8))
      else
        (bif decide (r1 = 7) then
          some (cvtI .u32 (addI .i64 x1 80))
        else
          some 0))) :=
  (lim_fun' _ _).trans (by kernel_rfl)
noncomputable def spec_l03One (x1 : List UInt8) : Option (Int × Int) := L.callee 89 x1
noncomputable def spec_l03One_l2 (a1 : List UInt8) (a2 : Int) (a3 : Int) (a4 : Int) : Option (Int × Int) := L.loop 89 2 (a1, a2, a3, a4)
theorem spec_l03One_l2_eq (a1 : List UInt8) (a2 : Int) (a3 : Int) (a4 : Int) : spec_l03One_l2 a1 a2 a3 a4 =
    (bif decide (a4 < len a1) then
      (Ev.nth a1 a4).bind fun b1 =>
      (spec_LetterOf (byteI b1)).bind fun r2 =>
      (spec_WidthOf r2).bind fun r3 =>
      (bif decide (a3 < r3) then
        some (a2, a4)
      else
        (spec_BitsOf r2).bind fun r4 =>
        (bif decide (0 ≤ cvtI .u64 (subI .i64 a3 r3)) then
          spec_l03One_l2 a1 (addI .i64 a2 (shlI .i64 (cvtI .i64 r4) (cvtI .u64 (subI .i64 a3 r3)))) (subI .i64 a3 r3) (addI .i64 a4 1)
        else
          none))
    else
      some (a2, a4)) :=
  (lim_round' _ _ _).trans (by kernel_rfl)
theorem spec_l03One_eq (x1 : List UInt8) : spec_l03One x1 =
    (spec_l03One_l2 x1 0 28 0).bind fun d1 =>
    some (cvtI .u32 d1.1, d1.2) :=
  (lim_fun' _ _).trans (by kernel_rfl)
noncomputable def spec_Pack (x1 : List UInt8) : Option ((List (Int))) := L.callee 73 x1
noncomputable def spec_Pack_l4 (a1 : List UInt8) (a2 : List (Int)) : Option ((List (Int))) := L.loop 73 4 (a1, a2)
theorem spec_Pack_l4_eq (a1 : List UInt8) (a2 : List (Int)) : spec_Pack_l4 a1 a2 =
    (bif !(decide (a1 = ([] : List UInt8))) then
      (spec_l03One a1).bind fun r1 =>
      (bif decide (a2.length + 1 < 35184372088832) then
        (bif (decide (0 ≤ r1.2)) && (decide (r1.2 ≤ len a1)) then
          spec_Pack_l4 (a1.drop r1.2.toNat) (a2 ++ [r1.1])
        else
          none)
      else
        none)
    else
      some a2) :=
  (lim_round' _ _ _).trans (by kernel_rfl)
theorem spec_Pack_eq (x1 : List UInt8) : spec_Pack x1 =
    (spec_NameOk x1).bind fun r1 =>
    (bif !r1 then
      some ([] : List (Int))
    else
      (spec_Pack_l4 x1 ([] : List (Int))).bind fun d2 =>
      some d2) :=
  (lim_fun' _ _).trans (by kernel_rfl)
noncomputable def spec_l04Word (x1 : Int) (x2 : List UInt8) : Option ((List (Int))) := L.callee 62 (x1, x2)
noncomputable def spec_l04Word_l3 (a1 : Int) (a2 : List (Int)) (a3 : Int) : Option ((List (Int))) := L.loop 62 3 (a1, a2, a3)
theorem spec_l04Word_l3_eq (a1 : Int) (a2 : List (Int)) (a3 : Int) : spec_l04Word_l3 a1 a2 a3 =
    (bif decide (a3 < len a2) then
      (bif (decide (0 ≤ a3)) && (decide (a3 < (a2.length : Int))) then
        (a2[a3.toNat]?).bind fun u1 =>
        (bif (decide (0 ≤ a3)) && (decide (a3 < (a2.length : Int))) then
          (a2[a3.toNat]?).bind fun u2 =>
          (bif decide (a3 = 0) then
            (bif (decide (0 ≤ a3)) && (decide (a3 < ((a2.set a3.toNat (mulI .u32 u1 16)).length : Int))) then
              ((a2.set a3.toNat (mulI .u32 u1 16))[a3.toNat]?).bind fun u3 =>
              (bif (decide (0 ≤ a3)) && (decide (a3 < ((a2.set a3.toNat (mulI .u32 u1 16)).length : Int))) then
                ((a2.set a3.toNat (mulI .u32 u1 16))[a3.toNat]?).bind fun u4 =>
                spec_l04Word_l3 a1 ((a2.set a3.toNat (mulI .u32 u1 16)).set a3.toNat (addI .u32 u3 a1)) (addI .i64 a3 1)
              else
                none)
            else
              none)
          else
            spec_l04Word_l3 a1 (a2.set a3.toNat (mulI .u32 u1 16)) (addI .i64 a3 1))
        else
          none)
      else
        none)
    else
      some a2) :=
  (lim_round' _ _ _).trans (by kernel_rfl)
theorem spec_l04Word_eq (x1 : Int) (x2 : List UInt8) : spec_l04Word x1 x2 =
    (spec_Pack x2).bind fun r1 =>
    (spec_l04Word_l3 x1 r1 0).bind fun d2 =>
    some d2 :=
  (lim_fun' _ _).trans (by kernel_rfl)
noncomputable def spec_l04Tag (x1 : Int) : Option (Int) := L.callee 63 x1
theorem spec_l04Tag_eq (x1 : Int) : spec_l04Tag x1 =
    (bif decide (x1 = 1) then
      some 1
    else
      (bif decide (x1 = 2) then
        some 3
      else
        (bif decide (x1 = 3) then
          some 4
        else
          (bif decide (x1 = 4) then
            some 9
          else
            (bif decide (x1 = 5) then
              some 10
            else
              (bif decide (x1 = 6) then
                some 11
              else
                some 0)))))) :=
  (lim_fun' _ _).trans (by kernel_rfl)
noncomputable def spec_CellsOf (x1 : Int) (x2 : List UInt8) (x3 : Int) (x4 : Bool) (x5 : Int) : Option ((List (Int))) := L.callee 44 (x1, x2, x3, x4, x5)
theorem spec_CellsOf_eq (x1 : Int) (x2 : List UInt8) (x3 : Int) (x4 : Bool) (x5 : Int) : spec_CellsOf x1 x2 x3 x4 x5 =
    ((
      (bif decide (x3 = 0) then
        (bif !x4 then
          some (decide (x5 = 0), x1, x2, x3, x4, x5)
        else
          some (false, x1, x2, x3, x4, x5))
      else
        some (false, x1, x2, x3, x4, x5)) : Option (Bool × Int × (List UInt8) × Int × Bool × Int))).bind fun d1 =>
    ((
      (bif decide (d1.2.1 = 0) then
        (bif decide (d1.2.2.1 = ([] : List UInt8)) then
          (bif decide (d1.2.2.2.1 = 0) then
            (bif !d1.2.2.2.2.1 then
              some (.inr [d1.2.2.2.2.2])
            else
              some (.inl ()))
          else
            some (.inl ()))
        else
          some (.inl ()))
      else
        (bif decide (d1.2.1 = 7) then
          (bif decide (d1.2.2.1 = ([] : List UInt8)) then
            (bif decide (d1.2.2.2.2.2 = 0) then
              (spec_l04Num d1.2.2.2.1 d1.2.2.2.2.1 8 2).bind fun r2 =>
              some (.inr r2)
            else
              some (.inl ()))
          else
            some (.inl ()))
        else
          (bif decide (d1.2.1 = 8) then
            (bif decide (d1.2.2.1 = ([] : List UInt8)) then
              (bif decide (d1.2.2.2.2.2 = 0) then
                (spec_l04Num d1.2.2.2.1 d1.2.2.2.2.1 6 5).bind fun r3 =>
                some (.inr r3)
              else
                some (.inl ()))
            else
              some (.inl ()))
          else
            (bif decide (d1.2.1 = 9) then
              (spec_l04Word 12 d1.2.2.1).bind fun r4 =>
              (bif decide (len r4 = 1) then
                (bif !d1.2.2.2.2.1 then
                  (bif decide (d1.2.2.2.2.2 = 0) then
                    (bif decide (r4.length + 1 < 35184372088832) then
                      some (.inr (r4 ++ [cvtI .u32 d1.2.2.2.1]))
                    else
                      none)
                  else
                    some (.inl ()))
                else
                  some (.inl ()))
              else
                some (.inl ()))
            else
              (spec_l04Tag d1.2.1).bind fun r5 =>
              (bif decide (0 < r5) then
                (bif d1.1 then
                  (spec_l04Word r5 d1.2.2.1).bind fun r6 =>
                  some (.inr r6)
                else
                  some (.inl ()))
              else
                some (.inl ())))))) : Option ((Unit) ⊕ ((List (Int)))))).bind fun d7 =>
    Sum.elim (fun s8 =>
      some ([] : List (Int))) (fun s9 =>
      some s9) d7 :=
  (lim_fun' _ _).trans (by kernel_rfl)
noncomputable def spec_l01Word (x1 : List (Int)) (x2 : Int) (x3 : Int) : Option (Int × (List (Int)) × Int × Int) := L.callee 56 (x1, x2, x3)
theorem spec_l01Word_eq (x1 : List (Int)) (x2 : Int) (x3 : Int) : spec_l01Word x1 x2 x3 =
    (spec_l01Below x1 x2 x3 4).bind fun r1 =>
    (bif decide (r1.1 = 0) then
      (spec_l01PickInt r1.2.1 r1.2.2.1 r1.2.2.2 [0, 1, 2, 31, 32, 255, 256, 2147483647, 2147483648, 4294967295, 4294967294]).bind fun r2 =>
      some (cvtI .u32 r2.1, r2.2.1, r2.2.2.1, r2.2.2.2)
    else
      (bif decide (r1.1 = 1) then
        (spec_l01Below r1.2.1 r1.2.2.1 r1.2.2.2 300).bind fun r3 =>
        some (cvtI .u32 r3.1, r3.2.1, r3.2.2.1, r3.2.2.2)
      else
        (spec_l01Below r1.2.1 r1.2.2.1 r1.2.2.2 65536).bind fun r4 =>
        (spec_l01Below r4.2.1 r4.2.2.1 r4.2.2.2 65536).bind fun r5 =>
        some (addI .u32 (mulI .u32 (cvtI .u32 r4.1) 65536) (cvtI .u32 r5.1), r5.2.1, r5.2.2.1, r5.2.2.2))) :=
  (lim_fun' _ _).trans (by kernel_rfl)
noncomputable def spec_l04Cells (x1 : List (Int)) (x2 : Int) (x3 : Int) : Option ((List (Int)) × (List (Int)) × Int × Int) := L.callee 54 (x1, x2, x3)
noncomputable def spec_l04Cells_l4 (a1 : List (Int)) (a2 : Int) (a3 : Int) (a4 : List (Int)) (a5 : Int) (a6 : Int) : Option ((List (Int)) × (List (Int)) × Int × Int) := L.loop 54 4 (a1, a2, a3, a4, a5, a6)
theorem spec_l04Cells_l4_eq (a1 : List (Int)) (a2 : Int) (a3 : Int) (a4 : List (Int)) (a5 : Int) (a6 : Int) : spec_l04Cells_l4 a1 a2 a3 a4 a5 a6 =
    (bif decide (a3 < a2) then
      (spec_l04Some a4 a5 a6).bind fun r1 =>
      (spec_CellsOf r1.1 r1.2.1 r1.2.2.1 r1.2.2.2.1 r1.2.2.2.2.1).bind fun r2 =>
      (bif decide (a1.length + r2.length < 35184372088832) then
        (spec_l01Below r1.2.2.2.2.2.1 r1.2.2.2.2.2.2.1 r1.2.2.2.2.2.2.2 9).bind fun r3 =>
        ((
          (bif decide (r3.1 = 0) then
            (spec_l01Word r3.2.1 r3.2.2.1 r3.2.2.2).bind fun r4 =>
            (bif decide ((a1 ++ r2).length + 1 < 35184372088832) then
              some ((a1 ++ r2) ++ [r4.1], a2, a3, r4.2.1, r4.2.2.1, r4.2.2.2)
            else
              none)
          else
            (bif decide (r3.1 = 1) then
              (bif decide ((a1 ++ r2).length + 1 < 35184372088832) then
                some ((a1 ++ r2) ++ [0], a2, a3, r3.2.1, r3.2.2.1, r3.2.2.2)
              else
                none)
            else
              (bif decide (r3.1 = 2) then
                (spec_l01Below r3.2.1 r3.2.2.1 r3.2.2.2 4096).bind fun r5 =>
                (bif decide ((a1 ++ r2).length + 1 < 35184372088832) then
                  some ((a1 ++ r2) ++ [mulI .u32 (cvtI .u32 r5.1) 16], a2, a3, r5.2.1, r5.2.2.1, r5.2.2.2)
                else
                  none)
              else
                (bif decide (r3.1 = 3) then
                  (spec_l01PickInt r3.2.1 r3.2.2.1 r3.2.2.2 [2, 18, 5, 34, 12]).bind fun r6 =>
                  (bif decide ((a1 ++ r2).length + 1 < 35184372088832) then
                    some ((a1 ++ r2) ++ [cvtI .u32 r6.1], a2, a3, r6.2.1, r6.2.2.1, r6.2.2.2)
                  else
                    none)
                else
                  some (a1 ++ r2, a2, a3, r3.2.1, r3.2.2.1, r3.2.2.2))))) : Option ((List (Int)) × Int × Int × (List (Int)) × Int × Int))).bind fun d7 =>
        spec_l04Cells_l4 d7.1 d7.2.1 (addI .i64 d7.2.2.1 1) d7.2.2.2.1 d7.2.2.2.2.1 d7.2.2.2.2.2
      else
        none)
    else
      some (a1, a4, a5, a6)) :=
  (lim_round' _ _ _).trans (by kernel_rfl)
theorem spec_l04Cells_eq (x1 : List (Int)) (x2 : Int) (x3 : Int) : spec_l04Cells x1 x2 x3 =
    (spec_l01Below x1 x2 x3 14).bind fun r1 =>
    (spec_l04Cells_l4 ([] : List (Int)) r1.1 0 r1.2.1 r1.2.2.1 r1.2.2.2).bind fun d2 =>
    (bif decide (64 < len d2.1) then
      (spec_l01Once d2.2.1 d2.2.2.1 d2.2.2.2 6).bind fun r3 =>
      (bif !r3.1 then
        (bif decide (64 ≤ (d2.1.length : Int)) then
          some ((d2.1.take 64).drop 0, r3.2.1, r3.2.2.1, r3.2.2.2)
        else
          none)
      else
        some (d2.1, r3.2.1, r3.2.2.1, r3.2.2.2))
    else
      some (d2.1, d2.2.1, d2.2.2.1, d2.2.2.2)) :=
  (lim_fun' _ _).trans (by kernel_rfl)
noncomputable def spec_l04Kind (x1 : Int) : Option (Int) := L.callee 74 x1
noncomputable def spec_l04Kind_l2 (a1 : Int) (a2 : Int) : Option ((Unit) ⊕ (Int)) := L.loop 74 2 (a1, a2)
theorem spec_l04Kind_l2_eq (a1 : Int) (a2 : Int) : spec_l04Kind_l2 a1 a2 =
    (bif decide (a2 ≤ 6) then
      (spec_l04Tag a2).bind fun r1 =>
      (bif decide (r1 = a1) then
        some (.inr a2)
      else
        spec_l04Kind_l2 a1 (addI .i64 a2 1))
    else
      some (.inl ())) :=
  (lim_round' _ _ _).trans (by kernel_rfl)
theorem spec_l04Kind_eq (x1 : Int) : spec_l04Kind x1 =
    (spec_l04Kind_l2 x1 1).bind fun d1 =>
    Sum.elim (fun s2 =>
      some (-1)) (fun s3 =>
      some s3) d1 :=
  (lim_fun' _ _).trans (by kernel_rfl)
noncomputable def spec_Decode (x1 : Int) (x2 : Int) : Option (Int × Int) := L.callee 91 (x1, x2)
noncomputable def spec_Decode_l4 (a1 : Int) (a2 : Int) (a3 : Int) : Option ((Unit) ⊕ (Int × Int)) := L.loop 91 4 (a1, a2, a3)
theorem spec_Decode_l4_eq (a1 : Int) (a2 : Int) (a3 : Int) : spec_Decode_l4 a1 a2 a3 =
    (bif decide (a3 < 48) then
      (spec_WidthOf a3).bind fun r1 =>
      (bif decide (a2 < r1) then
        spec_Decode_l4 a1 a2 (addI .i64 a3 1)
      else
        (bif decide (0 ≤ cvtI .u64 a2) then
          (bif decide (0 ≤ cvtI .u64 (subI .i64 a2 r1)) then
            (spec_BitsOf a3).bind fun r2 =>
            (bif decide (shrI .i64 (andI .i64 (cvtI .i64 a1) (subI .i64 (shlI .i64 1 (cvtI .u64 a2)) 1)) (cvtI .u64 (subI .i64 a2 r1)) = cvtI .i64 r2) then
              some (.inr (a3, r1))
            else
              spec_Decode_l4 a1 a2 (addI .i64 a3 1))
          else
            none)
        else
          none))
    else
      some (.inl ())) :=
  (lim_round' _ _ _).trans (by kernel_rfl)
theorem spec_Decode_eq (x1 : Int) (x2 : Int) : spec_Decode x1 x2 =
    (spec_l01In x2 1 32).bind fun r1 =>
    (bif !r1 then
      some ((-1), 0)
    else
      (spec_Decode_l4 x1 x2 0).bind fun d2 =>
      Sum.elim (fun s3 =>
        some ((-1), 0)) (fun s4 =>
        some (s4.1, s4.2)) d2) :=
  (lim_fun' _ _).trans (by kernel_rfl)
noncomputable def spec_UnpackOne (x1 : Int) : Option ((List UInt8)) := L.callee 78 x1
noncomputable def spec_UnpackOne_l5 (a1 : Int) (a2 : List (Int)) (a3 : Int) : Option ((List (Int))) := L.loop 78 5 (a1, a2, a3)
theorem spec_UnpackOne_l5_eq (a1 : Int) (a2 : List (Int)) (a3 : Int) : spec_UnpackOne_l5 a1 a2 a3 =
    (bif decide (0 < a3) then
      (bif decide (0 ≤ cvtI .u64 a3) then
        (bif !(decide (andI .i64 (cvtI .i64 a1) (subI .i64 (shlI .i64 1 (cvtI .u64 a3)) 1) = 0)) then
          (spec_Decode a1 a3).bind fun r1 =>
          (bif decide (r1.1 < 1) then
            some a2
          else
            (spec_LetterAt r1.1).bind fun r2 =>
            (bif decide (a2.length + 1 < 140737488355328) then
              spec_UnpackOne_l5 a1 (a2 ++ [r2]) (subI .i64 a3 r1.2)
            else
              none))
        else
          some a2)
      else
        none)
    else
      some a2) :=
  (lim_round' _ _ _).trans (by kernel_rfl)
theorem spec_UnpackOne_eq (x1 : Int) : spec_UnpackOne x1 =
    (bif decide (268435456 ≤ cvtI .i64 x1) then
      some ([] : List UInt8)
    else
      (spec_UnpackOne_l5 x1 ([] : List (Int)) 28).bind fun d1 =>
      some (strI d1)) :=
  (lim_fun' _ _).trans (by kernel_rfl)
noncomputable def spec_l03Same (x1 : List (Int)) (x2 : List (Int)) : Option (Bool) := L.callee 102 (x1, x2)
noncomputable def spec_l03Same_l4 (a1 : List (Int)) (a2 : List (Int)) (a3 : Int) : Option ((Unit) ⊕ (Bool)) := L.loop 102 4 (a1, a2, a3)
theorem spec_l03Same_l4_eq (a1 : List (Int)) (a2 : List (Int)) (a3 : Int) : spec_l03Same_l4 a1 a2 a3 =
    (bif decide (a3 < len a1) then
      (Ev.nth a1 a3).bind fun u1 =>
      (Ev.nth a2 a3).bind fun u2 =>
      (bif !(decide (u1 = u2)) then
        some (.inr false)
      else
        spec_l03Same_l4 a1 a2 (addI .i64 a3 1))
    else
      some (.inl ())) :=
  (lim_round' _ _ _).trans (by kernel_rfl)
theorem spec_l03Same_eq (x1 : List (Int)) (x2 : List (Int)) : spec_l03Same x1 x2 =
    (bif !(decide (len x1 = len x2)) then
      some false
    else
      (spec_l03Same_l4 x1 x2 0).bind fun d1 =>
      Sum.elim (fun s2 =>
        some true) (fun s3 =>
        some s3) d1) :=
  (lim_fun' _ _).trans (by kernel_rfl)
noncomputable def spec_Unpack (x1 : List (Int)) : Option ((List UInt8) × Bool) := L.callee 90 x1
noncomputable def spec_Unpack_l5 (a1 : List (Int)) (a2 : List UInt8) (a3 : Int) : Option ((List (Int)) × (List UInt8)) := L.loop 90 5 (a1, a2, a3)
theorem spec_Unpack_l5_eq (a1 : List (Int)) (a2 : List UInt8) (a3 : Int) : spec_Unpack_l5 a1 a2 a3 =
    (bif decide (a3 < len a1) then
      (Ev.nth a1 a3).bind fun u1 =>
      (spec_UnpackOne u1).bind fun r2 =>
      (bif decide (len a2 + len r2 ≤ 9223372036854775807) then
        spec_Unpack_l5 a1 (a2 ++ r2) (addI .i64 a3 1)
      else
        none)
    else
      some (a1, a2)) :=
  (lim_round' _ _ _).trans (by kernel_rfl)
theorem spec_Unpack_eq (x1 : List (Int)) : spec_Unpack x1 =
    (bif decide (24 < len x1) then
      some (([] : List UInt8), false)
    else
      (spec_Unpack_l5 x1 ([] : List UInt8) 0).bind fun d1 =>
      (spec_NameOk d1.2).bind fun r2 =>
      (bif !r2 then
        some (([] : List UInt8), false)
      else
        (spec_Pack d1.2).bind fun r3 =>
        (spec_l03Same r3 d1.1).bind fun r4 =>
        (bif !r4 then
          some (([] : List UInt8), false)
        else
          some (d1.2, true)))) :=
  (lim_fun' _ _).trans (by kernel_rfl)
noncomputable def spec_l04Name (x1 : List (Int)) (x2 : Int) (x3 : Int) : Option (Int × (List UInt8) × Int × Bool × Int × Int) := L.callee 75 (x1, x2, x3)
noncomputable def spec_l04Name_l3 (a1 : List (Int)) (a2 : Int) (a3 : List (Int)) (a4 : Int) (a5 : Int) (a6 : List UInt8) (a7 : Int) (a8 : Bool) (a9 : Int) : Option (Int × (List (Int)) × Int × (List UInt8) × Int × Bool × Int) := L.loop 75 3 (a1, a2, a3, a4, a5, a6, a7, a8, a9)
theorem spec_l04Name_l3_eq (a1 : List (Int)) (a2 : Int) (a3 : List (Int)) (a4 : Int) (a5 : Int) (a6 : List UInt8) (a7 : Int) (a8 : Bool) (a9 : Int) : spec_l04Name_l3 a1 a2 a3 a4 a5 a6 a7 a8 a9 =
    (bif decide (a4 < len a1) then
      (Ev.nth a1 a4).bind fun u1 =>
      (bif decide (remI u1 16 = 0) then
        (Ev.nth a1 a4).bind fun u2 =>
        (bif !(decide (u2 = 0)) then
          (Ev.nth a1 a4).bind fun u3 =>
          (bif decide (a3.length + 1 < 35184372088832) then
            spec_l04Name_l3 a1 a2 (a3 ++ [quoI .u32 u3 16]) (addI .i64 a4 1) a5 a6 a7 a8 a9
          else
            none)
        else
          some (a2, a3, a5, a6, a7, a8, a9))
      else
        some (a2, a3, a5, a6, a7, a8, a9))
    else
      some (a2, a3, a5, a6, a7, a8, a9)) :=
  (lim_round' _ _ _).trans (by kernel_rfl)
theorem spec_l04Name_eq (x1 : List (Int)) (x2 : Int) (x3 : Int) : spec_l04Name x1 x2 x3 =
    (Ev.nth x1 x2).bind fun u1 =>
    (spec_l04Name_l3 x1 x3 [quoI .u32 u1 16] (addI .i64 x2 1) 0 ([] : List UInt8) 0 false 0).bind fun d2 =>
    (spec_Unpack d2.2.1).bind fun r3 =>
    (bif !r3.2 then
      some (0, ([] : List UInt8), 0, false, 0, 0)
    else
      some (d2.1, r3.1, 0, false, 0, len d2.2.1)) :=
  (lim_fun' _ _).trans (by kernel_rfl)
noncomputable def spec_l04Number (x1 : List (Int)) (x2 : Int) : Option (Int × (List UInt8) × Int × Bool × Int × Int) := L.callee 76 (x1, x2)
theorem spec_l04Number_eq (x1 : List (Int)) (x2 : Int) : spec_l04Number x1 x2 =
    (Ev.nth x1 x2).bind fun u1 =>
    ((
      (bif decide (remI u1 16 = 6) then
        some (x1, x2, u1, remI u1 16, true, 0, ([] : List UInt8), 0, false, 0, 7, ([] : List UInt8), 0, !(decide (andI .u32 u1 16 = 0)), 0)
      else
        some (x1, x2, u1, remI u1 16, decide (remI u1 16 = 5), 0, ([] : List UInt8), 0, false, 0, 7, ([] : List UInt8), 0, !(decide (andI .u32 u1 16 = 0)), 0)) : Option ((List (Int)) × Int × Int × Int × Bool × Int × (List UInt8) × Int × Bool × Int × Int × (List UInt8) × Int × Bool × Int))).bind fun d2 =>
    ((
      (bif d2.2.2.2.2.1 then
        some (d2.1, d2.2.1, d2.2.2.1, d2.2.2.2.1, d2.2.2.2.2.2.1, d2.2.2.2.2.2.2.1, d2.2.2.2.2.2.2.2.1, d2.2.2.2.2.2.2.2.2.1, d2.2.2.2.2.2.2.2.2.2.1, 8, d2.2.2.2.2.2.2.2.2.2.2.2.1, d2.2.2.2.2.2.2.2.2.2.2.2.2.1, d2.2.2.2.2.2.2.2.2.2.2.2.2.2.1, d2.2.2.2.2.2.2.2.2.2.2.2.2.2.2)
      else
        some (d2.1, d2.2.1, d2.2.2.1, d2.2.2.2.1, d2.2.2.2.2.2.1, d2.2.2.2.2.2.2.1, d2.2.2.2.2.2.2.2.1, d2.2.2.2.2.2.2.2.2.1, d2.2.2.2.2.2.2.2.2.2.1, d2.2.2.2.2.2.2.2.2.2.2.1, d2.2.2.2.2.2.2.2.2.2.2.2.1, d2.2.2.2.2.2.2.2.2.2.2.2.2.1, d2.2.2.2.2.2.2.2.2.2.2.2.2.2.1, d2.2.2.2.2.2.2.2.2.2.2.2.2.2.2)) : Option ((List (Int)) × Int × Int × Int × Int × (List UInt8) × Int × Bool × Int × Int × (List UInt8) × Int × Bool × Int))).bind fun d3 =>
    (bif decide (d3.2.2.2.1 = 8) then
      some (d3.2.2.2.2.2.2.2.2.2.1, d3.2.2.2.2.2.2.2.2.2.2.1, shrI .i32 (cvtI .i32 d3.2.2.1) 5, d3.2.2.2.2.2.2.2.2.2.2.2.2.1, d3.2.2.2.2.2.2.2.2.2.2.2.2.2, 1)
    else
      (bif decide (d3.2.2.2.1 = 6) then
        some (d3.2.2.2.2.2.2.2.2.2.1, d3.2.2.2.2.2.2.2.2.2.2.1, shrI .i32 (cvtI .i32 d3.2.2.1) 5, d3.2.2.2.2.2.2.2.2.2.2.2.2.1, d3.2.2.2.2.2.2.2.2.2.2.2.2.2, 1)
      else
        (bif decide (len d3.1 ≤ addI .i64 d3.2.1 1) then
          some (0, ([] : List UInt8), 0, false, 0, 0)
        else
          (bif !(decide (quoI .u32 d3.2.2.1 32 = 0)) then
            some (0, ([] : List UInt8), 0, false, 0, 0)
          else
            (Ev.nth d3.1 (addI .i64 d3.2.1 1)).bind fun u4 =>
            (spec_CellsOf d3.2.2.2.2.2.2.2.2.2.1 d3.2.2.2.2.2.2.2.2.2.2.1 (cvtI .i32 u4) d3.2.2.2.2.2.2.2.2.2.2.2.2.1 d3.2.2.2.2.2.2.2.2.2.2.2.2.2).bind fun r5 =>
            some (d3.2.2.2.2.2.2.2.2.2.1, d3.2.2.2.2.2.2.2.2.2.2.1, cvtI .i32 u4, d3.2.2.2.2.2.2.2.2.2.2.2.2.1, d3.2.2.2.2.2.2.2.2.2.2.2.2.2, mulI .i64 (quoI .i64 (len r5) 2) 2))))) :=
  (lim_fun' _ _).trans (by kernel_rfl)
noncomputable def spec_FieldOk (x1 : Int) : Option (Bool) := L.callee 77 x1
theorem spec_FieldOk_eq (x1 : Int) : spec_FieldOk x1 =
    (spec_UnpackOne x1).bind fun r1 =>
    (spec_Pack r1).bind fun r2 =>
    (bif decide (len r2 = 1) then
      (bif decide (0 < (r2.length : Int)) then
        (r2[0]?).bind fun u3 =>
        some (decide (u3 = x1))
      else
        none)
    else
      some false) :=
  (lim_fun' _ _).trans (by kernel_rfl)
noncomputable def spec_l04Item (x1 : List (Int)) (x2 : Int) : Option (Int × (List UInt8) × Int × Bool × Int × Int) := L.callee 64 (x1, x2)
theorem spec_l04Item_eq (x1 : List (Int)) (x2 : Int) : spec_l04Item x1 x2 =
    (Ev.nth x1 x2).bind fun u1 =>
    (spec_l04Kind (remI u1 16)).bind fun r2 =>
    ((
      (bif decide (0 ≤ r2) then
        (spec_l04Kind (remI u1 16)).bind fun r3 =>
        (spec_l04Name x1 x2 r3).bind fun r4 =>
        some (x1, x2, r4.2.2.2.2.2, 0, ([] : List UInt8), 0, false, 0, r4.1, r4.2.1, r4.2.2.1, r4.2.2.2.1, r4.2.2.2.2.1)
      else
        (bif decide (remI u1 16 = 8) then
          (spec_l04Number x1 x2).bind fun r5 =>
          some (x1, x2, r5.2.2.2.2.2, 0, ([] : List UInt8), 0, false, 0, r5.1, r5.2.1, r5.2.2.1, r5.2.2.2.1, r5.2.2.2.2.1)
        else
          (bif decide (remI u1 16 = 6) then
            (spec_l04Number x1 x2).bind fun r6 =>
            some (x1, x2, r6.2.2.2.2.2, 0, ([] : List UInt8), 0, false, 0, r6.1, r6.2.1, r6.2.2.1, r6.2.2.2.1, r6.2.2.2.2.1)
          else
            (bif decide (remI u1 16 = 2) then
              (spec_l04Number x1 x2).bind fun r7 =>
              some (x1, x2, r7.2.2.2.2.2, 0, ([] : List UInt8), 0, false, 0, r7.1, r7.2.1, r7.2.2.1, r7.2.2.2.1, r7.2.2.2.2.1)
            else
              (bif decide (remI u1 16 = 5) then
                (spec_l04Number x1 x2).bind fun r8 =>
                some (x1, x2, r8.2.2.2.2.2, 0, ([] : List UInt8), 0, false, 0, r8.1, r8.2.1, r8.2.2.1, r8.2.2.2.1, r8.2.2.2.2.1)
              else
                (bif decide (remI u1 16 = 12) then
                  (bif decide (addI .i64 x2 1 < len x1) then
                    (Ev.nth x1 x2).bind fun u9 =>
                    (spec_FieldOk (quoI .u32 u9 16)).bind fun r10 =>
                    (bif r10 then
                      (Ev.nth x1 x2).bind fun u11 =>
                      (spec_UnpackOne (quoI .u32 u11 16)).bind fun r12 =>
                      (Ev.nth x1 (addI .i64 x2 1)).bind fun u13 =>
                      some (x1, x2, 2, 0, ([] : List UInt8), 0, false, 0, 9, r12, cvtI .i32 u13, false, 0)
                    else
                      some (x1, x2, 0, 0, ([] : List UInt8), 0, false, 0, 0, ([] : List UInt8), 0, false, 0))
                  else
                    some (x1, x2, 0, 0, ([] : List UInt8), 0, false, 0, 0, ([] : List UInt8), 0, false, 0))
                else
                  some (x1, x2, 0, 0, ([] : List UInt8), 0, false, 0, 0, ([] : List UInt8), 0, false, 0))))))) : Option ((List (Int)) × Int × Int × Int × (List UInt8) × Int × Bool × Int × Int × (List UInt8) × Int × Bool × Int))).bind fun d14 =>
    (bif decide (d14.2.2.1 = 0) then
      (Ev.nth d14.1 d14.2.1).bind fun u15 =>
      some (0, ([] : List UInt8), 0, false, u15, 1)
    else
      some (d14.2.2.2.2.2.2.2.2.1, d14.2.2.2.2.2.2.2.2.2.1, d14.2.2.2.2.2.2.2.2.2.2.1, d14.2.2.2.2.2.2.2.2.2.2.2.1, d14.2.2.2.2.2.2.2.2.2.2.2.2, d14.2.2.1)) :=
  (lim_fun' _ _).trans (by kernel_rfl)
noncomputable def spec_ParseCells (x1 : List (Int)) : Option ((List (Int × (List UInt8) × Int × Bool × Int))) := L.callee 47 x1
noncomputable def spec_ParseCells_l5 (a1 : List (Int)) (a2 : List (Int × (List UInt8) × Int × Bool × Int)) (a3 : Int) : Option ((List (Int × (List UInt8) × Int × Bool × Int))) := L.loop 47 5 (a1, a2, a3)
noncomputable def spec_ParseCells_l9 (a1 : List (Int × (List UInt8) × Int × Bool × Int)) : Option ((List (Int × (List UInt8) × Int × Bool × Int))) := L.loop 47 9 a1
theorem spec_ParseCells_l5_eq (a1 : List (Int)) (a2 : List (Int × (List UInt8) × Int × Bool × Int)) (a3 : Int) : spec_ParseCells_l5 a1 a2 a3 =
    (bif decide (a3 < len a1) then
      (spec_l04Item a1 a3).bind fun r1 =>
      (bif decide (a2.length + 1 < 3518437208883) then
        spec_ParseCells_l5 a1 (a2 ++ [(r1.1, r1.2.1, r1.2.2.1, r1.2.2.2.1, r1.2.2.2.2.1)]) (addI .i64 a3 r1.2.2.2.2.2)
      else
        none)
    else
      some a2) :=
  (lim_round' _ _ _).trans (by kernel_rfl)
theorem spec_ParseCells_l9_eq (a1 : List (Int × (List UInt8) × Int × Bool × Int)) : spec_ParseCells_l9 a1 =
    (bif decide (0 < len a1) then
      (bif (decide (0 ≤ subI .i64 (len a1) 1)) && (decide (subI .i64 (len a1) 1 < (a1.length : Int))) then
        (a1[((subI .i64 (len a1) 1).toNat)]?).bind fun u1 =>
        (bif (decide (u1.1 = 0)) && ((decide (u1.2.1 = ([] : List UInt8))) && ((decide (u1.2.2.1 = 0)) && ((u1.2.2.2.1 == false) && (decide (u1.2.2.2.2 = 0))))) then
          (bif (decide (0 ≤ subI .i64 (len a1) 1)) && (decide (subI .i64 (len a1) 1 ≤ (a1.length : Int))) then
            spec_ParseCells_l9 ((a1.take (0 + ((subI .i64 (len a1) 1).toNat))).drop 0)
          else
            none)
        else
          some a1)
      else
        none)
    else
      some a1) :=
  (lim_round' _ _ _).trans (by kernel_rfl)
theorem spec_ParseCells_eq (x1 : List (Int)) : spec_ParseCells x1 =
    (bif decide (64 < len x1) then
      some ([] : List (Int × (List UInt8) × Int × Bool × Int))
    else
      (spec_ParseCells_l5 x1 ([] : List (Int × (List UInt8) × Int × Bool × Int)) 0).bind fun d1 =>
      (spec_ParseCells_l9 d1).bind fun d2 =>
      some d2) :=
  (lim_fun' _ _).trans (by kernel_rfl)
noncomputable def spec_l07Make (x1 : List (Int)) (x2 : Int) (x3 : Int) : Option ((List (Int × (List UInt8) × Int × Bool × Int)) × (List (Int × (List UInt8) × Int × Bool × Int)) × (List (Int × (List UInt8) × Int × Bool × Int)) × (List (Int)) × Int × Int) := L.callee 37 (x1, x2, x3)
noncomputable def spec_l07Make_l11 (a1 : Int) (a2 : Int) (a3 : List (Int)) (a4 : Int) (a5 : Int) (a6 : List (Int × (List UInt8) × Int × Bool × Int)) (a7 : List (Int × (List UInt8) × Int × Bool × Int)) (a8 : List (Int × (List UInt8) × Int × Bool × Int)) (a9 : List (Int × (List UInt8) × Int × Bool × Int)) (a10 : List (Int × (List UInt8) × Int × Bool × Int)) (a11 : List (Int × (List UInt8) × Int × Bool × Int)) : Option ((List (Int)) × Int × Int × (List (Int × (List UInt8) × Int × Bool × Int)) × (List (Int × (List UInt8) × Int × Bool × Int)) × (List (Int × (List UInt8) × Int × Bool × Int)) × (List (Int × (List UInt8) × Int × Bool × Int)) × (List (Int × (List UInt8) × Int × Bool × Int)) × (List (Int × (List UInt8) × Int × Bool × Int))) := L.loop 37 11 (a1, a2, a3, a4, a5, a6, a7, a8, a9, a10, a11)
theorem spec_l07Make_l11_eq (a1 : Int) (a2 : Int) (a3 : List (Int)) (a4 : Int) (a5 : Int) (a6 : List (Int × (List UInt8) × Int × Bool × Int)) (a7 : List (Int × (List UInt8) × Int × Bool × Int)) (a8 : List (Int × (List UInt8) × Int × Bool × Int)) (a9 : List (Int × (List UInt8) × Int × Bool × Int)) (a10 : List (Int × (List UInt8) × Int × Bool × Int)) (a11 : List (Int × (List UInt8) × Int × Bool × Int)) : spec_l07Make_l11 a1 a2 a3 a4 a5 a6 a7 a8 a9 a10 a11 =
    (bif decide (a2 < a1) then
      (spec_l04Some a3 a4 a5).bind fun r1 =>
      (bif decide (a11.length + 1 < 3518437208883) then
        spec_l07Make_l11 a1 (addI .i64 a2 1) r1.2.2.2.2.2.1 r1.2.2.2.2.2.2.1 r1.2.2.2.2.2.2.2 a6 a7 a8 a9 a10 (a11 ++ [(r1.1, r1.2.1, r1.2.2.1, r1.2.2.2.1, r1.2.2.2.2.1)])
      else
        none)
    else
      some (a3, a4, a5, a6, a7, a8, a9, a10, a11)) :=
  (lim_round' _ _ _).trans (by kernel_rfl)
theorem spec_l07Make_eq (x1 : List (Int)) (x2 : Int) (x3 : Int) : spec_l07Make x1 x2 x3 =
    (spec_l04Cells x1 x2 x3).bind fun r1 =>
    ((
      (bif decide (64 < len r1.1) then
        (bif decide (64 ≤ (r1.1.length : Int)) then
          some ((r1.1.take 64).drop 0, r1.2.1, r1.2.2.1, r1.2.2.2, ([] : List (Int × (List UInt8) × Int × Bool × Int)), ([] : List (Int × (List UInt8) × Int × Bool × Int)), ([] : List (Int × (List UInt8) × Int × Bool × Int)))
        else
          none)
      else
        some (r1.1, r1.2.1, r1.2.2.1, r1.2.2.2, ([] : List (Int × (List UInt8) × Int × Bool × Int)), ([] : List (Int × (List UInt8) × Int × Bool × Int)), ([] : List (Int × (List UInt8) × Int × Bool × Int)))) : Option ((List (Int)) × (List (Int)) × Int × Int × (List (Int × (List UInt8) × Int × Bool × Int)) × (List (Int × (List UInt8) × Int × Bool × Int)) × (List (Int × (List UInt8) × Int × Bool × Int))))).bind fun d2 =>
    (spec_ParseCells d2.1).bind fun r3 =>
    (spec_l01Below d2.2.1 d2.2.2.1 d2.2.2.2.1 (addI .i64 (len r3) 1)).bind fun r4 =>
    (bif (decide (0 ≤ r4.1)) && (decide (r4.1 ≤ (r3.length : Int))) then
      (bif decide (0 + ((r3.take (0 + r4.1.toNat)).drop 0).length < 3518437208883) then
        (bif (decide (0 ≤ r4.1)) && (decide (r4.1 ≤ (r3.length : Int))) then
          (bif decide (0 + ((r3.take (0 + (r3.length : Int).toNat)).drop (0 + r4.1.toNat)).length < 3518437208883) then
            (spec_l01Below r4.2.1 r4.2.2.1 r4.2.2.2 4).bind fun r5 =>
            (spec_l01Once r5.2.1 r5.2.2.1 r5.2.2.2 9).bind fun r6 =>
            (bif r6.1 then
              (spec_l01Below r6.2.1 r6.2.2.1 r6.2.2.2 3).bind fun r7 =>
              (spec_l07Make_l11 (addI .i64 18 r7.1) 0 r7.2.1 r7.2.2.1 r7.2.2.2 d2.2.2.2.2.1 d2.2.2.2.2.2.1 d2.2.2.2.2.2.2 ((r3.take (0 + r4.1.toNat)).drop 0) ((r3.take (0 + (r3.length : Int).toNat)).drop (0 + r4.1.toNat)) ([] : List (Int × (List UInt8) × Int × Bool × Int))).bind fun d8 =>
              some (d8.2.2.2.2.2.2.1, d8.2.2.2.2.2.2.2.1, d8.2.2.2.2.2.2.2.2, d8.1, d8.2.1, d8.2.2.1)
            else
              (spec_l07Make_l11 r5.1 0 r6.2.1 r6.2.2.1 r6.2.2.2 d2.2.2.2.2.1 d2.2.2.2.2.2.1 d2.2.2.2.2.2.2 ((r3.take (0 + r4.1.toNat)).drop 0) ((r3.take (0 + (r3.length : Int).toNat)).drop (0 + r4.1.toNat)) ([] : List (Int × (List UInt8) × Int × Bool × Int))).bind fun d9 =>
              some (d9.2.2.2.2.2.2.1, d9.2.2.2.2.2.2.2.1, d9.2.2.2.2.2.2.2.2, d9.1, d9.2.1, d9.2.2.1))
          else
            none)
        else
          none)
      else
        none)
    else
      none) :=
  (lim_fun' _ _).trans (by kernel_rfl)
noncomputable def spec_l04Any (x1 : List (Int)) (x2 : Int) (x3 : Int) : Option (Int × (List UInt8) × Int × Bool × Int × (List (Int)) × Int × Int) := L.callee 38 (x1, x2, x3)
theorem spec_l04Any_eq (x1 : List (Int)) (x2 : Int) (x3 : Int) : spec_l04Any x1 x2 x3 =
    (spec_l04Some x1 x2 x3).bind fun r1 =>
    (spec_l01Below r1.2.2.2.2.2.1 r1.2.2.2.2.2.2.1 r1.2.2.2.2.2.2.2 14).bind fun r2 =>
    (bif decide (r2.1 = 0) then
      (spec_l01Word r2.2.1 r2.2.2.1 r2.2.2.2).bind fun r3 =>
      some (0, ([] : List UInt8), 0, false, r3.1, r3.2.1, r3.2.2.1, r3.2.2.2)
    else
      (bif decide (r2.1 = 1) then
        (spec_l01Below r2.2.1 r2.2.2.1 r2.2.2.2 12).bind fun r4 =>
        some (subI .i64 r4.1 1, r1.2.1, r1.2.2.1, r1.2.2.2.1, r1.2.2.2.2.1, r4.2.1, r4.2.2.1, r4.2.2.2)
      else
        ((
          (bif decide (r2.1 = 2) then
            (spec_l01Pick r2.2.1 r2.2.2.1 r2.2.2.2 [([] : List UInt8), [65], [113, 113, 113, 113, 113], [115, 113, 117, 97, 114, 101, 115, 113, 117, 97, 114, 101]]).bind fun r5 =>
            some (r5.2.1, r5.2.2.1, r5.2.2.2, 0, ([] : List UInt8), 0, false, 0, r1.1, r5.1, r1.2.2.1, r1.2.2.2.1, r1.2.2.2.2.1)
          else
            (bif decide (r2.1 = 3) then
              (spec_l01Below r2.2.1 r2.2.2.1 r2.2.2.2 3).bind fun r6 =>
              some (r6.2.1, r6.2.2.1, r6.2.2.2, 0, ([] : List UInt8), 0, false, 0, r1.1, r1.2.1, r1.2.2.1, r1.2.2.2.1, cvtI .u32 r6.1)
            else
              some (r2.2.1, r2.2.2.1, r2.2.2.2, 0, ([] : List UInt8), 0, false, 0, r1.1, r1.2.1, r1.2.2.1, r1.2.2.2.1, r1.2.2.2.2.1))) : Option ((List (Int)) × Int × Int × Int × (List UInt8) × Int × Bool × Int × Int × (List UInt8) × Int × Bool × Int))).bind fun d7 =>
        some (d7.2.2.2.2.2.2.2.2.1, d7.2.2.2.2.2.2.2.2.2.1, d7.2.2.2.2.2.2.2.2.2.2.1, d7.2.2.2.2.2.2.2.2.2.2.2.1, d7.2.2.2.2.2.2.2.2.2.2.2.2, d7.1, d7.2.1, d7.2.2.1))) :=
  (lim_fun' _ _).trans (by kernel_rfl)
noncomputable def spec_l07Any (x1 : List (Int)) (x2 : Int) (x3 : Int) : Option ((List (Int × (List UInt8) × Int × Bool × Int)) × (List (Int × (List UInt8) × Int × Bool × Int)) × (List (Int × (List UInt8) × Int × Bool × Int)) × (List (Int)) × Int × Int) := L.callee 18 (x1, x2, x3)
noncomputable def spec_l07Any_l8 (a1 : List (Int)) (a2 : Int) (a3 : Int) (a4 : List (Int × (List UInt8) × Int × Bool × Int)) (a5 : List (Int × (List UInt8) × Int × Bool × Int)) (a6 : List (Int × (List UInt8) × Int × Bool × Int)) (a7 : List (Int × (List UInt8) × Int × Bool × Int)) (a8 : List (Int × (List UInt8) × Int × Bool × Int)) (a9 : List (Int × (List UInt8) × Int × Bool × Int)) : Option ((List (Int)) × Int × Int × (List (Int × (List UInt8) × Int × Bool × Int)) × (List (Int × (List UInt8) × Int × Bool × Int)) × (List (Int × (List UInt8) × Int × Bool × Int)) × (List (Int × (List UInt8) × Int × Bool × Int)) × (List (Int × (List UInt8) × Int × Bool × Int)) × (List (Int × (List UInt8) × Int × Bool × Int))) := L.loop 18 8 (a1, a2, a3, a4, a5, a6, a7, a8, a9)
theorem spec_l07Any_l8_eq (a1 : List (Int)) (a2 : Int) (a3 : Int) (a4 : List (Int × (List UInt8) × Int × Bool × Int)) (a5 : List (Int × (List UInt8) × Int × Bool × Int)) (a6 : List (Int × (List UInt8) × Int × Bool × Int)) (a7 : List (Int × (List UInt8) × Int × Bool × Int)) (a8 : List (Int × (List UInt8) × Int × Bool × Int)) (a9 : List (Int × (List UInt8) × Int × Bool × Int)) : spec_l07Any_l8 a1 a2 a3 a4 a5 a6 a7 a8 a9 =
    (spec_l01Below a1 a2 a3 2).bind fun r1 =>
    (bif decide (len a9 < addI .i64 20 r1.1) then
      (bif decide (a9.length + 1 < 3518437208883) then
        spec_l07Any_l8 r1.2.1 r1.2.2.1 r1.2.2.2 a4 a5 a6 a7 a8 (a9 ++ [(0, ([] : List UInt8), 0, false, 7)])
      else
        none)
    else
      some (r1.2.1, r1.2.2.1, r1.2.2.2, a4, a5, a6, a7, a8, a9)) :=
  (lim_round' _ _ _).trans (by kernel_rfl)
theorem spec_l07Any_eq (x1 : List (Int)) (x2 : Int) (x3 : Int) : spec_l07Any x1 x2 x3 =
    (spec_l07Make x1 x2 x3).bind fun r1 =>
    (spec_l01Below r1.2.2.2.1 r1.2.2.2.2.1 r1.2.2.2.2.2 12).bind fun r2 =>
    (bif decide (r2.1 = 0) then
      (spec_l04Any r2.2.1 r2.2.2.1 r2.2.2.2).bind fun r3 =>
      (bif decide (r1.2.2.1.length + 1 < 3518437208883) then
        some (r1.1, r1.2.1, r1.2.2.1 ++ [(r3.1, r3.2.1, r3.2.2.1, r3.2.2.2.1, r3.2.2.2.2.1)], r3.2.2.2.2.2.1, r3.2.2.2.2.2.2.1, r3.2.2.2.2.2.2.2)
      else
        none)
    else
      ((
        (bif decide (r2.1 = 1) then
          (spec_l04Any r2.2.1 r2.2.2.1 r2.2.2.2).bind fun r4 =>
          (bif decide (r1.1.length + 1 < 3518437208883) then
            some (r4.2.2.2.2.2.1, r4.2.2.2.2.2.2.1, r4.2.2.2.2.2.2.2, ([] : List (Int × (List UInt8) × Int × Bool × Int)), ([] : List (Int × (List UInt8) × Int × Bool × Int)), ([] : List (Int × (List UInt8) × Int × Bool × Int)), r1.1 ++ [(r4.1, r4.2.1, r4.2.2.1, r4.2.2.2.1, r4.2.2.2.2.1)], r1.2.1, r1.2.2.1)
          else
            none)
        else
          (bif decide (r2.1 = 2) then
            (spec_l07Any_l8 r2.2.1 r2.2.2.1 r2.2.2.2 ([] : List (Int × (List UInt8) × Int × Bool × Int)) ([] : List (Int × (List UInt8) × Int × Bool × Int)) ([] : List (Int × (List UInt8) × Int × Bool × Int)) r1.1 r1.2.1 r1.2.2.1).bind fun d5 =>
            some (d5.1, d5.2.1, d5.2.2.1, d5.2.2.2.1, d5.2.2.2.2.1, d5.2.2.2.2.2.1, d5.2.2.2.2.2.2.1, d5.2.2.2.2.2.2.2.1, d5.2.2.2.2.2.2.2.2)
          else
            some (r2.2.1, r2.2.2.1, r2.2.2.2, ([] : List (Int × (List UInt8) × Int × Bool × Int)), ([] : List (Int × (List UInt8) × Int × Bool × Int)), ([] : List (Int × (List UInt8) × Int × Bool × Int)), r1.1, r1.2.1, r1.2.2.1))) : Option ((List (Int)) × Int × Int × (List (Int × (List UInt8) × Int × Bool × Int)) × (List (Int × (List UInt8) × Int × Bool × Int)) × (List (Int × (List UInt8) × Int × Bool × Int)) × (List (Int × (List UInt8) × Int × Bool × Int)) × (List (Int × (List UInt8) × Int × Bool × Int)) × (List (Int × (List UInt8) × Int × Bool × Int))))).bind fun d6 =>
      some (d6.2.2.2.2.2.2.1, d6.2.2.2.2.2.2.2.1, d6.2.2.2.2.2.2.2.2, d6.1, d6.2.1, d6.2.2.1)) :=
  (lim_fun' _ _).trans (by kernel_rfl)
noncomputable def spec_l07Key (x1 : List (Int)) (x2 : Int) (x3 : Int) : Option (Int × Int × (List UInt8) × Int × Bool × Int × (List (Int)) × Int × Int) := L.callee 19 (x1, x2, x3)
theorem spec_l07Key_eq (x1 : List (Int)) (x2 : Int) (x3 : Int) : spec_l07Key x1 x2 x3 =
    (spec_l01Below x1 x2 x3 9).bind fun r1 =>
    (bif decide (r1.1 = 4) then
      (spec_l04Any r1.2.1 r1.2.2.1 r1.2.2.2).bind fun r2 =>
      (bif decide (r1.1 = 7) then
        (spec_l01Below r2.2.2.2.2.2.1 r2.2.2.2.2.2.2.1 r2.2.2.2.2.2.2.2 11).bind fun r3 =>
        some (r1.1, subI .i64 r3.1 1, ([] : List UInt8), 0, false, 0, r3.2.1, r3.2.2.1, r3.2.2.2)
      else
        some (r1.1, r2.1, r2.2.1, r2.2.2.1, r2.2.2.2.1, r2.2.2.2.2.1, r2.2.2.2.2.2.1, r2.2.2.2.2.2.2.1, r2.2.2.2.2.2.2.2))
    else
      (spec_l01Once r1.2.1 r1.2.2.1 r1.2.2.2 6).bind fun r4 =>
      (bif r4.1 then
        (spec_l04Any r4.2.1 r4.2.2.1 r4.2.2.2).bind fun r5 =>
        (bif decide (r1.1 = 7) then
          (spec_l01Below r5.2.2.2.2.2.1 r5.2.2.2.2.2.2.1 r5.2.2.2.2.2.2.2 11).bind fun r6 =>
          some (r1.1, subI .i64 r6.1 1, ([] : List UInt8), 0, false, 0, r6.2.1, r6.2.2.1, r6.2.2.2)
        else
          some (r1.1, r5.1, r5.2.1, r5.2.2.1, r5.2.2.2.1, r5.2.2.2.2.1, r5.2.2.2.2.2.1, r5.2.2.2.2.2.2.1, r5.2.2.2.2.2.2.2))
      else
        (bif decide (r1.1 = 7) then
          (spec_l01Below r4.2.1 r4.2.2.1 r4.2.2.2 11).bind fun r7 =>
          some (r1.1, subI .i64 r7.1 1, ([] : List UInt8), 0, false, 0, r7.2.1, r7.2.2.1, r7.2.2.2)
        else
          some (r1.1, 0, ([] : List UInt8), 0, false, 0, r4.2.1, r4.2.2.1, r4.2.2.2)))) :=
  (lim_fun' _ _).trans (by kernel_rfl)
noncomputable def spec_DrawPress (x1 : List (Int)) : Option ((List (Int × (List UInt8) × Int × Bool × Int)) × (List (Int × (List UInt8) × Int × Bool × Int)) × (List (Int × (List UInt8) × Int × Bool × Int)) × Int × Int × (List UInt8) × Int × Bool × Int) := L.callee 6 x1
theorem spec_DrawPress_eq (x1 : List (Int)) : spec_DrawPress x1 =
    (spec_l01New x1).bind fun r1 =>
    (spec_l07Any r1.1 r1.2.1 r1.2.2).bind fun r2 =>
    (spec_l07Key r2.2.2.2.1 r2.2.2.2.2.1 r2.2.2.2.2.2).bind fun r3 =>
    some (r2.1, r2.2.1, r2.2.2.1, r3.1, r3.2.1, r3.2.2.1, r3.2.2.2.1, r3.2.2.2.2.1, r3.2.2.2.2.2.1) :=
  (lim_fun' _ _).trans (by kernel_rfl)
noncomputable def impl_nameTag (x1 : Int) : Option (Int) := L.callee 60 x1
theorem impl_nameTag_eq (x1 : Int) : impl_nameTag x1 =
    (bif decide (x1 = 1) then
      some 1
    else
      (bif decide (x1 = 2) then
        some 3
      else
        (bif decide (x1 = 3) then
          some 4
        else
          (bif decide (x1 = 4) then
            some 9
          else
            (bif decide (x1 = 5) then
              some 10
            else
              (bif decide (x1 = 6) then
                some 11
              else
                some 0)))))) :=
  (lim_fun' _ _).trans (by kernel_rfl)
noncomputable def impl_letters : Option ((List UInt8)) := L.callee 104 ()
theorem impl_letters_eq : impl_letters  =
    some [32, 114, 116, 111, 101, 97, 110, 105, 115, 109, 99, 121, 108, 103, 102, 119, 100, 118, 112, 98, 104, 120, 117, 113, 48, 49, 50, 51, 52, 53, 54, 55, 56, 57, 106, 45, 107, 46, 122, 47, 59, 39, 33, 43, 64, 42, 44, 63] :=
  (lim_fun' _ _).trans (by kernel_rfl)
noncomputable def bytealg_IndexByteString (x1 : List UInt8) (x2 : Int) : Option (Int) := L.callee 106 (x1, x2)
theorem bytealg_IndexByteString_eq (x1 : List UInt8) (x2 : Int) : bytealg_IndexByteString x1 x2 = idxF (x1, x2) := (lim_fun' 106 _).trans (by kernel_rfl)
noncomputable def stringslite_IndexByte (x1 : List UInt8) (x2 : Int) : Option (Int) := L.callee 105 (x1, x2)
theorem stringslite_IndexByte_eq (x1 : List UInt8) (x2 : Int) : stringslite_IndexByte x1 x2 =
    (bytealg_IndexByteString x1 x2).bind fun r1 =>
    some r1 :=
  (lim_fun' _ _).trans (by kernel_rfl)
noncomputable def strings_IndexByte (x1 : List UInt8) (x2 : Int) : Option (Int) := L.callee 103 (x1, x2)
theorem strings_IndexByte_eq (x1 : List UInt8) (x2 : Int) : strings_IndexByte x1 x2 =
    (stringslite_IndexByte x1 x2).bind fun r1 =>
    some r1 :=
  (lim_fun' _ _).trans (by kernel_rfl)
noncomputable def impl_LetterOf (x1 : Int) : Option (Int) := L.callee 92 x1
theorem impl_LetterOf_eq (x1 : Int) : impl_LetterOf x1 =
    impl_letters.bind fun r1 =>
    (strings_IndexByte r1 x1).bind fun r2 =>
    some r2 :=
  (lim_fun' _ _).trans (by kernel_rfl)
noncomputable def impl_within (x1 : Int) (x2 : Int) (x3 : Int) : Option (Bool) := L.callee 93 (x1, x2, x3)
theorem impl_within_eq (x1 : Int) (x2 : Int) (x3 : Int) : impl_within x1 x2 x3 =
    (bif decide (x2 ≤ x1) then
      some (decide (x1 ≤ x3))
    else
      some false) :=
  (lim_fun' _ _).trans (by kernel_rfl)
noncomputable def impl_NameOk (x1 : List UInt8) : Option (Bool) := L.callee 79 x1
noncomputable def impl_NameOk_l2 (a1 : List UInt8) (a2 : Int) (a3 : Int) : Option (((List UInt8)) ⊕ (Bool)) := L.loop 79 2 (a1, a2, a3)
theorem impl_NameOk_l2_eq (a1 : List UInt8) (a2 : Int) (a3 : Int) : impl_NameOk_l2 a1 a2 a3 =
    (bif decide (a3 < a2) then
      (Ev.nth a1 a3).bind fun b1 =>
      (impl_LetterOf (byteI b1)).bind fun r2 =>
      (bif decide (r2 < 1) then
        some (.inr false)
      else
        impl_NameOk_l2 a1 a2 (addI .i64 a3 1))
    else
      some (.inl a1)) :=
  (lim_round' _ _ _).trans (by kernel_rfl)
theorem impl_NameOk_eq (x1 : List UInt8) : impl_NameOk x1 =
    (impl_NameOk_l2 x1 (len x1) 0).bind fun d1 =>
    Sum.elim (fun s2 =>
      (impl_within (len s2) 1 24).bind fun r4 =>
      some r4) (fun s3 =>
      some s3) d1 :=
  (lim_fun' _ _).trans (by kernel_rfl)
noncomputable def impl_WidthOf (x1 : Int) : Option (Int) := L.callee 94 x1
theorem impl_WidthOf_eq (x1 : Int) : impl_WidthOf x1 =
    (impl_within x1 0 7).bind fun r1 =>
    (bif r1 then
      some 4
    else
      (impl_within x1 8 15).bind fun r2 =>
      (bif r2 then
        some 5
      else
        (impl_within x1 16 47).bind fun r3 =>
        (bif r3 then
          some 7
        else
          some 0))) :=
  (lim_fun' _ _).trans (by kernel_rfl)
noncomputable def impl_BitsOf (x1 : Int) : Option (Int) := L.callee 95 x1
theorem impl_BitsOf_eq (x1 : Int) : impl_BitsOf x1 =
    (impl_WidthOf x1).bind fun r1 =>
    (bif decide (r1 = 4) then
      some (cvtI .u32 x1)
    else
      (bif decide (r1 = 5) then
        some (addI .u32 (cvtI .u32 x1) 8)
      else
        (bif decide (r1 = 7) then
          some (addI .u32 (cvtI .u32 x1) 80)
        else
          some 0))) :=
  (lim_fun' _ _).trans (by kernel_rfl)
noncomputable def impl_PackOne (x1 : List UInt8) : Option (Int × Int) := L.callee 80 x1
noncomputable def impl_PackOne_l5 (a1 : List UInt8) (a2 : Int) (a3 : Int) (a4 : Int) (a5 : Int) (a6 : Int) : Option (Int × Int) := L.loop 80 5 (a1, a2, a3, a4, a5, a6)
theorem impl_PackOne_l5_eq (a1 : List UInt8) (a2 : Int) (a3 : Int) (a4 : Int) (a5 : Int) (a6 : Int) : impl_PackOne_l5 a1 a2 a3 a4 a5 a6 =
    (bif decide (a6 < a5) then
      (Ev.nth a1 a6).bind fun b1 =>
      (impl_LetterOf (byteI b1)).bind fun r2 =>
      (impl_WidthOf r2).bind fun r3 =>
      (bif decide (a3 < r3) then
        some (a2, a4)
      else
        (impl_WidthOf r2).bind fun r4 =>
        (impl_BitsOf r2).bind fun r5 =>
        (bif decide (0 ≤ subI .i64 a3 r4) then
          impl_PackOne_l5 a1 (orI .u32 a2 (shlI .u32 r5 (subI .i64 a3 r4))) (subI .i64 a3 r4) (addI .i64 a4 1) a5 (addI .i64 a6 1)
        else
          none))
    else
      some (a2, a4)) :=
  (lim_round' _ _ _).trans (by kernel_rfl)
theorem impl_PackOne_eq (x1 : List UInt8) : impl_PackOne x1 =
    (impl_NameOk x1).bind fun r1 =>
    (bif !r1 then
      some (0, 0)
    else
      (impl_PackOne_l5 x1 0 28 0 (len x1) 0).bind fun d2 =>
      some (d2.1, d2.2)) :=
  (lim_fun' _ _).trans (by kernel_rfl)
noncomputable def impl_Pack (x1 : List UInt8) : Option ((List (Int))) := L.callee 65 x1
noncomputable def impl_Pack_l2 (a1 : List UInt8) (a2 : List (Int)) : Option ((List (Int))) := L.loop 65 2 (a1, a2)
theorem impl_Pack_l2_eq (a1 : List UInt8) (a2 : List (Int)) : impl_Pack_l2 a1 a2 =
    (impl_NameOk a1).bind fun r1 =>
    (bif r1 then
      (impl_PackOne a1).bind fun r2 =>
      (bif decide (a2.length + 1 < 35184372088832) then
        (bif (decide (0 ≤ r2.2)) && (decide (r2.2 ≤ len a1)) then
          impl_Pack_l2 (a1.drop r2.2.toNat) (a2 ++ [r2.1])
        else
          none)
      else
        none)
    else
      some a2) :=
  (lim_round' _ _ _).trans (by kernel_rfl)
theorem impl_Pack_eq (x1 : List UInt8) : impl_Pack x1 =
    (impl_Pack_l2 x1 ([] : List (Int))).bind fun d1 =>
    some d1 :=
  (lim_fun' _ _).trans (by kernel_rfl)
noncomputable def impl_numberCells (x1 : Int) (x2 : Bool) (x3 : Int) (x4 : Int) : Option ((List (Int))) := L.callee 66 (x1, x2, x3, x4)
theorem impl_numberCells_eq (x1 : Int) (x2 : Bool) (x3 : Int) (x4 : Int) : impl_numberCells x1 x2 x3 x4 =
    ((
      (bif x2 then
        some (x1, x3, x4, 16)
      else
        some (x1, x3, x4, 0)) : Option (Int × Int × Int × Int))).bind fun d1 =>
    (bif decide ((-67108864) ≤ d1.1) then
      (bif decide (d1.1 ≤ 67108863) then
        some [orI .u32 (orI .u32 (shlI .u32 (cvtI .u32 d1.1) 5) d1.2.2.2) d1.2.1]
      else
        some [orI .u32 d1.2.2.2 d1.2.2.1, cvtI .u32 d1.1])
    else
      some [orI .u32 d1.2.2.2 d1.2.2.1, cvtI .u32 d1.1]) :=
  (lim_fun' _ _).trans (by kernel_rfl)
noncomputable def impl_CellsOf (x1 : Int) (x2 : List UInt8) (x3 : Int) (x4 : Bool) (x5 : Int) : Option ((List (Int))) := L.callee 48 (x1, x2, x3, x4, x5)
noncomputable def impl_CellsOf_l5 (a1 : Int) (a2 : List (Int)) (a3 : List (Int)) (a4 : Int) (a5 : Int) : Option ((List (Int))) := L.loop 48 5 (a1, a2, a3, a4, a5)
theorem impl_CellsOf_l5_eq (a1 : Int) (a2 : List (Int)) (a3 : List (Int)) (a4 : Int) (a5 : Int) : impl_CellsOf_l5 a1 a2 a3 a4 a5 =
    (bif decide (a5 < a4) then
      (bif (decide (0 ≤ a5)) && (decide (a5 < (a3.length : Int))) then
        (a3[a5.toNat]?).bind fun u1 =>
        (bif decide (a2.length + 1 < 35184372088832) then
          impl_CellsOf_l5 0 (a2 ++ [orI .u32 (shlI .u32 u1 4) a1]) a3 a4 (addI .i64 a5 1)
        else
          none)
      else
        none)
    else
      some a2) :=
  (lim_round' _ _ _).trans (by kernel_rfl)
theorem impl_CellsOf_eq (x1 : Int) (x2 : List UInt8) (x3 : Int) (x4 : Bool) (x5 : Int) : impl_CellsOf x1 x2 x3 x4 x5 =
    (impl_nameTag x1).bind fun r1 =>
    ((
      (bif decide (0 < r1) then
        some (r1, (decide (x1 = x1)) && ((decide (x2 = x2)) && ((decide (x3 = 0)) && ((x4 == false) && (decide (x5 = 0))))), x1, x2, x3, x4, x5)
      else
        some (r1, false, x1, x2, x3, x4, x5)) : Option (Int × Bool × Int × (List UInt8) × Int × Bool × Int))).bind fun d2 =>
    (bif d2.2.1 then
      (impl_Pack d2.2.2.2.1).bind fun r3 =>
      (impl_CellsOf_l5 d2.1 ([] : List (Int)) r3 (len r3) 0).bind fun d4 =>
      some d4
    else
      (bif (decide (d2.2.2.1 = 7)) && ((decide (d2.2.2.2.1 = ([] : List UInt8))) && ((decide (d2.2.2.2.2.1 = d2.2.2.2.2.1)) && ((d2.2.2.2.2.2.1 == d2.2.2.2.2.2.1) && (decide (d2.2.2.2.2.2.2 = 0))))) then
        (impl_numberCells d2.2.2.2.2.1 d2.2.2.2.2.2.1 8 2).bind fun r5 =>
        some r5
      else
        (bif (decide (d2.2.2.1 = 8)) && ((decide (d2.2.2.2.1 = ([] : List UInt8))) && ((decide (d2.2.2.2.2.1 = d2.2.2.2.2.1)) && ((d2.2.2.2.2.2.1 == d2.2.2.2.2.2.1) && (decide (d2.2.2.2.2.2.2 = 0))))) then
          (impl_numberCells d2.2.2.2.2.1 d2.2.2.2.2.2.1 6 5).bind fun r6 =>
          some r6
        else
          (bif (decide (d2.2.2.1 = 9)) && ((decide (d2.2.2.2.1 = d2.2.2.2.1)) && ((decide (d2.2.2.2.2.1 = d2.2.2.2.2.1)) && ((d2.2.2.2.2.2.1 == false) && (decide (d2.2.2.2.2.2.2 = 0))))) then
            (impl_Pack d2.2.2.2.1).bind fun r7 =>
            (bif decide (len r7 = 1) then
              (bif decide (0 < (r7.length : Int)) then
                (r7[0]?).bind fun u8 =>
                some [orI .u32 (shlI .u32 u8 4) 12, cvtI .u32 d2.2.2.2.2.1]
              else
                none)
            else
              some ([] : List (Int)))
          else
            (bif (decide (d2.2.2.1 = 0)) && ((decide (d2.2.2.2.1 = ([] : List UInt8))) && ((decide (d2.2.2.2.2.1 = 0)) && ((d2.2.2.2.2.2.1 == false) && (decide (d2.2.2.2.2.2.2 = d2.2.2.2.2.2.2))))) then
              some [d2.2.2.2.2.2.2]
            else
              some ([] : List (Int))))))) :=
  (lim_fun' _ _).trans (by kernel_rfl)
noncomputable def impl_ItemOk (x1 : Int) (x2 : List UInt8) (x3 : Int) (x4 : Bool) (x5 : Int) : Option (Bool) := L.callee 35 (x1, x2, x3, x4, x5)
theorem impl_ItemOk_eq (x1 : Int) (x2 : List UInt8) (x3 : Int) (x4 : Bool) (x5 : Int) : impl_ItemOk x1 x2 x3 x4 x5 =
    (impl_CellsOf x1 x2 x3 x4 x5).bind fun r1 =>
    some (decide (0 < len r1)) :=
  (lim_fun' _ _).trans (by kernel_rfl)
noncomputable def impl_EdOk_c1 (x1 : Int) (x2 : List UInt8) (x3 : Int) (x4 : Bool) (x5 : Int) : Option (Bool) := L.callee 34 (x1, x2, x3, x4, x5)
theorem impl_EdOk_c1_eq (x1 : Int) (x2 : List UInt8) (x3 : Int) (x4 : Bool) (x5 : Int) : impl_EdOk_c1 x1 x2 x3 x4 x5 =
    (impl_ItemOk x1 x2 x3 x4 x5).bind fun r1 =>
    some (!r1) :=
  (lim_fun' _ _).trans (by kernel_rfl)
noncomputable def slices_IndexFunc_Item_impl_EdOk_c1 (x1 : List (Int × (List UInt8) × Int × Bool × Int)) : Option (Int) := L.callee 100044 x1
noncomputable def slices_IndexFunc_Item_impl_EdOk_c1_l2 (a1 : List (Int × (List UInt8) × Int × Bool × Int)) (a2 : Int) (a3 : Int) : Option ((Unit) ⊕ (Int)) := L.loop 100044 2 (a1, a2, a3)
theorem slices_IndexFunc_Item_impl_EdOk_c1_l2_eq (a1 : List (Int × (List UInt8) × Int × Bool × Int)) (a2 : Int) (a3 : Int) : slices_IndexFunc_Item_impl_EdOk_c1_l2 a1 a2 a3 =
    (bif decide (a3 < a2) then
      (Ev.nth a1 a3).bind fun u1 =>
      (impl_EdOk_c1 u1.1 u1.2.1 u1.2.2.1 u1.2.2.2.1 u1.2.2.2.2).bind fun r2 =>
      (bif r2 then
        some (.inr a3)
      else
        slices_IndexFunc_Item_impl_EdOk_c1_l2 a1 a2 (addI .i64 a3 1))
    else
      some (.inl ())) :=
  (lim_round' _ _ _).trans (by kernel_rfl)
theorem slices_IndexFunc_Item_impl_EdOk_c1_eq (x1 : List (Int × (List UInt8) × Int × Bool × Int)) : slices_IndexFunc_Item_impl_EdOk_c1 x1 =
    (slices_IndexFunc_Item_impl_EdOk_c1_l2 x1 (len x1) 0).bind fun d1 =>
    Sum.elim (fun s2 =>
      some (-1)) (fun s3 =>
      some s3) d1 :=
  (lim_fun' _ _).trans (by kernel_rfl)
noncomputable def slices_ContainsFunc_Item_impl_EdOk_c1 (x1 : List (Int × (List UInt8) × Int × Bool × Int)) : Option (Bool) := L.callee 100043 x1
theorem slices_ContainsFunc_Item_impl_EdOk_c1_eq (x1 : List (Int × (List UInt8) × Int × Bool × Int)) : slices_ContainsFunc_Item_impl_EdOk_c1 x1 =
    (slices_IndexFunc_Item_impl_EdOk_c1 x1).bind fun r1 =>
    some (decide (0 ≤ r1)) :=
  (lim_fun' _ _).trans (by kernel_rfl)
noncomputable def slices_Grow_Item (x1 : List (Int × (List UInt8) × Int × Bool × Int)) (x2 : Int) : Option ((List (Int × (List UInt8) × Int × Bool × Int))) := L.callee 67 (x1, x2)
theorem slices_Grow_Item_eq (x1 : List (Int × (List UInt8) × Int × Bool × Int)) (x2 : Int) : slices_Grow_Item x1 x2 = growF itemR 40 (x1, x2) := (lim_fun' 67 _).trans (by kernel_rfl)
noncomputable def slices_Concat_Item (x1 : List ((List (Int × (List UInt8) × Int × Bool × Int)))) : Option ((List (Int × (List UInt8) × Int × Bool × Int))) := L.callee 49 x1
noncomputable def slices_Concat_Item_l3 (a1 : List ((List (Int × (List UInt8) × Int × Bool × Int)))) (a2 : Int) (a3 : List ((List (Int × (List UInt8) × Int × Bool × Int)))) (a4 : Int) (a5 : Int) : Option ((List ((List (Int × (List UInt8) × Int × Bool × Int)))) × Int) := L.loop 49 3 (a1, a2, a3, a4, a5)
noncomputable def slices_Concat_Item_l11 (a1 : List (Int × (List UInt8) × Int × Bool × Int)) (a2 : List ((List (Int × (List UInt8) × Int × Bool × Int)))) (a3 : Int) (a4 : Int) : Option ((List (Int × (List UInt8) × Int × Bool × Int))) := L.loop 49 11 (a1, a2, a3, a4)
theorem slices_Concat_Item_l3_eq (a1 : List ((List (Int × (List UInt8) × Int × Bool × Int)))) (a2 : Int) (a3 : List ((List (Int × (List UInt8) × Int × Bool × Int)))) (a4 : Int) (a5 : Int) : slices_Concat_Item_l3 a1 a2 a3 a4 a5 =
    (bif decide (a5 < a4) then
      (Ev.nth a3 a5).bind fun u1 =>
      (bif decide (addI .i64 a2 (len u1) < 0) then
        none
      else
        slices_Concat_Item_l3 a1 (addI .i64 a2 (len u1)) a3 a4 (addI .i64 a5 1))
    else
      some (a1, a2)) :=
  (lim_round' _ _ _).trans (by kernel_rfl)
theorem slices_Concat_Item_l11_eq (a1 : List (Int × (List UInt8) × Int × Bool × Int)) (a2 : List ((List (Int × (List UInt8) × Int × Bool × Int)))) (a3 : Int) (a4 : Int) : slices_Concat_Item_l11 a1 a2 a3 a4 =
    (bif decide (a4 < a3) then
      (Ev.nth a2 a4).bind fun u1 =>
      (bif decide (a1.length + u1.length < 3518437208883) then
        slices_Concat_Item_l11 (a1 ++ u1) a2 a3 (addI .i64 a4 1)
      else
        none)
    else
      some a1) :=
  (lim_round' _ _ _).trans (by kernel_rfl)
theorem slices_Concat_Item_eq (x1 : List ((List (Int × (List UInt8) × Int × Bool × Int)))) : slices_Concat_Item x1 =
    (slices_Concat_Item_l3 x1 0 x1 (len x1) 0).bind fun d1 =>
    (slices_Grow_Item ([] : List (Int × (List UInt8) × Int × Bool × Int)) d1.2).bind fun r2 =>
    (slices_Concat_Item_l11 r2 d1.1 (len d1.1) 0).bind fun d3 =>
    some d3 :=
  (lim_fun' _ _).trans (by kernel_rfl)
noncomputable def impl_edItems (x1 : List (Int × (List UInt8) × Int × Bool × Int)) (x2 : List (Int × (List UInt8) × Int × Bool × Int)) (x3 : List (Int × (List UInt8) × Int × Bool × Int)) : Option ((List (Int × (List UInt8) × Int × Bool × Int))) := L.callee 31 (x1, x2, x3)
theorem impl_edItems_eq (x1 : List (Int × (List UInt8) × Int × Bool × Int)) (x2 : List (Int × (List UInt8) × Int × Bool × Int)) (x3 : List (Int × (List UInt8) × Int × Bool × Int)) : impl_edItems x1 x2 x3 =
    (slices_Concat_Item [x1, x2]).bind fun r1 =>
    some r1 :=
  (lim_fun' _ _).trans (by kernel_rfl)
noncomputable def impl_Unparse (x1 : List (Int × (List UInt8) × Int × Bool × Int)) : Option ((List (Int)) × Bool) := L.callee 30 x1
noncomputable def impl_Unparse_l3 (a1 : List (Int)) (a2 : List (Int × (List UInt8) × Int × Bool × Int)) (a3 : Int) (a4 : Int) : Option (((List (Int))) ⊕ ((List (Int)) × Bool)) := L.loop 30 3 (a1, a2, a3, a4)
theorem impl_Unparse_l3_eq (a1 : List (Int)) (a2 : List (Int × (List UInt8) × Int × Bool × Int)) (a3 : Int) (a4 : Int) : impl_Unparse_l3 a1 a2 a3 a4 =
    (bif decide (a4 < a3) then
      (Ev.nth a2 a4).bind fun u1 =>
      (impl_CellsOf u1.1 u1.2.1 u1.2.2.1 u1.2.2.2.1 u1.2.2.2.2).bind fun r2 =>
      (bif decide (a1.length + r2.length < 35184372088832) then
        (bif decide (len r2 = 0) then
          some (.inr (([] : List (Int)), false))
        else
          (bif decide (64 < len (a1 ++ r2)) then
            some (.inr (([] : List (Int)), false))
          else
            impl_Unparse_l3 (a1 ++ r2) a2 a3 (addI .i64 a4 1)))
      else
        none)
    else
      some (.inl a1)) :=
  (lim_round' _ _ _).trans (by kernel_rfl)
theorem impl_Unparse_eq (x1 : List (Int × (List UInt8) × Int × Bool × Int)) : impl_Unparse x1 =
    (impl_Unparse_l3 ([] : List (Int)) x1 (len x1) 0).bind fun d1 =>
    Sum.elim (fun s2 =>
      some (s2, true)) (fun s3 =>
      some (s3.1, s3.2)) d1 :=
  (lim_fun' _ _).trans (by kernel_rfl)
noncomputable def impl_Decode (x1 : Int) (x2 : Int) : Option (Int × Int) := L.callee 96 (x1, x2)
noncomputable def impl_Decode_l4 (a1 : Int) (a2 : Int) (a3 : Int) : Option ((Unit) ⊕ (Int × Int)) := L.loop 96 4 (a1, a2, a3)
theorem impl_Decode_l4_eq (a1 : Int) (a2 : Int) (a3 : Int) : impl_Decode_l4 a1 a2 a3 =
    (bif decide (a3 < 48) then
      (impl_WidthOf a3).bind fun r1 =>
      (bif decide (r1 ≤ a2) then
        (bif decide (0 ≤ subI .i64 a2 r1) then
          (bif decide (0 ≤ r1) then
            (impl_BitsOf a3).bind fun r2 =>
            (bif decide (andI .u32 (shrI .u32 a1 (subI .i64 a2 r1)) (subI .u32 (shlI .u32 1 r1) 1) = r2) then
              some (.inr (a3, r1))
            else
              impl_Decode_l4 a1 a2 (addI .i64 a3 1))
          else
            none)
        else
          none)
      else
        impl_Decode_l4 a1 a2 (addI .i64 a3 1))
    else
      some (.inl ())) :=
  (lim_round' _ _ _).trans (by kernel_rfl)
theorem impl_Decode_eq (x1 : Int) (x2 : Int) : impl_Decode x1 x2 =
    (impl_within x2 1 32).bind fun r1 =>
    (bif !r1 then
      some ((-1), 0)
    else
      (impl_Decode_l4 x1 x2 0).bind fun d2 =>
      Sum.elim (fun s3 =>
        some ((-1), 0)) (fun s4 =>
        some (s4.1, s4.2)) d2) :=
  (lim_fun' _ _).trans (by kernel_rfl)
noncomputable def impl_LetterAt (x1 : Int) : Option (Int) := L.callee 97 x1
theorem impl_LetterAt_eq (x1 : Int) : impl_LetterAt x1 =
    (impl_within x1 0 47).bind fun r1 =>
    (bif !r1 then
      some 0
    else
      impl_letters.bind fun r2 =>
      (Ev.nth r2 x1).bind fun b3 =>
      some (byteI b3)) :=
  (lim_fun' _ _).trans (by kernel_rfl)
noncomputable def impl_UnpackOne (x1 : Int) : Option ((List UInt8)) := L.callee 85 x1
noncomputable def impl_UnpackOne_l4 (a1 : Int) (a2 : List (Int)) (a3 : Int) : Option ((List (Int))) := L.loop 85 4 (a1, a2, a3)
theorem impl_UnpackOne_l4_eq (a1 : Int) (a2 : List (Int)) (a3 : Int) : impl_UnpackOne_l4 a1 a2 a3 =
    (bif decide (0 ≤ a3) then
      (bif !(decide (andI .u32 a1 (subI .u32 (shlI .u32 1 a3) 1) = 0)) then
        (impl_Decode a1 a3).bind fun r1 =>
        (bif decide (r1.1 < 1) then
          some a2
        else
          (impl_LetterAt r1.1).bind fun r2 =>
          (bif decide (a2.length + 1 < 140737488355328) then
            impl_UnpackOne_l4 a1 (a2 ++ [r2]) (subI .i64 a3 r1.2)
          else
            none))
      else
        some a2)
    else
      none) :=
  (lim_round' _ _ _).trans (by kernel_rfl)
theorem impl_UnpackOne_eq (x1 : Int) : impl_UnpackOne x1 =
    (bif decide (268435456 ≤ x1) then
      some ([] : List UInt8)
    else
      (impl_UnpackOne_l4 x1 ([] : List (Int)) 28).bind fun d1 =>
      some (strI d1)) :=
  (lim_fun' _ _).trans (by kernel_rfl)
noncomputable def slices_Equal_uint32 (x1 : List (Int)) (x2 : List (Int)) : Option (Bool) := L.callee 83 (x1, x2)
noncomputable def slices_Equal_uint32_l4 (a1 : List (Int)) (a2 : List (Int)) (a3 : Int) (a4 : Int) : Option ((Unit) ⊕ (Bool)) := L.loop 83 4 (a1, a2, a3, a4)
theorem slices_Equal_uint32_l4_eq (a1 : List (Int)) (a2 : List (Int)) (a3 : Int) (a4 : Int) : slices_Equal_uint32_l4 a1 a2 a3 a4 =
    (bif decide (a4 < a3) then
      (Ev.nth a1 a4).bind fun u1 =>
      (Ev.nth a2 a4).bind fun u2 =>
      (bif !(decide (u1 = u2)) then
        some (.inr false)
      else
        slices_Equal_uint32_l4 a1 a2 a3 (addI .i64 a4 1))
    else
      some (.inl ())) :=
  (lim_round' _ _ _).trans (by kernel_rfl)
theorem slices_Equal_uint32_eq (x1 : List (Int)) (x2 : List (Int)) : slices_Equal_uint32 x1 x2 =
    (bif !(decide (len x1 = len x2)) then
      some false
    else
      (slices_Equal_uint32_l4 x1 x2 (len x1) 0).bind fun d1 =>
      Sum.elim (fun s2 =>
        some true) (fun s3 =>
        some s3) d1) :=
  (lim_fun' _ _).trans (by kernel_rfl)
noncomputable def impl_Unpack (x1 : List (Int)) : Option ((List UInt8) × Bool) := L.callee 81 x1
noncomputable def impl_Unpack_l5 (a1 : List (Int)) (a2 : List UInt8) (a3 : List (Int)) (a4 : Int) (a5 : Int) : Option ((List (Int)) × (List UInt8)) := L.loop 81 5 (a1, a2, a3, a4, a5)
theorem impl_Unpack_l5_eq (a1 : List (Int)) (a2 : List UInt8) (a3 : List (Int)) (a4 : Int) (a5 : Int) : impl_Unpack_l5 a1 a2 a3 a4 a5 =
    (bif decide (a5 < a4) then
      (Ev.nth a3 a5).bind fun u1 =>
      (impl_UnpackOne u1).bind fun r2 =>
      (bif decide (len a2 + len r2 ≤ 9223372036854775807) then
        impl_Unpack_l5 a1 (a2 ++ r2) a3 a4 (addI .i64 a5 1)
      else
        none)
    else
      some (a1, a2)) :=
  (lim_round' _ _ _).trans (by kernel_rfl)
theorem impl_Unpack_eq (x1 : List (Int)) : impl_Unpack x1 =
    (bif decide (24 < len x1) then
      some (([] : List UInt8), false)
    else
      (impl_Unpack_l5 x1 ([] : List UInt8) x1 (len x1) 0).bind fun d1 =>
      (impl_NameOk d1.2).bind fun r2 =>
      (bif !r2 then
        some (([] : List UInt8), false)
      else
        (impl_Pack d1.2).bind fun r3 =>
        (slices_Equal_uint32 r3 d1.1).bind fun r4 =>
        (bif !r4 then
          some (([] : List UInt8), false)
        else
          some (d1.2, true)))) :=
  (lim_fun' _ _).trans (by kernel_rfl)
noncomputable def impl_nameKind (x1 : Int) : Option (Int) := L.callee 82 x1
noncomputable def impl_nameKind_l2 (a1 : Int) (a2 : Int) : Option ((Unit) ⊕ (Int)) := L.loop 82 2 (a1, a2)
theorem impl_nameKind_l2_eq (a1 : Int) (a2 : Int) : impl_nameKind_l2 a1 a2 =
    (bif decide (a2 ≤ 6) then
      (impl_nameTag a2).bind fun r1 =>
      (bif decide (r1 = a1) then
        some (.inr a2)
      else
        impl_nameKind_l2 a1 (addI .i64 a2 1))
    else
      some (.inl ())) :=
  (lim_round' _ _ _).trans (by kernel_rfl)
theorem impl_nameKind_eq (x1 : Int) : impl_nameKind x1 =
    (impl_nameKind_l2 x1 1).bind fun d1 =>
    Sum.elim (fun s2 =>
      some 0) (fun s3 =>
      some s3) d1 :=
  (lim_fun' _ _).trans (by kernel_rfl)
noncomputable def impl_FieldOk (x1 : Int) : Option (Bool) := L.callee 84 x1
theorem impl_FieldOk_eq (x1 : Int) : impl_FieldOk x1 =
    (impl_UnpackOne x1).bind fun r1 =>
    (impl_Pack r1).bind fun r2 =>
    (slices_Equal_uint32 r2 [x1]).bind fun r3 =>
    some r3 :=
  (lim_fun' _ _).trans (by kernel_rfl)
noncomputable def impl_parseOne (x1 : List (Int)) : Option (Int × (List UInt8) × Int × Bool × Int) := L.callee 68 x1
noncomputable def impl_parseOne_l12 (a1 : Int) (a2 : List (Int)) (a3 : List (Int)) (a4 : Int) (a5 : Int) (a6 : Int) (a7 : List UInt8) (a8 : Int) (a9 : Bool) (a10 : Int) (a11 : Int) (a12 : List UInt8) (a13 : Int) (a14 : Bool) (a15 : Int) : Option (Int × (List (Int)) × Int × (List UInt8) × Int × Bool × Int × Int × (List UInt8) × Int × Bool × Int) := L.loop 68 12 (a1, a2, a3, a4, a5, a6, a7, a8, a9, a10, a11, a12, a13, a14, a15)
theorem impl_parseOne_l12_eq (a1 : Int) (a2 : List (Int)) (a3 : List (Int)) (a4 : Int) (a5 : Int) (a6 : Int) (a7 : List UInt8) (a8 : Int) (a9 : Bool) (a10 : Int) (a11 : Int) (a12 : List UInt8) (a13 : Int) (a14 : Bool) (a15 : Int) : impl_parseOne_l12 a1 a2 a3 a4 a5 a6 a7 a8 a9 a10 a11 a12 a13 a14 a15 =
    (bif decide (a5 < a4) then
      (Ev.nth a3 a5).bind fun u1 =>
      (bif decide (u1 = 0) then
        some (a1, a2, a6, a7, a8, a9, a10, a11, a12, a13, a14, a15)
      else
        (bif !(decide (andI .u32 u1 15 = 0)) then
          some (a1, a2, a6, a7, a8, a9, a10, a11, a12, a13, a14, a15)
        else
          (bif decide (a2.length + 1 < 35184372088832) then
            impl_parseOne_l12 a1 (a2 ++ [shrI .u32 u1 4]) a3 a4 (addI .i64 a5 1) a6 a7 a8 a9 a10 a11 a12 a13 a14 a15
          else
            none)))
    else
      some (a1, a2, a6, a7, a8, a9, a10, a11, a12, a13, a14, a15)) :=
  (lim_round' _ _ _).trans (by kernel_rfl)
theorem impl_parseOne_eq (x1 : List (Int)) : impl_parseOne x1 =
    (Ev.nth x1 0).bind fun u1 =>
    (Ev.nth x1 0).bind fun u2 =>
    ((
      (bif decide (andI .u32 u2 15 = 1) then
        some (x1, u1, andI .u32 u2 15, andI .u32 u2 15, decide (andI .u32 u2 15 = 1), 0, ([] : List UInt8), 0, false, 0, 0, ([] : List UInt8), 0, false, u1)
      else
        (bif decide (andI .u32 u2 15 = 3) then
          some (x1, u1, andI .u32 u2 15, andI .u32 u2 15, decide (andI .u32 u2 15 = 3), 0, ([] : List UInt8), 0, false, 0, 0, ([] : List UInt8), 0, false, u1)
        else
          (bif decide (andI .u32 u2 15 = 4) then
            some (x1, u1, andI .u32 u2 15, andI .u32 u2 15, decide (andI .u32 u2 15 = 4), 0, ([] : List UInt8), 0, false, 0, 0, ([] : List UInt8), 0, false, u1)
          else
            (bif decide (andI .u32 u2 15 = 9) then
              some (x1, u1, andI .u32 u2 15, andI .u32 u2 15, decide (andI .u32 u2 15 = 9), 0, ([] : List UInt8), 0, false, 0, 0, ([] : List UInt8), 0, false, u1)
            else
              (bif decide (andI .u32 u2 15 = 10) then
                some (x1, u1, andI .u32 u2 15, andI .u32 u2 15, decide (andI .u32 u2 15 = 10), 0, ([] : List UInt8), 0, false, 0, 0, ([] : List UInt8), 0, false, u1)
              else
                some (x1, u1, andI .u32 u2 15, andI .u32 u2 15, decide (andI .u32 u2 15 = 11), 0, ([] : List UInt8), 0, false, 0, 0, ([] : List UInt8), 0, false, u1)))))) : Option ((List (Int)) × Int × Int × Int × Bool × Int × (List UInt8) × Int × Bool × Int × Int × (List UInt8) × Int × Bool × Int))).bind fun d3 =>
    ((
      (bif d3.2.2.2.2.1 then
        (bif decide (1 ≤ len d3.1) then
          (impl_parseOne_l12 d3.2.2.1 [shrI .u32 d3.2.1 4] (d3.1.drop 1) (len (d3.1.drop 1)) 0 d3.2.2.2.2.2.1 d3.2.2.2.2.2.2.1 d3.2.2.2.2.2.2.2.1 d3.2.2.2.2.2.2.2.2.1 d3.2.2.2.2.2.2.2.2.2.1 d3.2.2.2.2.2.2.2.2.2.2.1 d3.2.2.2.2.2.2.2.2.2.2.2.1 d3.2.2.2.2.2.2.2.2.2.2.2.2.1 d3.2.2.2.2.2.2.2.2.2.2.2.2.2.1 d3.2.2.2.2.2.2.2.2.2.2.2.2.2.2).bind fun d4 =>
          (impl_Unpack d4.2.1).bind fun r5 =>
          (bif r5.2 then
            (impl_nameKind d4.1).bind fun r6 =>
            some (.inl (d4.2.2.1, d4.2.2.2.1, d4.2.2.2.2.1, d4.2.2.2.2.2.1, d4.2.2.2.2.2.2.1, r6, r5.1, 0, false, 0))
          else
            some (.inl (d4.2.2.1, d4.2.2.2.1, d4.2.2.2.2.1, d4.2.2.2.2.2.1, d4.2.2.2.2.2.2.1, d4.2.2.2.2.2.2.2.1, d4.2.2.2.2.2.2.2.2.1, d4.2.2.2.2.2.2.2.2.2.1, d4.2.2.2.2.2.2.2.2.2.2.1, d4.2.2.2.2.2.2.2.2.2.2.2)))
        else
          none)
      else
        (bif decide (d3.2.2.2.1 = 8) then
          some (.inl (d3.2.2.2.2.2.1, d3.2.2.2.2.2.2.1, d3.2.2.2.2.2.2.2.1, d3.2.2.2.2.2.2.2.2.1, d3.2.2.2.2.2.2.2.2.2.1, 7, ([] : List UInt8), shrI .i32 (cvtI .i32 d3.2.1) 5, !(decide (andI .u32 d3.2.1 16 = 0)), 0))
        else
          (bif decide (d3.2.2.2.1 = 6) then
            some (.inl (d3.2.2.2.2.2.1, d3.2.2.2.2.2.2.1, d3.2.2.2.2.2.2.2.1, d3.2.2.2.2.2.2.2.2.1, d3.2.2.2.2.2.2.2.2.2.1, 8, ([] : List UInt8), shrI .i32 (cvtI .i32 d3.2.1) 5, !(decide (andI .u32 d3.2.1 16 = 0)), 0))
          else
            ((
              (bif decide (d3.2.2.2.1 = 2) then
                some (d3.1, d3.2.1, d3.2.2.1, d3.2.2.2.1, decide (d3.2.2.2.1 = 2), d3.2.2.2.2.2.1, d3.2.2.2.2.2.2.1, d3.2.2.2.2.2.2.2.1, d3.2.2.2.2.2.2.2.2.1, d3.2.2.2.2.2.2.2.2.2.1, d3.2.2.2.2.2.2.2.2.2.2.1, d3.2.2.2.2.2.2.2.2.2.2.2.1, d3.2.2.2.2.2.2.2.2.2.2.2.2.1, d3.2.2.2.2.2.2.2.2.2.2.2.2.2.1, d3.2.2.2.2.2.2.2.2.2.2.2.2.2.2)
              else
                some (d3.1, d3.2.1, d3.2.2.1, d3.2.2.2.1, decide (d3.2.2.2.1 = 5), d3.2.2.2.2.2.1, d3.2.2.2.2.2.2.1, d3.2.2.2.2.2.2.2.1, d3.2.2.2.2.2.2.2.2.1, d3.2.2.2.2.2.2.2.2.2.1, d3.2.2.2.2.2.2.2.2.2.2.1, d3.2.2.2.2.2.2.2.2.2.2.2.1, d3.2.2.2.2.2.2.2.2.2.2.2.2.1, d3.2.2.2.2.2.2.2.2.2.2.2.2.2.1, d3.2.2.2.2.2.2.2.2.2.2.2.2.2.2)) : Option ((List (Int)) × Int × Int × Int × Bool × Int × (List UInt8) × Int × Bool × Int × Int × (List UInt8) × Int × Bool × Int))).bind fun d7 =>
            (bif d7.2.2.2.2.1 then
              (bif decide (len d7.1 < 2) then
                some (.inr (d7.2.2.2.2.2.1, d7.2.2.2.2.2.2.1, d7.2.2.2.2.2.2.2.1, d7.2.2.2.2.2.2.2.2.1, d7.2.2.2.2.2.2.2.2.2.1, d7.2.2.2.2.2.2.2.2.2.2.1, d7.2.2.2.2.2.2.2.2.2.2.2.1, d7.2.2.2.2.2.2.2.2.2.2.2.2.1, d7.2.2.2.2.2.2.2.2.2.2.2.2.2.1, d7.2.2.2.2.2.2.2.2.2.2.2.2.2.2))
              else
                (Ev.nth d7.1 1).bind fun u8 =>
                (bif decide (d7.2.2.1 = 5) then
                  (impl_CellsOf 8 ([] : List UInt8) (cvtI .i32 u8) (!(decide (andI .u32 d7.2.1 16 = 0))) 0).bind fun r9 =>
                  (bif decide (2 ≤ len d7.1) then
                    (slices_Equal_uint32 r9 (d7.1.take 2)).bind fun r10 =>
                    (bif r10 then
                      some (.inl (d7.2.2.2.2.2.1, d7.2.2.2.2.2.2.1, d7.2.2.2.2.2.2.2.1, d7.2.2.2.2.2.2.2.2.1, d7.2.2.2.2.2.2.2.2.2.1, 8, ([] : List UInt8), cvtI .i32 u8, !(decide (andI .u32 d7.2.1 16 = 0)), 0))
                    else
                      some (.inl (d7.2.2.2.2.2.1, d7.2.2.2.2.2.2.1, d7.2.2.2.2.2.2.2.1, d7.2.2.2.2.2.2.2.2.1, d7.2.2.2.2.2.2.2.2.2.1, d7.2.2.2.2.2.2.2.2.2.2.1, d7.2.2.2.2.2.2.2.2.2.2.2.1, d7.2.2.2.2.2.2.2.2.2.2.2.2.1, d7.2.2.2.2.2.2.2.2.2.2.2.2.2.1, d7.2.2.2.2.2.2.2.2.2.2.2.2.2.2)))
                  else
                    none)
                else
                  (impl_CellsOf 7 ([] : List UInt8) (cvtI .i32 u8) (!(decide (andI .u32 d7.2.1 16 = 0))) 0).bind fun r11 =>
                  (bif decide (2 ≤ len d7.1) then
                    (slices_Equal_uint32 r11 (d7.1.take 2)).bind fun r12 =>
                    (bif r12 then
                      some (.inl (d7.2.2.2.2.2.1, d7.2.2.2.2.2.2.1, d7.2.2.2.2.2.2.2.1, d7.2.2.2.2.2.2.2.2.1, d7.2.2.2.2.2.2.2.2.2.1, 7, ([] : List UInt8), cvtI .i32 u8, !(decide (andI .u32 d7.2.1 16 = 0)), 0))
                    else
                      some (.inl (d7.2.2.2.2.2.1, d7.2.2.2.2.2.2.1, d7.2.2.2.2.2.2.2.1, d7.2.2.2.2.2.2.2.2.1, d7.2.2.2.2.2.2.2.2.2.1, d7.2.2.2.2.2.2.2.2.2.2.1, d7.2.2.2.2.2.2.2.2.2.2.2.1, d7.2.2.2.2.2.2.2.2.2.2.2.2.1, d7.2.2.2.2.2.2.2.2.2.2.2.2.2.1, d7.2.2.2.2.2.2.2.2.2.2.2.2.2.2)))
                  else
                    none)))
            else
              (bif decide (d7.2.2.2.1 = 12) then
                (bif decide (1 < len d7.1) then
                  (impl_FieldOk (shrI .u32 d7.2.1 4)).bind fun r13 =>
                  (bif r13 then
                    (impl_UnpackOne (shrI .u32 d7.2.1 4)).bind fun r14 =>
                    (Ev.nth d7.1 1).bind fun u15 =>
                    some (.inl (d7.2.2.2.2.2.1, d7.2.2.2.2.2.2.1, d7.2.2.2.2.2.2.2.1, d7.2.2.2.2.2.2.2.2.1, d7.2.2.2.2.2.2.2.2.2.1, 9, r14, cvtI .i32 u15, false, 0))
                  else
                    some (.inl (d7.2.2.2.2.2.1, d7.2.2.2.2.2.2.1, d7.2.2.2.2.2.2.2.1, d7.2.2.2.2.2.2.2.2.1, d7.2.2.2.2.2.2.2.2.2.1, d7.2.2.2.2.2.2.2.2.2.2.1, d7.2.2.2.2.2.2.2.2.2.2.2.1, d7.2.2.2.2.2.2.2.2.2.2.2.2.1, d7.2.2.2.2.2.2.2.2.2.2.2.2.2.1, d7.2.2.2.2.2.2.2.2.2.2.2.2.2.2)))
                else
                  some (.inl (d7.2.2.2.2.2.1, d7.2.2.2.2.2.2.1, d7.2.2.2.2.2.2.2.1, d7.2.2.2.2.2.2.2.2.1, d7.2.2.2.2.2.2.2.2.2.1, d7.2.2.2.2.2.2.2.2.2.2.1, d7.2.2.2.2.2.2.2.2.2.2.2.1, d7.2.2.2.2.2.2.2.2.2.2.2.2.1, d7.2.2.2.2.2.2.2.2.2.2.2.2.2.1, d7.2.2.2.2.2.2.2.2.2.2.2.2.2.2)))
              else
                some (.inl (d7.2.2.2.2.2.1, d7.2.2.2.2.2.2.1, d7.2.2.2.2.2.2.2.1, d7.2.2.2.2.2.2.2.2.1, d7.2.2.2.2.2.2.2.2.2.1, d7.2.2.2.2.2.2.2.2.2.2.1, d7.2.2.2.2.2.2.2.2.2.2.2.1, d7.2.2.2.2.2.2.2.2.2.2.2.2.1, d7.2.2.2.2.2.2.2.2.2.2.2.2.2.1, d7.2.2.2.2.2.2.2.2.2.2.2.2.2.2))))))) : Option ((Int × (List UInt8) × Int × Bool × Int × Int × (List UInt8) × Int × Bool × Int) ⊕ (Int × (List UInt8) × Int × Bool × Int × Int × (List UInt8) × Int × Bool × Int)))).bind fun d16 =>
    Sum.elim (fun s17 =>
      some (s17.2.2.2.2.2.1, s17.2.2.2.2.2.2.1, s17.2.2.2.2.2.2.2.1, s17.2.2.2.2.2.2.2.2.1, s17.2.2.2.2.2.2.2.2.2)) (fun s18 =>
      some (s18.2.2.2.2.2.1, s18.2.2.2.2.2.2.1, s18.2.2.2.2.2.2.2.1, s18.2.2.2.2.2.2.2.2.1, s18.2.2.2.2.2.2.2.2.2)) d16 :=
  (lim_fun' _ _).trans (by kernel_rfl)
noncomputable def impl_ParseCells (x1 : List (Int)) : Option ((List (Int × (List UInt8) × Int × Bool × Int))) := L.callee 53 x1
noncomputable def impl_ParseCells_l4 (a1 : List (Int)) (a2 : List (Int × (List UInt8) × Int × Bool × Int)) : Option ((List (Int × (List UInt8) × Int × Bool × Int))) := L.loop 53 4 (a1, a2)
noncomputable def impl_ParseCells_l9 (a1 : List (Int × (List UInt8) × Int × Bool × Int)) (a2 : Int) : Option ((List (Int × (List UInt8) × Int × Bool × Int))) := L.loop 53 9 (a1, a2)
theorem impl_ParseCells_l4_eq (a1 : List (Int)) (a2 : List (Int × (List UInt8) × Int × Bool × Int)) : impl_ParseCells_l4 a1 a2 =
    (bif decide (0 < len a1) then
      (impl_parseOne a1).bind fun r1 =>
      (bif decide (a2.length + 1 < 3518437208883) then
        (impl_CellsOf r1.1 r1.2.1 r1.2.2.1 r1.2.2.2.1 r1.2.2.2.2).bind fun r2 =>
        (bif (decide (0 ≤ len r2)) && (decide (len r2 ≤ len a1)) then
          impl_ParseCells_l4 (a1.drop ((len r2).toNat)) (a2 ++ [(r1.1, r1.2.1, r1.2.2.1, r1.2.2.2.1, r1.2.2.2.2)])
        else
          none)
      else
        none)
    else
      some a2) :=
  (lim_round' _ _ _).trans (by kernel_rfl)
theorem impl_ParseCells_l9_eq (a1 : List (Int × (List UInt8) × Int × Bool × Int)) (a2 : Int) : impl_ParseCells_l9 a1 a2 =
    (bif decide (0 ≤ a2) then
      (bif (decide (0 ≤ a2)) && (decide (a2 < (a1.length : Int))) then
        (a1[a2.toNat]?).bind fun u1 =>
        (bif (decide (u1.1 = 0)) && ((decide (u1.2.1 = ([] : List UInt8))) && ((decide (u1.2.2.1 = 0)) && ((u1.2.2.2.1 == false) && (decide (u1.2.2.2.2 = 0))))) then
          (bif (decide (0 ≤ a2)) && (decide (a2 ≤ (a1.length : Int))) then
            impl_ParseCells_l9 ((a1.take (0 + a2.toNat)).drop 0) (subI .i64 a2 1)
          else
            none)
        else
          some a1)
      else
        none)
    else
      some a1) :=
  (lim_round' _ _ _).trans (by kernel_rfl)
theorem impl_ParseCells_eq (x1 : List (Int)) : impl_ParseCells x1 =
    (bif decide (64 < len x1) then
      some ([] : List (Int × (List UInt8) × Int × Bool × Int))
    else
      (impl_ParseCells_l4 x1 ([] : List (Int × (List UInt8) × Int × Bool × Int))).bind fun d1 =>
      (impl_ParseCells_l9 d1 (subI .i64 (len d1) 1)).bind fun d2 =>
      some d2) :=
  (lim_fun' _ _).trans (by kernel_rfl)
noncomputable def slices_Equal_Item (x1 : List (Int × (List UInt8) × Int × Bool × Int)) (x2 : List (Int × (List UInt8) × Int × Bool × Int)) : Option (Bool) := L.callee 52 (x1, x2)
noncomputable def slices_Equal_Item_l4 (a1 : List (Int × (List UInt8) × Int × Bool × Int)) (a2 : List (Int × (List UInt8) × Int × Bool × Int)) (a3 : Int) (a4 : Int) : Option ((Unit) ⊕ (Bool)) := L.loop 52 4 (a1, a2, a3, a4)
theorem slices_Equal_Item_l4_eq (a1 : List (Int × (List UInt8) × Int × Bool × Int)) (a2 : List (Int × (List UInt8) × Int × Bool × Int)) (a3 : Int) (a4 : Int) : slices_Equal_Item_l4 a1 a2 a3 a4 =
    (bif decide (a4 < a3) then
      (Ev.nth a1 a4).bind fun u1 =>
      (Ev.nth a2 a4).bind fun u2 =>
      (bif !((decide (u1.1 = u2.1)) && ((decide (u1.2.1 = u2.2.1)) && ((decide (u1.2.2.1 = u2.2.2.1)) && ((u1.2.2.2.1 == u2.2.2.2.1) && (decide (u1.2.2.2.2 = u2.2.2.2.2)))))) then
        some (.inr false)
      else
        slices_Equal_Item_l4 a1 a2 a3 (addI .i64 a4 1))
    else
      some (.inl ())) :=
  (lim_round' _ _ _).trans (by kernel_rfl)
theorem slices_Equal_Item_eq (x1 : List (Int × (List UInt8) × Int × Bool × Int)) (x2 : List (Int × (List UInt8) × Int × Bool × Int)) : slices_Equal_Item x1 x2 =
    (bif !(decide (len x1 = len x2)) then
      some false
    else
      (slices_Equal_Item_l4 x1 x2 (len x1) 0).bind fun d1 =>
      Sum.elim (fun s2 =>
        some true) (fun s3 =>
        some s3) d1) :=
  (lim_fun' _ _).trans (by kernel_rfl)
noncomputable def impl_ListOk (x1 : List (Int × (List UInt8) × Int × Bool × Int)) : Option (Bool) := L.callee 36 x1
theorem impl_ListOk_eq (x1 : List (Int × (List UInt8) × Int × Bool × Int)) : impl_ListOk x1 =
    (impl_Unparse x1).bind fun r1 =>
    (bif r1.2 then
      (impl_ParseCells r1.1).bind fun r2 =>
      (slices_Equal_Item r2 x1).bind fun r3 =>
      some r3
    else
      some false) :=
  (lim_fun' _ _).trans (by kernel_rfl)
noncomputable def impl_EdOk (x1 : List (Int × (List UInt8) × Int × Bool × Int)) (x2 : List (Int × (List UInt8) × Int × Bool × Int)) (x3 : List (Int × (List UInt8) × Int × Bool × Int)) : Option (Bool) := L.callee 16 (x1, x2, x3)
theorem impl_EdOk_eq (x1 : List (Int × (List UInt8) × Int × Bool × Int)) (x2 : List (Int × (List UInt8) × Int × Bool × Int)) (x3 : List (Int × (List UInt8) × Int × Bool × Int)) : impl_EdOk x1 x2 x3 =
    (bif decide (len x3 ≤ 20) then
      (slices_ContainsFunc_Item_impl_EdOk_c1 x3).bind fun r1 =>
      (bif !r1 then
        (impl_edItems x1 x2 x3).bind fun r2 =>
        (impl_ListOk r2).bind fun r3 =>
        some r3
      else
        some false)
    else
      some false) :=
  (lim_fun' _ _).trans (by kernel_rfl)
noncomputable def slices_Clone_Item (x1 : List (Int × (List UInt8) × Int × Bool × Int)) : Option ((List (Int × (List UInt8) × Int × Bool × Int))) := L.callee 42 x1
theorem slices_Clone_Item_eq (x1 : List (Int × (List UInt8) × Int × Bool × Int)) : slices_Clone_Item x1 = cloneF itemR 40 x1 := (lim_fun' 42 _).trans (by kernel_rfl)
noncomputable def impl_ownEd (x1 : List (Int × (List UInt8) × Int × Bool × Int)) (x2 : List (Int × (List UInt8) × Int × Bool × Int)) (x3 : List (Int × (List UInt8) × Int × Bool × Int)) : Option ((List (Int × (List UInt8) × Int × Bool × Int)) × (List (Int × (List UInt8) × Int × Bool × Int)) × (List (Int × (List UInt8) × Int × Bool × Int))) := L.callee 21 (x1, x2, x3)
theorem impl_ownEd_eq (x1 : List (Int × (List UInt8) × Int × Bool × Int)) (x2 : List (Int × (List UInt8) × Int × Bool × Int)) (x3 : List (Int × (List UInt8) × Int × Bool × Int)) : impl_ownEd x1 x2 x3 =
    (slices_Clone_Item x1).bind fun r1 =>
    (slices_Clone_Item x2).bind fun r2 =>
    (slices_Clone_Item x3).bind fun r3 =>
    some (r1, r2, r3) :=
  (lim_fun' _ _).trans (by kernel_rfl)
noncomputable def slices_Insert_Item (x1 : List (Int × (List UInt8) × Int × Bool × Int)) (x2 : Int) (x3 : List (Int × (List UInt8) × Int × Bool × Int)) : Option ((List (Int × (List UInt8) × Int × Bool × Int))) := L.callee 40 (x1, x2, x3)
theorem slices_Insert_Item_eq (x1 : List (Int × (List UInt8) × Int × Bool × Int)) (x2 : Int) (x3 : List (Int × (List UInt8) × Int × Bool × Int)) : slices_Insert_Item x1 x2 x3 = insF itemR 40 (x1, x2, x3) := (lim_fun' 40 _).trans (by kernel_rfl)
noncomputable def impl_Recolor (x1 : Int) (x2 : List UInt8) (x3 : Int) (x4 : Bool) (x5 : Int) (x6 : Int) : Option (Int × (List UInt8) × Int × Bool × Int × Bool) := L.callee 41 (x1, x2, x3, x4, x5, x6)
theorem impl_Recolor_eq (x1 : Int) (x2 : List UInt8) (x3 : Int) (x4 : Bool) (x5 : Int) (x6 : Int) : impl_Recolor x1 x2 x3 x4 x5 x6 =
    ((
      (impl_nameTag x1).bind fun r1 =>
      (bif decide (0 < r1) then
        (impl_nameTag x6).bind fun r2 =>
        some (x6, decide (0 < r2), x1, x2, x3, x4, x5, 0, ([] : List UInt8), 0, false, 0)
      else
        some (x6, false, x1, x2, x3, x4, x5, 0, ([] : List UInt8), 0, false, 0)) : Option (Int × Bool × Int × (List UInt8) × Int × Bool × Int × Int × (List UInt8) × Int × Bool × Int))).bind fun d3 =>
    ((
      (bif decide (d3.2.2.1 = 7) then
        (bif decide (d3.1 = 7) then
          some (d3.1, d3.2.1, true, d3.2.2.1, d3.2.2.2.1, d3.2.2.2.2.1, d3.2.2.2.2.2.1, d3.2.2.2.2.2.2.1, d3.2.2.2.2.2.2.2.1, d3.2.2.2.2.2.2.2.2.1, d3.2.2.2.2.2.2.2.2.2.1, d3.2.2.2.2.2.2.2.2.2.2.1, d3.2.2.2.2.2.2.2.2.2.2.2)
        else
          some (d3.1, d3.2.1, decide (d3.1 = 8), d3.2.2.1, d3.2.2.2.1, d3.2.2.2.2.1, d3.2.2.2.2.2.1, d3.2.2.2.2.2.2.1, d3.2.2.2.2.2.2.2.1, d3.2.2.2.2.2.2.2.2.1, d3.2.2.2.2.2.2.2.2.2.1, d3.2.2.2.2.2.2.2.2.2.2.1, d3.2.2.2.2.2.2.2.2.2.2.2))
      else
        (bif decide (d3.2.2.1 = 8) then
          (bif decide (d3.1 = 7) then
            some (d3.1, d3.2.1, true, d3.2.2.1, d3.2.2.2.1, d3.2.2.2.2.1, d3.2.2.2.2.2.1, d3.2.2.2.2.2.2.1, d3.2.2.2.2.2.2.2.1, d3.2.2.2.2.2.2.2.2.1, d3.2.2.2.2.2.2.2.2.2.1, d3.2.2.2.2.2.2.2.2.2.2.1, d3.2.2.2.2.2.2.2.2.2.2.2)
          else
            some (d3.1, d3.2.1, decide (d3.1 = 8), d3.2.2.1, d3.2.2.2.1, d3.2.2.2.2.1, d3.2.2.2.2.2.1, d3.2.2.2.2.2.2.1, d3.2.2.2.2.2.2.2.1, d3.2.2.2.2.2.2.2.2.1, d3.2.2.2.2.2.2.2.2.2.1, d3.2.2.2.2.2.2.2.2.2.2.1, d3.2.2.2.2.2.2.2.2.2.2.2))
        else
          some (d3.1, d3.2.1, false, d3.2.2.1, d3.2.2.2.1, d3.2.2.2.2.1, d3.2.2.2.2.2.1, d3.2.2.2.2.2.2.1, d3.2.2.2.2.2.2.2.1, d3.2.2.2.2.2.2.2.2.1, d3.2.2.2.2.2.2.2.2.2.1, d3.2.2.2.2.2.2.2.2.2.2.1, d3.2.2.2.2.2.2.2.2.2.2.2))) : Option (Int × Bool × Bool × Int × (List UInt8) × Int × Bool × Int × Int × (List UInt8) × Int × Bool × Int))).bind fun d4 =>
    (impl_ItemOk d4.2.2.2.1 d4.2.2.2.2.1 d4.2.2.2.2.2.1 d4.2.2.2.2.2.2.1 d4.2.2.2.2.2.2.2.1).bind fun r5 =>
    (bif !r5 then
      some (0, ([] : List UInt8), 0, false, 0, false)
    else
      (bif !d4.2.1 then
        (bif !d4.2.2.1 then
          (bif !(decide (d4.1 = d4.2.2.2.1)) then
            some (0, ([] : List UInt8), 0, false, 0, false)
          else
            some (d4.1, d4.2.2.2.2.1, d4.2.2.2.2.2.1, d4.2.2.2.2.2.2.1, d4.2.2.2.2.2.2.2.1, true))
        else
          some (d4.1, d4.2.2.2.2.1, d4.2.2.2.2.2.1, d4.2.2.2.2.2.2.1, d4.2.2.2.2.2.2.2.1, true))
      else
        some (d4.1, d4.2.2.2.2.1, d4.2.2.2.2.2.1, d4.2.2.2.2.2.2.1, d4.2.2.2.2.2.2.2.1, true))) :=
  (lim_fun' _ _).trans (by kernel_rfl)
noncomputable def impl_pressed (x1 : List (Int × (List UInt8) × Int × Bool × Int)) (x2 : List (Int × (List UInt8) × Int × Bool × Int)) (x3 : List (Int × (List UInt8) × Int × Bool × Int)) (x4 : Int) (x5 : Int) (x6 : List UInt8) (x7 : Int) (x8 : Bool) (x9 : Int) : Option ((List (Int × (List UInt8) × Int × Bool × Int)) × (List (Int × (List UInt8) × Int × Bool × Int)) × (List (Int × (List UInt8) × Int × Bool × Int)) × Bool) := L.callee 20 (x1, x2, x3, x4, x5, x6, x7, x8, x9)
theorem impl_pressed_eq (x1 : List (Int × (List UInt8) × Int × Bool × Int)) (x2 : List (Int × (List UInt8) × Int × Bool × Int)) (x3 : List (Int × (List UInt8) × Int × Bool × Int)) (x4 : Int) (x5 : Int) (x6 : List UInt8) (x7 : Int) (x8 : Bool) (x9 : Int) : impl_pressed x1 x2 x3 x4 x5 x6 x7 x8 x9 =
    (impl_ownEd x1 x2 x3).bind fun r1 =>
    (bif decide (x4 = 0) then
      (bif decide (len x1 = 0) then
        some (x1, x2, x3, false)
      else
        (bif (decide (0 ≤ subI .i64 (len x1) 1)) && (decide (subI .i64 (len x1) 1 < (r1.1.length : Int))) then
          (r1.1[((subI .i64 (len x1) 1).toNat)]?).bind fun u2 =>
          (slices_Insert_Item r1.2.1 0 [(u2.1, u2.2.1, u2.2.2.1, u2.2.2.2.1, u2.2.2.2.2)]).bind fun r3 =>
          (bif (decide (0 ≤ subI .i64 (len x1) 1)) && (decide (subI .i64 (len x1) 1 ≤ (r1.1.length : Int))) then
            (impl_EdOk ((r1.1.take (0 + ((subI .i64 (len x1) 1).toNat))).drop 0) r3 r1.2.2).bind fun r4 =>
            some ((r1.1.take (0 + ((subI .i64 (len x1) 1).toNat))).drop 0, r3, r1.2.2, r4)
          else
            none)
        else
          none))
    else
      ((
        (bif decide (x4 = 1) then
          (bif decide (len x2 = 0) then
            some (.inr (false, x1, x2, x3))
          else
            (bif decide (0 < (r1.2.1.length : Int)) then
              (r1.2.1[0]?).bind fun u5 =>
              (bif decide (r1.1.length + 1 < 3518437208883) then
                (bif decide (1 ≤ (r1.2.1.length : Int)) then
                  some (.inl (([] : List (Int × (List UInt8) × Int × Bool × Int)), ([] : List (Int × (List UInt8) × Int × Bool × Int)), ([] : List (Int × (List UInt8) × Int × Bool × Int)), r1.1 ++ [(u5.1, u5.2.1, u5.2.2.1, u5.2.2.2.1, u5.2.2.2.2)], (r1.2.1.take (0 + (r1.2.1.length : Int).toNat)).drop 1, r1.2.2))
                else
                  none)
              else
                none)
            else
              none))
        else
          (bif decide (x4 = 2) then
            (impl_edItems x1 x2 x3).bind fun r6 =>
            some (.inl (([] : List (Int × (List UInt8) × Int × Bool × Int)), ([] : List (Int × (List UInt8) × Int × Bool × Int)), ([] : List (Int × (List UInt8) × Int × Bool × Int)), ([] : List (Int × (List UInt8) × Int × Bool × Int)), r6, r1.2.2))
          else
            (bif decide (x4 = 3) then
              (impl_edItems x1 x2 x3).bind fun r7 =>
              some (.inl (([] : List (Int × (List UInt8) × Int × Bool × Int)), ([] : List (Int × (List UInt8) × Int × Bool × Int)), ([] : List (Int × (List UInt8) × Int × Bool × Int)), r7, ([] : List (Int × (List UInt8) × Int × Bool × Int)), r1.2.2))
            else
              (bif decide (x4 = 4) then
                (bif decide (r1.1.length + 1 < 3518437208883) then
                  some (.inl (([] : List (Int × (List UInt8) × Int × Bool × Int)), ([] : List (Int × (List UInt8) × Int × Bool × Int)), ([] : List (Int × (List UInt8) × Int × Bool × Int)), r1.1 ++ [(x5, x6, x7, x8, x9)], r1.2.1, r1.2.2))
                else
                  none)
              else
                (bif decide (x4 = 5) then
                  (bif decide (len x1 = 0) then
                    some (.inr (false, x1, x2, x3))
                  else
                    (bif (decide (0 ≤ subI .i64 (len x1) 1)) && (decide (subI .i64 (len x1) 1 < (r1.1.length : Int))) then
                      (r1.1[((subI .i64 (len x1) 1).toNat)]?).bind fun u8 =>
                      (bif decide (r1.2.2.length + 1 < 3518437208883) then
                        (bif (decide (0 ≤ subI .i64 (len x1) 1)) && (decide (subI .i64 (len x1) 1 ≤ (r1.1.length : Int))) then
                          some (.inl (([] : List (Int × (List UInt8) × Int × Bool × Int)), ([] : List (Int × (List UInt8) × Int × Bool × Int)), ([] : List (Int × (List UInt8) × Int × Bool × Int)), (r1.1.take (0 + ((subI .i64 (len x1) 1).toNat))).drop 0, r1.2.1, r1.2.2 ++ [(u8.1, u8.2.1, u8.2.2.1, u8.2.2.2.1, u8.2.2.2.2)]))
                        else
                          none)
                      else
                        none)
                    else
                      none))
                else
                  (bif decide (x4 = 6) then
                    (bif decide (subI .i64 (len r1.2.2) 1 < 0) then
                      some (.inr (false, x1, x2, x3))
                    else
                      (bif (decide (0 ≤ subI .i64 (len r1.2.2) 1)) && (decide (subI .i64 (len r1.2.2) 1 < (r1.2.2.length : Int))) then
                        (r1.2.2[((subI .i64 (len r1.2.2) 1).toNat)]?).bind fun u9 =>
                        (bif decide (r1.1.length + 1 < 3518437208883) then
                          (bif (decide (0 ≤ subI .i64 (len r1.2.2) 1)) && (decide (subI .i64 (len r1.2.2) 1 ≤ (r1.2.2.length : Int))) then
                            some (.inl (([] : List (Int × (List UInt8) × Int × Bool × Int)), ([] : List (Int × (List UInt8) × Int × Bool × Int)), ([] : List (Int × (List UInt8) × Int × Bool × Int)), r1.1 ++ [(u9.1, u9.2.1, u9.2.2.1, u9.2.2.2.1, u9.2.2.2.2)], r1.2.1, (r1.2.2.take (0 + ((subI .i64 (len r1.2.2) 1).toNat))).drop 0))
                          else
                            none)
                        else
                          none)
                      else
                        none))
                  else
                    (bif decide (x4 = 7) then
                      (bif decide (len x1 = 0) then
                        some (.inr (false, x1, x2, x3))
                      else
                        (bif (decide (0 ≤ subI .i64 (len x1) 1)) && (decide (subI .i64 (len x1) 1 < (r1.1.length : Int))) then
                          (r1.1[((subI .i64 (len x1) 1).toNat)]?).bind fun u10 =>
                          (impl_Recolor u10.1 u10.2.1 u10.2.2.1 u10.2.2.2.1 u10.2.2.2.2 x5).bind fun r11 =>
                          (bif !r11.2.2.2.2.2 then
                            some (.inr (false, x1, x2, x3))
                          else
                            (bif (decide (0 ≤ subI .i64 (len x1) 1)) && (decide (subI .i64 (len x1) 1 < (r1.1.length : Int))) then
                              (r1.1[((subI .i64 (len x1) 1).toNat)]?).bind fun u12 =>
                              some (.inl (([] : List (Int × (List UInt8) × Int × Bool × Int)), ([] : List (Int × (List UInt8) × Int × Bool × Int)), ([] : List (Int × (List UInt8) × Int × Bool × Int)), r1.1.set ((subI .i64 (len x1) 1).toNat) (r11.1, r11.2.1, r11.2.2.1, r11.2.2.2.1, r11.2.2.2.2.1), r1.2.1, r1.2.2))
                            else
                              none))
                        else
                          none))
                    else
                      some (.inr (false, x1, x2, x3))))))))) : Option (((List (Int × (List UInt8) × Int × Bool × Int)) × (List (Int × (List UInt8) × Int × Bool × Int)) × (List (Int × (List UInt8) × Int × Bool × Int)) × (List (Int × (List UInt8) × Int × Bool × Int)) × (List (Int × (List UInt8) × Int × Bool × Int)) × (List (Int × (List UInt8) × Int × Bool × Int))) ⊕ (Bool × (List (Int × (List UInt8) × Int × Bool × Int)) × (List (Int × (List UInt8) × Int × Bool × Int)) × (List (Int × (List UInt8) × Int × Bool × Int)))))).bind fun d13 =>
      Sum.elim (fun s14 =>
        (impl_EdOk s14.2.2.2.1 s14.2.2.2.2.1 s14.2.2.2.2.2).bind fun r16 =>
        some (s14.2.2.2.1, s14.2.2.2.2.1, s14.2.2.2.2.2, r16)) (fun s15 =>
        some (s15.2.1, s15.2.2.1, s15.2.2.2, s15.1)) d13) :=
  (lim_fun' _ _).trans (by kernel_rfl)
noncomputable def impl_Press (x1 : List (Int × (List UInt8) × Int × Bool × Int)) (x2 : List (Int × (List UInt8) × Int × Bool × Int)) (x3 : List (Int × (List UInt8) × Int × Bool × Int)) (x4 : Int) (x5 : Int) (x6 : List UInt8) (x7 : Int) (x8 : Bool) (x9 : Int) : Option ((List (Int × (List UInt8) × Int × Bool × Int)) × (List (Int × (List UInt8) × Int × Bool × Int)) × (List (Int × (List UInt8) × Int × Bool × Int)) × Bool) := L.callee 7 (x1, x2, x3, x4, x5, x6, x7, x8, x9)
theorem impl_Press_eq (x1 : List (Int × (List UInt8) × Int × Bool × Int)) (x2 : List (Int × (List UInt8) × Int × Bool × Int)) (x3 : List (Int × (List UInt8) × Int × Bool × Int)) (x4 : Int) (x5 : Int) (x6 : List UInt8) (x7 : Int) (x8 : Bool) (x9 : Int) : impl_Press x1 x2 x3 x4 x5 x6 x7 x8 x9 =
    (impl_EdOk x1 x2 x3).bind fun r1 =>
    (bif !r1 then
      some (([] : List (Int × (List UInt8) × Int × Bool × Int)), ([] : List (Int × (List UInt8) × Int × Bool × Int)), ([] : List (Int × (List UInt8) × Int × Bool × Int)), false)
    else
      (impl_pressed x1 x2 x3 x4 x5 x6 x7 x8 x9).bind fun r2 =>
      (bif !r2.2.2.2 then
        (impl_ownEd x1 x2 x3).bind fun r3 =>
        some (r3.1, r3.2.1, r3.2.2, false)
      else
        (impl_ownEd r2.1 r2.2.1 r2.2.2.1).bind fun r4 =>
        some (r4.1, r4.2.1, r4.2.2, true))) :=
  (lim_fun' _ _).trans (by kernel_rfl)
noncomputable def spec_ItemOk (x1 : Int) (x2 : List UInt8) (x3 : Int) (x4 : Bool) (x5 : Int) : Option (Bool) := L.callee 26 (x1, x2, x3, x4, x5)
theorem spec_ItemOk_eq (x1 : Int) (x2 : List UInt8) (x3 : Int) (x4 : Bool) (x5 : Int) : spec_ItemOk x1 x2 x3 x4 x5 =
    (spec_CellsOf x1 x2 x3 x4 x5).bind fun r1 =>
    some (decide (0 < len r1)) :=
  (lim_fun' _ _).trans (by kernel_rfl)
noncomputable def spec_l07All (x1 : List (Int × (List UInt8) × Int × Bool × Int)) (x2 : List (Int × (List UInt8) × Int × Bool × Int)) (x3 : List (Int × (List UInt8) × Int × Bool × Int)) : Option ((List (Int × (List UInt8) × Int × Bool × Int))) := L.callee 28 (x1, x2, x3)
theorem spec_l07All_eq (x1 : List (Int × (List UInt8) × Int × Bool × Int)) (x2 : List (Int × (List UInt8) × Int × Bool × Int)) (x3 : List (Int × (List UInt8) × Int × Bool × Int)) : spec_l07All x1 x2 x3 =
    (bif decide (64 < len x1) then
      some (List.replicate 65 (0, ([] : List UInt8), 0, false, 0))
    else
      (bif decide (64 < len x2) then
        some (List.replicate 65 (0, ([] : List UInt8), 0, false, 0))
      else
        (bif decide (0 + x1.length < 3518437208883) then
          (bif decide (x1.length + x2.length < 3518437208883) then
            some (x1 ++ x2)
          else
            none)
        else
          none))) :=
  (lim_fun' _ _).trans (by kernel_rfl)
noncomputable def spec_Unparse (x1 : List (Int × (List UInt8) × Int × Bool × Int)) : Option ((List (Int)) × Bool) := L.callee 45 x1
noncomputable def spec_Unparse_l3 (a1 : List (Int × (List UInt8) × Int × Bool × Int)) (a2 : List (Int)) (a3 : Int) : Option (((List (Int))) ⊕ ((List (Int)) × Bool)) := L.loop 45 3 (a1, a2, a3)
theorem spec_Unparse_l3_eq (a1 : List (Int × (List UInt8) × Int × Bool × Int)) (a2 : List (Int)) (a3 : Int) : spec_Unparse_l3 a1 a2 a3 =
    (bif decide (a3 < len a1) then
      (Ev.nth a1 a3).bind fun u1 =>
      (spec_CellsOf u1.1 u1.2.1 u1.2.2.1 u1.2.2.2.1 u1.2.2.2.2).bind fun r2 =>
      (bif decide (len r2 = 0) then
        some (.inr (([] : List (Int)), false))
      else
        (bif decide (64 < addI .i64 (len a2) (len r2)) then
          some (.inr (([] : List (Int)), false))
        else
          (bif decide (a2.length + r2.length < 35184372088832) then
            spec_Unparse_l3 a1 (a2 ++ r2) (addI .i64 a3 1)
          else
            none)))
    else
      some (.inl a2)) :=
  (lim_round' _ _ _).trans (by kernel_rfl)
theorem spec_Unparse_eq (x1 : List (Int × (List UInt8) × Int × Bool × Int)) : spec_Unparse x1 =
    (spec_Unparse_l3 x1 ([] : List (Int)) 0).bind fun d1 =>
    Sum.elim (fun s2 =>
      some (s2, true)) (fun s3 =>
      some (s3.1, s3.2)) d1 :=
  (lim_fun' _ _).trans (by kernel_rfl)
noncomputable def spec_l04Same (x1 : List (Int × (List UInt8) × Int × Bool × Int)) (x2 : List (Int × (List UInt8) × Int × Bool × Int)) : Option (Bool) := L.callee 46 (x1, x2)
noncomputable def spec_l04Same_l4 (a1 : List (Int × (List UInt8) × Int × Bool × Int)) (a2 : List (Int × (List UInt8) × Int × Bool × Int)) (a3 : Int) : Option ((Unit) ⊕ (Bool)) := L.loop 46 4 (a1, a2, a3)
theorem spec_l04Same_l4_eq (a1 : List (Int × (List UInt8) × Int × Bool × Int)) (a2 : List (Int × (List UInt8) × Int × Bool × Int)) (a3 : Int) : spec_l04Same_l4 a1 a2 a3 =
    (bif decide (a3 < len a1) then
      (Ev.nth a1 a3).bind fun u1 =>
      (Ev.nth a2 a3).bind fun u2 =>
      (bif !((decide (u1.1 = u2.1)) && ((decide (u1.2.1 = u2.2.1)) && ((decide (u1.2.2.1 = u2.2.2.1)) && ((u1.2.2.2.1 == u2.2.2.2.1) && (decide (u1.2.2.2.2 = u2.2.2.2.2)))))) then
        some (.inr false)
      else
        spec_l04Same_l4 a1 a2 (addI .i64 a3 1))
    else
      some (.inl ())) :=
  (lim_round' _ _ _).trans (by kernel_rfl)
theorem spec_l04Same_eq (x1 : List (Int × (List UInt8) × Int × Bool × Int)) (x2 : List (Int × (List UInt8) × Int × Bool × Int)) : spec_l04Same x1 x2 =
    (bif !(decide (len x1 = len x2)) then
      some false
    else
      (spec_l04Same_l4 x1 x2 0).bind fun d1 =>
      Sum.elim (fun s2 =>
        some true) (fun s3 =>
        some s3) d1) :=
  (lim_fun' _ _).trans (by kernel_rfl)
noncomputable def spec_ListOk (x1 : List (Int × (List UInt8) × Int × Bool × Int)) : Option (Bool) := L.callee 27 x1
theorem spec_ListOk_eq (x1 : List (Int × (List UInt8) × Int × Bool × Int)) : spec_ListOk x1 =
    (spec_Unparse x1).bind fun r1 =>
    (bif r1.2 then
      (spec_ParseCells r1.1).bind fun r2 =>
      (spec_l04Same r2 x1).bind fun r3 =>
      some r3
    else
      some false) :=
  (lim_fun' _ _).trans (by kernel_rfl)
noncomputable def spec_EdOk (x1 : List (Int × (List UInt8) × Int × Bool × Int)) (x2 : List (Int × (List UInt8) × Int × Bool × Int)) (x3 : List (Int × (List UInt8) × Int × Bool × Int)) : Option (Bool) := L.callee 9 (x1, x2, x3)
noncomputable def spec_EdOk_l4 (a1 : Int) (a2 : List (Int × (List UInt8) × Int × Bool × Int)) (a3 : List (Int × (List UInt8) × Int × Bool × Int)) (a4 : List (Int × (List UInt8) × Int × Bool × Int)) : Option (((List (Int × (List UInt8) × Int × Bool × Int)) × (List (Int × (List UInt8) × Int × Bool × Int)) × (List (Int × (List UInt8) × Int × Bool × Int))) ⊕ (Bool)) := L.loop 9 4 (a1, a2, a3, a4)
theorem spec_EdOk_l4_eq (a1 : Int) (a2 : List (Int × (List UInt8) × Int × Bool × Int)) (a3 : List (Int × (List UInt8) × Int × Bool × Int)) (a4 : List (Int × (List UInt8) × Int × Bool × Int)) : spec_EdOk_l4 a1 a2 a3 a4 =
    (bif decide (a1 < len a4) then
      (Ev.nth a4 a1).bind fun u1 =>
      (spec_ItemOk u1.1 u1.2.1 u1.2.2.1 u1.2.2.2.1 u1.2.2.2.2).bind fun r2 =>
      (bif !r2 then
        some (.inr false)
      else
        spec_EdOk_l4 (addI .i64 a1 1) a2 a3 a4)
    else
      some (.inl (a2, a3, a4))) :=
  (lim_round' _ _ _).trans (by kernel_rfl)
theorem spec_EdOk_eq (x1 : List (Int × (List UInt8) × Int × Bool × Int)) (x2 : List (Int × (List UInt8) × Int × Bool × Int)) (x3 : List (Int × (List UInt8) × Int × Bool × Int)) : spec_EdOk x1 x2 x3 =
    (bif decide (20 < len x3) then
      some false
    else
      (spec_EdOk_l4 0 x1 x2 x3).bind fun d1 =>
      Sum.elim (fun s2 =>
        (spec_l07All s2.1 s2.2.1 s2.2.2).bind fun r4 =>
        (spec_ListOk r4).bind fun r5 =>
        some r5) (fun s3 =>
        some s3) d1) :=
  (lim_fun' _ _).trans (by kernel_rfl)
noncomputable def spec_l07Copy (x1 : List (Int × (List UInt8) × Int × Bool × Int)) (x2 : List (Int × (List UInt8) × Int × Bool × Int)) (x3 : List (Int × (List UInt8) × Int × Bool × Int)) : Option ((List (Int × (List UInt8) × Int × Bool × Int)) × (List (Int × (List UInt8) × Int × Bool × Int)) × (List (Int × (List UInt8) × Int × Bool × Int))) := L.callee 22 (x1, x2, x3)
theorem spec_l07Copy_eq (x1 : List (Int × (List UInt8) × Int × Bool × Int)) (x2 : List (Int × (List UInt8) × Int × Bool × Int)) (x3 : List (Int × (List UInt8) × Int × Bool × Int)) : spec_l07Copy x1 x2 x3 =
    (bif decide (0 + x1.length < 3518437208883) then
      (bif decide (0 + x2.length < 3518437208883) then
        (bif decide (0 + x3.length < 3518437208883) then
          some (x1, x2, x3)
        else
          none)
      else
        none)
    else
      none) :=
  (lim_fun' _ _).trans (by kernel_rfl)
noncomputable def spec_l07Move (x1 : List (Int × (List UInt8) × Int × Bool × Int)) (x2 : List (Int × (List UInt8) × Int × Bool × Int)) (x3 : List (Int × (List UInt8) × Int × Bool × Int)) (x4 : Int) : Option ((List (Int × (List UInt8) × Int × Bool × Int)) × (List (Int × (List UInt8) × Int × Bool × Int)) × (List (Int × (List UInt8) × Int × Bool × Int)) × Bool) := L.callee 24 (x1, x2, x3, x4)
theorem spec_l07Move_eq (x1 : List (Int × (List UInt8) × Int × Bool × Int)) (x2 : List (Int × (List UInt8) × Int × Bool × Int)) (x3 : List (Int × (List UInt8) × Int × Bool × Int)) (x4 : Int) : spec_l07Move x1 x2 x3 x4 =
    (spec_l07All x1 x2 x3).bind fun r1 =>
    ((
      (bif decide (x4 = 0) then
        some (r1, subI .i64 (len x1) 1, x1, x2, x3, ([] : List (Int × (List UInt8) × Int × Bool × Int)), ([] : List (Int × (List UInt8) × Int × Bool × Int)), ([] : List (Int × (List UInt8) × Int × Bool × Int)))
      else
        (bif decide (x4 = 1) then
          some (r1, addI .i64 (len x1) 1, x1, x2, x3, ([] : List (Int × (List UInt8) × Int × Bool × Int)), ([] : List (Int × (List UInt8) × Int × Bool × Int)), ([] : List (Int × (List UInt8) × Int × Bool × Int)))
        else
          (bif decide (x4 = 2) then
            some (r1, 0, x1, x2, x3, ([] : List (Int × (List UInt8) × Int × Bool × Int)), ([] : List (Int × (List UInt8) × Int × Bool × Int)), ([] : List (Int × (List UInt8) × Int × Bool × Int)))
          else
            some (r1, len r1, x1, x2, x3, ([] : List (Int × (List UInt8) × Int × Bool × Int)), ([] : List (Int × (List UInt8) × Int × Bool × Int)), ([] : List (Int × (List UInt8) × Int × Bool × Int)))))) : Option ((List (Int × (List UInt8) × Int × Bool × Int)) × Int × (List (Int × (List UInt8) × Int × Bool × Int)) × (List (Int × (List UInt8) × Int × Bool × Int)) × (List (Int × (List UInt8) × Int × Bool × Int)) × (List (Int × (List UInt8) × Int × Bool × Int)) × (List (Int × (List UInt8) × Int × Bool × Int)) × (List (Int × (List UInt8) × Int × Bool × Int))))).bind fun d2 =>
    (spec_l01In d2.2.1 0 (len d2.1)).bind fun r3 =>
    (bif !r3 then
      some (d2.2.2.1, d2.2.2.2.1, d2.2.2.2.2.1, false)
    else
      (bif (decide (0 ≤ d2.2.1)) && (decide (d2.2.1 ≤ (d2.1.length : Int))) then
        (bif decide (0 + ((d2.1.take (0 + d2.2.1.toNat)).drop 0).length < 3518437208883) then
          (bif (decide (0 ≤ d2.2.1)) && (decide (d2.2.1 ≤ (d2.1.length : Int))) then
            (bif decide (0 + ((d2.1.take (0 + (d2.1.length : Int).toNat)).drop (0 + d2.2.1.toNat)).length < 3518437208883) then
              some ((d2.1.take (0 + d2.2.1.toNat)).drop 0, (d2.1.take (0 + (d2.1.length : Int).toNat)).drop (0 + d2.2.1.toNat), d2.2.2.2.2.1, true)
            else
              none)
          else
            none)
        else
          none)
      else
        none)) :=
  (lim_fun' _ _).trans (by kernel_rfl)
noncomputable def spec_Recolor (x1 : Int) (x2 : List UInt8) (x3 : Int) (x4 : Bool) (x5 : Int) (x6 : Int) : Option (Int × (List UInt8) × Int × Bool × Int × Bool) := L.callee 43 (x1, x2, x3, x4, x5, x6)
theorem spec_Recolor_eq (x1 : Int) (x2 : List UInt8) (x3 : Int) (x4 : Bool) (x5 : Int) (x6 : Int) : spec_Recolor x1 x2 x3 x4 x5 x6 =
    (spec_l01In x1 1 6).bind fun r1 =>
    (bif r1 then
      (spec_l01In x6 1 6).bind fun r2 =>
      (spec_l01In x1 7 8).bind fun r3 =>
      (bif r3 then
        (spec_l01In x6 7 8).bind fun r4 =>
        (spec_ItemOk x1 x2 x3 x4 x5).bind fun r5 =>
        (bif !r5 then
          some (0, ([] : List UInt8), 0, false, 0, false)
        else
          (bif !r2 then
            (bif !r4 then
              (bif !(decide (x1 = x6)) then
                some (0, ([] : List UInt8), 0, false, 0, false)
              else
                some (x6, x2, x3, x4, x5, true))
            else
              some (x6, x2, x3, x4, x5, true))
          else
            some (x6, x2, x3, x4, x5, true)))
      else
        (spec_ItemOk x1 x2 x3 x4 x5).bind fun r6 =>
        (bif !r6 then
          some (0, ([] : List UInt8), 0, false, 0, false)
        else
          (bif !r2 then
            (bif !(decide (x1 = x6)) then
              some (0, ([] : List UInt8), 0, false, 0, false)
            else
              some (x6, x2, x3, x4, x5, true))
          else
            some (x6, x2, x3, x4, x5, true))))
    else
      (spec_l01In x1 7 8).bind fun r7 =>
      (bif r7 then
        (spec_l01In x6 7 8).bind fun r8 =>
        (spec_ItemOk x1 x2 x3 x4 x5).bind fun r9 =>
        (bif !r9 then
          some (0, ([] : List UInt8), 0, false, 0, false)
        else
          (bif !r8 then
            (bif !(decide (x1 = x6)) then
              some (0, ([] : List UInt8), 0, false, 0, false)
            else
              some (x6, x2, x3, x4, x5, true))
          else
            some (x6, x2, x3, x4, x5, true)))
      else
        (spec_ItemOk x1 x2 x3 x4 x5).bind fun r10 =>
        (bif !r10 then
          some (0, ([] : List UInt8), 0, false, 0, false)
        else
          (bif !(decide (x1 = x6)) then
            some (0, ([] : List UInt8), 0, false, 0, false)
          else
            some (x6, x2, x3, x4, x5, true))))) :=
  (lim_fun' _ _).trans (by kernel_rfl)
noncomputable def spec_l07Change (x1 : List (Int × (List UInt8) × Int × Bool × Int)) (x2 : List (Int × (List UInt8) × Int × Bool × Int)) (x3 : List (Int × (List UInt8) × Int × Bool × Int)) (x4 : Int) (x5 : Int) (x6 : List UInt8) (x7 : Int) (x8 : Bool) (x9 : Int) : Option ((List (Int × (List UInt8) × Int × Bool × Int)) × (List (Int × (List UInt8) × Int × Bool × Int)) × (List (Int × (List UInt8) × Int × Bool × Int)) × Bool) := L.callee 25 (x1, x2, x3, x4, x5, x6, x7, x8, x9)
theorem spec_l07Change_eq (x1 : List (Int × (List UInt8) × Int × Bool × Int)) (x2 : List (Int × (List UInt8) × Int × Bool × Int)) (x3 : List (Int × (List UInt8) × Int × Bool × Int)) (x4 : Int) (x5 : Int) (x6 : List UInt8) (x7 : Int) (x8 : Bool) (x9 : Int) : spec_l07Change x1 x2 x3 x4 x5 x6 x7 x8 x9 =
    (bif decide (x4 = 4) then
      (bif decide (x1.length + 1 < 3518437208883) then
        some (x1 ++ [(x5, x6, x7, x8, x9)], x2, x3, true)
      else
        none)
    else
      ((
        (bif decide (x4 = 5) then
          some (len x1, len x3, decide (0 < len x1), x1, x2, x3, x4, x5, x6, x7, x8, x9, ([] : List (Int × (List UInt8) × Int × Bool × Int)), ([] : List (Int × (List UInt8) × Int × Bool × Int)), ([] : List (Int × (List UInt8) × Int × Bool × Int)))
        else
          some (len x1, len x3, false, x1, x2, x3, x4, x5, x6, x7, x8, x9, ([] : List (Int × (List UInt8) × Int × Bool × Int)), ([] : List (Int × (List UInt8) × Int × Bool × Int)), ([] : List (Int × (List UInt8) × Int × Bool × Int)))) : Option (Int × Int × Bool × (List (Int × (List UInt8) × Int × Bool × Int)) × (List (Int × (List UInt8) × Int × Bool × Int)) × (List (Int × (List UInt8) × Int × Bool × Int)) × Int × Int × (List UInt8) × Int × Bool × Int × (List (Int × (List UInt8) × Int × Bool × Int)) × (List (Int × (List UInt8) × Int × Bool × Int)) × (List (Int × (List UInt8) × Int × Bool × Int))))).bind fun d1 =>
      ((
        (bif d1.2.2.1 then
          (bif (decide (0 ≤ subI .i64 d1.1 1)) && (decide (subI .i64 d1.1 1 < (d1.2.2.2.1.length : Int))) then
            (d1.2.2.2.1[((subI .i64 d1.1 1).toNat)]?).bind fun u2 =>
            (bif decide (d1.2.2.2.2.2.1.length + 1 < 3518437208883) then
              (bif (decide (0 ≤ subI .i64 d1.1 1)) && (decide (subI .i64 d1.1 1 ≤ (d1.2.2.2.1.length : Int))) then
                some (.inl ((d1.2.2.2.1.take (0 + ((subI .i64 d1.1 1).toNat))).drop 0, d1.2.2.2.2.1, d1.2.2.2.2.2.1 ++ [(u2.1, u2.2.1, u2.2.2.1, u2.2.2.2.1, u2.2.2.2.2)], d1.2.2.2.2.2.2.2.2.2.2.2.2.1, d1.2.2.2.2.2.2.2.2.2.2.2.2.2.1, d1.2.2.2.2.2.2.2.2.2.2.2.2.2.2))
              else
                none)
            else
              none)
          else
            none)
        else
          (bif decide (d1.2.2.2.2.2.2.1 = 6) then
            (bif decide (0 < d1.2.1) then
              (bif (decide (0 ≤ subI .i64 d1.2.1 1)) && (decide (subI .i64 d1.2.1 1 < (d1.2.2.2.2.2.1.length : Int))) then
                (d1.2.2.2.2.2.1[((subI .i64 d1.2.1 1).toNat)]?).bind fun u3 =>
                (bif decide (d1.2.2.2.1.length + 1 < 3518437208883) then
                  (bif (decide (0 ≤ subI .i64 d1.2.1 1)) && (decide (subI .i64 d1.2.1 1 ≤ (d1.2.2.2.2.2.1.length : Int))) then
                    some (.inl (d1.2.2.2.1 ++ [(u3.1, u3.2.1, u3.2.2.1, u3.2.2.2.1, u3.2.2.2.2)], d1.2.2.2.2.1, (d1.2.2.2.2.2.1.take (0 + ((subI .i64 d1.2.1 1).toNat))).drop 0, d1.2.2.2.2.2.2.2.2.2.2.2.2.1, d1.2.2.2.2.2.2.2.2.2.2.2.2.2.1, d1.2.2.2.2.2.2.2.2.2.2.2.2.2.2))
                  else
                    none)
                else
                  none)
              else
                none)
            else
              (bif decide (d1.2.2.2.2.2.2.1 = 7) then
                (bif decide (0 < d1.1) then
                  (bif (decide (0 ≤ subI .i64 d1.1 1)) && (decide (subI .i64 d1.1 1 < (d1.2.2.2.1.length : Int))) then
                    (d1.2.2.2.1[((subI .i64 d1.1 1).toNat)]?).bind fun u4 =>
                    (spec_Recolor u4.1 u4.2.1 u4.2.2.1 u4.2.2.2.1 u4.2.2.2.2 d1.2.2.2.2.2.2.2.1).bind fun r5 =>
                    (bif (decide (0 ≤ subI .i64 d1.1 1)) && (decide (subI .i64 d1.1 1 < (d1.2.2.2.1.length : Int))) then
                      (d1.2.2.2.1[((subI .i64 d1.1 1).toNat)]?).bind fun u6 =>
                      some (.inr (r5.2.2.2.2.2, d1.2.2.2.1.set ((subI .i64 d1.1 1).toNat) (r5.1, r5.2.1, r5.2.2.1, r5.2.2.2.1, r5.2.2.2.2.1), d1.2.2.2.2.1, d1.2.2.2.2.2.1))
                    else
                      none)
                  else
                    none)
                else
                  some (.inr (false, d1.2.2.2.1, d1.2.2.2.2.1, d1.2.2.2.2.2.1)))
              else
                some (.inr (false, d1.2.2.2.1, d1.2.2.2.2.1, d1.2.2.2.2.2.1))))
          else
            (bif decide (d1.2.2.2.2.2.2.1 = 7) then
              (bif decide (0 < d1.1) then
                (bif (decide (0 ≤ subI .i64 d1.1 1)) && (decide (subI .i64 d1.1 1 < (d1.2.2.2.1.length : Int))) then
                  (d1.2.2.2.1[((subI .i64 d1.1 1).toNat)]?).bind fun u7 =>
                  (spec_Recolor u7.1 u7.2.1 u7.2.2.1 u7.2.2.2.1 u7.2.2.2.2 d1.2.2.2.2.2.2.2.1).bind fun r8 =>
                  (bif (decide (0 ≤ subI .i64 d1.1 1)) && (decide (subI .i64 d1.1 1 < (d1.2.2.2.1.length : Int))) then
                    (d1.2.2.2.1[((subI .i64 d1.1 1).toNat)]?).bind fun u9 =>
                    some (.inr (r8.2.2.2.2.2, d1.2.2.2.1.set ((subI .i64 d1.1 1).toNat) (r8.1, r8.2.1, r8.2.2.1, r8.2.2.2.1, r8.2.2.2.2.1), d1.2.2.2.2.1, d1.2.2.2.2.2.1))
                  else
                    none)
                else
                  none)
              else
                some (.inr (false, d1.2.2.2.1, d1.2.2.2.2.1, d1.2.2.2.2.2.1)))
            else
              some (.inr (false, d1.2.2.2.1, d1.2.2.2.2.1, d1.2.2.2.2.2.1))))) : Option (((List (Int × (List UInt8) × Int × Bool × Int)) × (List (Int × (List UInt8) × Int × Bool × Int)) × (List (Int × (List UInt8) × Int × Bool × Int)) × (List (Int × (List UInt8) × Int × Bool × Int)) × (List (Int × (List UInt8) × Int × Bool × Int)) × (List (Int × (List UInt8) × Int × Bool × Int))) ⊕ (Bool × (List (Int × (List UInt8) × Int × Bool × Int)) × (List (Int × (List UInt8) × Int × Bool × Int)) × (List (Int × (List UInt8) × Int × Bool × Int)))))).bind fun d10 =>
      Sum.elim (fun s11 =>
        some (s11.1, s11.2.1, s11.2.2.1, true)) (fun s12 =>
        some (s12.2.1, s12.2.2.1, s12.2.2.2, s12.1)) d10) :=
  (lim_fun' _ _).trans (by kernel_rfl)
noncomputable def spec_Press (x1 : List (Int × (List UInt8) × Int × Bool × Int)) (x2 : List (Int × (List UInt8) × Int × Bool × Int)) (x3 : List (Int × (List UInt8) × Int × Bool × Int)) (x4 : Int) (x5 : Int) (x6 : List UInt8) (x7 : Int) (x8 : Bool) (x9 : Int) : Option ((List (Int × (List UInt8) × Int × Bool × Int)) × (List (Int × (List UInt8) × Int × Bool × Int)) × (List (Int × (List UInt8) × Int × Bool × Int)) × Bool) := L.callee 8 (x1, x2, x3, x4, x5, x6, x7, x8, x9)
theorem spec_Press_eq (x1 : List (Int × (List UInt8) × Int × Bool × Int)) (x2 : List (Int × (List UInt8) × Int × Bool × Int)) (x3 : List (Int × (List UInt8) × Int × Bool × Int)) (x4 : Int) (x5 : Int) (x6 : List UInt8) (x7 : Int) (x8 : Bool) (x9 : Int) : spec_Press x1 x2 x3 x4 x5 x6 x7 x8 x9 =
    (spec_EdOk x1 x2 x3).bind fun r1 =>
    (bif !r1 then
      some (([] : List (Int × (List UInt8) × Int × Bool × Int)), ([] : List (Int × (List UInt8) × Int × Bool × Int)), ([] : List (Int × (List UInt8) × Int × Bool × Int)), false)
    else
      (spec_l07Copy x1 x2 x3).bind fun r2 =>
      (spec_l01In x4 0 3).bind fun r3 =>
      ((
        (bif r3 then
          (spec_l07Move r2.1 r2.2.1 r2.2.2 x4).bind fun r4 =>
          some (r4.2.2.2, x1, x2, x3, ([] : List (Int × (List UInt8) × Int × Bool × Int)), ([] : List (Int × (List UInt8) × Int × Bool × Int)), ([] : List (Int × (List UInt8) × Int × Bool × Int)), r4.1, r4.2.1, r4.2.2.1)
        else
          (spec_l07Change r2.1 r2.2.1 r2.2.2 x4 x5 x6 x7 x8 x9).bind fun r5 =>
          some (r5.2.2.2, x1, x2, x3, ([] : List (Int × (List UInt8) × Int × Bool × Int)), ([] : List (Int × (List UInt8) × Int × Bool × Int)), ([] : List (Int × (List UInt8) × Int × Bool × Int)), r5.1, r5.2.1, r5.2.2.1)) : Option (Bool × (List (Int × (List UInt8) × Int × Bool × Int)) × (List (Int × (List UInt8) × Int × Bool × Int)) × (List (Int × (List UInt8) × Int × Bool × Int)) × (List (Int × (List UInt8) × Int × Bool × Int)) × (List (Int × (List UInt8) × Int × Bool × Int)) × (List (Int × (List UInt8) × Int × Bool × Int)) × (List (Int × (List UInt8) × Int × Bool × Int)) × (List (Int × (List UInt8) × Int × Bool × Int)) × (List (Int × (List UInt8) × Int × Bool × Int))))).bind fun d6 =>
      (bif !d6.1 then
        (spec_l07Copy d6.2.1 d6.2.2.1 d6.2.2.2.1).bind fun r7 =>
        some (r7.1, r7.2.1, r7.2.2, false)
      else
        (spec_EdOk d6.2.2.2.2.2.2.2.1 d6.2.2.2.2.2.2.2.2.1 d6.2.2.2.2.2.2.2.2.2).bind fun r8 =>
        (bif !r8 then
          (spec_l07Copy d6.2.1 d6.2.2.1 d6.2.2.2.1).bind fun r9 =>
          some (r9.1, r9.2.1, r9.2.2, false)
        else
          some (d6.2.2.2.2.2.2.2.1, d6.2.2.2.2.2.2.2.2.1, d6.2.2.2.2.2.2.2.2.2, true)))) :=
  (lim_fun' _ _).trans (by kernel_rfl)
noncomputable def laws_sameItems (x1 : List (Int × (List UInt8) × Int × Bool × Int)) (x2 : List (Int × (List UInt8) × Int × Bool × Int)) : Option (Bool) := L.callee 29 (x1, x2)
noncomputable def laws_sameItems_l4 (a1 : List (Int × (List UInt8) × Int × Bool × Int)) (a2 : List (Int × (List UInt8) × Int × Bool × Int)) (a3 : Int) : Option ((Unit) ⊕ (Bool)) := L.loop 29 4 (a1, a2, a3)
theorem laws_sameItems_l4_eq (a1 : List (Int × (List UInt8) × Int × Bool × Int)) (a2 : List (Int × (List UInt8) × Int × Bool × Int)) (a3 : Int) : laws_sameItems_l4 a1 a2 a3 =
    (bif decide (a3 < len a1) then
      (Ev.nth a1 a3).bind fun u1 =>
      (Ev.nth a2 a3).bind fun u2 =>
      (bif !((decide (u1.1 = u2.1)) && ((decide (u1.2.1 = u2.2.1)) && ((decide (u1.2.2.1 = u2.2.2.1)) && ((u1.2.2.2.1 == u2.2.2.2.1) && (decide (u1.2.2.2.2 = u2.2.2.2.2)))))) then
        some (.inr false)
      else
        laws_sameItems_l4 a1 a2 (addI .i64 a3 1))
    else
      some (.inl ())) :=
  (lim_round' _ _ _).trans (by kernel_rfl)
theorem laws_sameItems_eq (x1 : List (Int × (List UInt8) × Int × Bool × Int)) (x2 : List (Int × (List UInt8) × Int × Bool × Int)) : laws_sameItems x1 x2 =
    (bif !(decide (len x1 = len x2)) then
      some false
    else
      (laws_sameItems_l4 x1 x2 0).bind fun d1 =>
      Sum.elim (fun s2 =>
        some true) (fun s3 =>
        some s3) d1) :=
  (lim_fun' _ _).trans (by kernel_rfl)
noncomputable def laws_sameEd (x1 : List (Int × (List UInt8) × Int × Bool × Int)) (x2 : List (Int × (List UInt8) × Int × Bool × Int)) (x3 : List (Int × (List UInt8) × Int × Bool × Int)) (x4 : List (Int × (List UInt8) × Int × Bool × Int)) (x5 : List (Int × (List UInt8) × Int × Bool × Int)) (x6 : List (Int × (List UInt8) × Int × Bool × Int)) : Option (Bool) := L.callee 10 (x1, x2, x3, x4, x5, x6)
theorem laws_sameEd_eq (x1 : List (Int × (List UInt8) × Int × Bool × Int)) (x2 : List (Int × (List UInt8) × Int × Bool × Int)) (x3 : List (Int × (List UInt8) × Int × Bool × Int)) (x4 : List (Int × (List UInt8) × Int × Bool × Int)) (x5 : List (Int × (List UInt8) × Int × Bool × Int)) (x6 : List (Int × (List UInt8) × Int × Bool × Int)) : laws_sameEd x1 x2 x3 x4 x5 x6 =
    (laws_sameItems x1 x4).bind fun r1 =>
    (bif r1 then
      (laws_sameItems x2 x5).bind fun r2 =>
      (bif r2 then
        (laws_sameItems x3 x6).bind fun r3 =>
        some r3
      else
        some false)
    else
      some false) :=
  (lim_fun' _ _).trans (by kernel_rfl)
noncomputable def impl_EdCells (x1 : List (Int × (List UInt8) × Int × Bool × Int)) (x2 : List (Int × (List UInt8) × Int × Bool × Int)) (x3 : List (Int × (List UInt8) × Int × Bool × Int)) : Option ((List (Int))) := L.callee 12 (x1, x2, x3)
theorem impl_EdCells_eq (x1 : List (Int × (List UInt8) × Int × Bool × Int)) (x2 : List (Int × (List UInt8) × Int × Bool × Int)) (x3 : List (Int × (List UInt8) × Int × Bool × Int)) : impl_EdCells x1 x2 x3 =
    (impl_EdOk x1 x2 x3).bind fun r1 =>
    (bif !r1 then
      some ([] : List (Int))
    else
      (impl_edItems x1 x2 x3).bind fun r2 =>
      (impl_Unparse r2).bind fun r3 =>
      some r3.1) :=
  (lim_fun' _ _).trans (by kernel_rfl)
noncomputable def laws_sameCells (x1 : List (Int)) (x2 : List (Int)) : Option (Bool) := L.callee 11 (x1, x2)
noncomputable def laws_sameCells_l4 (a1 : List (Int)) (a2 : List (Int)) (a3 : Int) : Option ((Unit) ⊕ (Bool)) := L.loop 11 4 (a1, a2, a3)
theorem laws_sameCells_l4_eq (a1 : List (Int)) (a2 : List (Int)) (a3 : Int) : laws_sameCells_l4 a1 a2 a3 =
    (bif decide (a3 < len a1) then
      (Ev.nth a1 a3).bind fun u1 =>
      (Ev.nth a2 a3).bind fun u2 =>
      (bif !(decide (u1 = u2)) then
        some (.inr false)
      else
        laws_sameCells_l4 a1 a2 (addI .i64 a3 1))
    else
      some (.inl ())) :=
  (lim_round' _ _ _).trans (by kernel_rfl)
theorem laws_sameCells_eq (x1 : List (Int)) (x2 : List (Int)) : laws_sameCells x1 x2 =
    (bif !(decide (len x1 = len x2)) then
      some false
    else
      (laws_sameCells_l4 x1 x2 0).bind fun d1 =>
      Sum.elim (fun s2 =>
        some true) (fun s3 =>
        some s3) d1) :=
  (lim_fun' _ _).trans (by kernel_rfl)
noncomputable def laws_FnMoves (x1 : List (Int)) : Option (Bool) := L.callee 3 x1
theorem laws_FnMoves_eq (x1 : List (Int)) : laws_FnMoves x1 =
    (laws_big x1).bind fun r1 =>
    (bif r1 then
      some true
    else
      ((
        (spec_DrawPress x1).bind fun r2 =>
        some (r2.1, r2.2.1, r2.2.2.1, r2.2.2.2.1, r2.2.2.2.2.1, r2.2.2.2.2.2.1, r2.2.2.2.2.2.2.1, r2.2.2.2.2.2.2.2.1, r2.2.2.2.2.2.2.2.2) : Option ((List (Int × (List UInt8) × Int × Bool × Int)) × (List (Int × (List UInt8) × Int × Bool × Int)) × (List (Int × (List UInt8) × Int × Bool × Int)) × Int × Int × (List UInt8) × Int × Bool × Int))).bind fun d3 =>
      (impl_Press d3.1 d3.2.1 d3.2.2.1 d3.2.2.2.1 d3.2.2.2.2.1 d3.2.2.2.2.2.1 d3.2.2.2.2.2.2.1 d3.2.2.2.2.2.2.2.1 d3.2.2.2.2.2.2.2.2).bind fun r4 =>
      (spec_Press d3.1 d3.2.1 d3.2.2.1 d3.2.2.2.1 d3.2.2.2.2.1 d3.2.2.2.2.2.1 d3.2.2.2.2.2.2.1 d3.2.2.2.2.2.2.2.1 d3.2.2.2.2.2.2.2.2).bind fun r5 =>
      (bif !(r4.2.2.2 == r5.2.2.2) then
        some false
      else
        (spec_EdOk d3.1 d3.2.1 d3.2.2.1).bind fun r6 =>
        (bif !r6 then
          (laws_sameEd r4.1 r4.2.1 r4.2.2.1 ([] : List (Int × (List UInt8) × Int × Bool × Int)) ([] : List (Int × (List UInt8) × Int × Bool × Int)) ([] : List (Int × (List UInt8) × Int × Bool × Int))).bind fun r7 =>
          some r7
        else
          ((
            (bif !r4.2.2.2 then
              (laws_sameEd r4.1 r4.2.1 r4.2.2.1 d3.1 d3.2.1 d3.2.2.1).bind fun r8 =>
              (bif !r8 then
                some (true, d3.1, d3.2.1, d3.2.2.1)
              else
                (bif decide (d3.2.2.2.1 ≤ 3) then
                  (impl_EdCells r4.1 r4.2.1 r4.2.2.1).bind fun r9 =>
                  (impl_EdCells d3.1 d3.2.1 d3.2.2.1).bind fun r10 =>
                  (laws_sameCells r9 r10).bind fun r11 =>
                  some (!r11, d3.1, d3.2.1, d3.2.2.1)
                else
                  some (false, d3.1, d3.2.1, d3.2.2.1)))
            else
              (bif decide (d3.2.2.2.1 ≤ 3) then
                (impl_EdCells r4.1 r4.2.1 r4.2.2.1).bind fun r12 =>
                (impl_EdCells d3.1 d3.2.1 d3.2.2.1).bind fun r13 =>
                (laws_sameCells r12 r13).bind fun r14 =>
                some (!r14, d3.1, d3.2.1, d3.2.2.1)
              else
                some (false, d3.1, d3.2.1, d3.2.2.1))) : Option (Bool × (List (Int × (List UInt8) × Int × Bool × Int)) × (List (Int × (List UInt8) × Int × Bool × Int)) × (List (Int × (List UInt8) × Int × Bool × Int))))).bind fun d15 =>
          (bif d15.1 then
            some false
          else
            (impl_Press d15.2.1 d15.2.2.1 d15.2.2.2 0 0 ([] : List UInt8) 0 false 0).bind fun r16 =>
            (impl_Press r16.1 r16.2.1 r16.2.2.1 1 0 ([] : List UInt8) 0 false 0).bind fun r17 =>
            (bif r16.2.2.2 == (decide (0 < len d15.2.1)) then
              (bif !r16.2.2.2 then
                some true
              else
                (bif r17.2.2.2 then
                  (laws_sameEd r17.1 r17.2.1 r17.2.2.1 d15.2.1 d15.2.2.1 d15.2.2.2).bind fun r18 =>
                  some r18
                else
                  some false))
            else
              some false))))) :=
  (lim_fun' _ _).trans (by kernel_rfl)
noncomputable def spec_DrawPressAll (x1 : List (Int)) : Option ((List (Int × (List UInt8) × Int × Bool × Int)) × (List (Int × (List UInt8) × Int × Bool × Int)) × (List (Int × (List UInt8) × Int × Bool × Int)) × (List (Int × Int × (List UInt8) × Int × Bool × Int))) := L.callee 13 x1
noncomputable def spec_DrawPressAll_l6 (a1 : List (Int × Int × (List UInt8) × Int × Bool × Int)) (a2 : Int) (a3 : Int) (a4 : List (Int × (List UInt8) × Int × Bool × Int)) (a5 : List (Int × (List UInt8) × Int × Bool × Int)) (a6 : List (Int × (List UInt8) × Int × Bool × Int)) (a7 : List (Int)) (a8 : Int) (a9 : Int) (a10 : List (Int × (List UInt8) × Int × Bool × Int)) (a11 : List (Int × (List UInt8) × Int × Bool × Int)) (a12 : List (Int × (List UInt8) × Int × Bool × Int)) : Option ((List (Int × Int × (List UInt8) × Int × Bool × Int)) × (List (Int × (List UInt8) × Int × Bool × Int)) × (List (Int × (List UInt8) × Int × Bool × Int)) × (List (Int × (List UInt8) × Int × Bool × Int)) × (List (Int × (List UInt8) × Int × Bool × Int)) × (List (Int × (List UInt8) × Int × Bool × Int)) × (List (Int × (List UInt8) × Int × Bool × Int))) := L.loop 13 6 (a1, a2, a3, a4, a5, a6, a7, a8, a9, a10, a11, a12)
theorem spec_DrawPressAll_l6_eq (a1 : List (Int × Int × (List UInt8) × Int × Bool × Int)) (a2 : Int) (a3 : Int) (a4 : List (Int × (List UInt8) × Int × Bool × Int)) (a5 : List (Int × (List UInt8) × Int × Bool × Int)) (a6 : List (Int × (List UInt8) × Int × Bool × Int)) (a7 : List (Int)) (a8 : Int) (a9 : Int) (a10 : List (Int × (List UInt8) × Int × Bool × Int)) (a11 : List (Int × (List UInt8) × Int × Bool × Int)) (a12 : List (Int × (List UInt8) × Int × Bool × Int)) : spec_DrawPressAll_l6 a1 a2 a3 a4 a5 a6 a7 a8 a9 a10 a11 a12 =
    (bif decide (a3 < a2) then
      (spec_l07Key a7 a8 a9).bind fun r1 =>
      (bif decide (a1.length + 1 < 2932031007402) then
        spec_DrawPressAll_l6 (a1 ++ [(r1.1, r1.2.1, r1.2.2.1, r1.2.2.2.1, r1.2.2.2.2.1, r1.2.2.2.2.2.1)]) a2 (addI .i64 a3 1) a4 a5 a6 r1.2.2.2.2.2.2.1 r1.2.2.2.2.2.2.2.1 r1.2.2.2.2.2.2.2.2 a10 a11 a12
      else
        none)
    else
      some (a1, a4, a5, a6, a10, a11, a12)) :=
  (lim_round' _ _ _).trans (by kernel_rfl)
theorem spec_DrawPressAll_eq (x1 : List (Int)) : spec_DrawPressAll x1 =
    (spec_l01New x1).bind fun r1 =>
    (spec_l07Any r1.1 r1.2.1 r1.2.2).bind fun r2 =>
    (spec_l01Below r2.2.2.2.1 r2.2.2.2.2.1 r2.2.2.2.2.2 9).bind fun r3 =>
    (spec_DrawPressAll_l6 ([] : List (Int × Int × (List UInt8) × Int × Bool × Int)) r3.1 0 ([] : List (Int × (List UInt8) × Int × Bool × Int)) ([] : List (Int × (List UInt8) × Int × Bool × Int)) ([] : List (Int × (List UInt8) × Int × Bool × Int)) r3.2.1 r3.2.2.1 r3.2.2.2 r2.1 r2.2.1 r2.2.2.1).bind fun d4 =>
    some (d4.2.2.2.2.1, d4.2.2.2.2.2.1, d4.2.2.2.2.2.2, d4.1) :=
  (lim_fun' _ _).trans (by kernel_rfl)
noncomputable def impl_PressAll (x1 : List (Int × (List UInt8) × Int × Bool × Int)) (x2 : List (Int × (List UInt8) × Int × Bool × Int)) (x3 : List (Int × (List UInt8) × Int × Bool × Int)) (x4 : List (Int × Int × (List UInt8) × Int × Bool × Int)) : Option ((List (Int × (List UInt8) × Int × Bool × Int)) × (List (Int × (List UInt8) × Int × Bool × Int)) × (List (Int × (List UInt8) × Int × Bool × Int)) × Int) := L.callee 14 (x1, x2, x3, x4)
noncomputable def impl_PressAll_l6 (a1 : Int) (a2 : List (Int × Int × (List UInt8) × Int × Bool × Int)) (a3 : Int) (a4 : Int) (a5 : List (Int × (List UInt8) × Int × Bool × Int)) (a6 : List (Int × (List UInt8) × Int × Bool × Int)) (a7 : List (Int × (List UInt8) × Int × Bool × Int)) (a8 : List (Int × (List UInt8) × Int × Bool × Int)) (a9 : List (Int × (List UInt8) × Int × Bool × Int)) (a10 : List (Int × (List UInt8) × Int × Bool × Int)) : Option (Int × (List (Int × (List UInt8) × Int × Bool × Int)) × (List (Int × (List UInt8) × Int × Bool × Int)) × (List (Int × (List UInt8) × Int × Bool × Int)) × (List (Int × (List UInt8) × Int × Bool × Int)) × (List (Int × (List UInt8) × Int × Bool × Int)) × (List (Int × (List UInt8) × Int × Bool × Int))) := L.loop 14 6 (a1, a2, a3, a4, a5, a6, a7, a8, a9, a10)
theorem impl_PressAll_l6_eq (a1 : Int) (a2 : List (Int × Int × (List UInt8) × Int × Bool × Int)) (a3 : Int) (a4 : Int) (a5 : List (Int × (List UInt8) × Int × Bool × Int)) (a6 : List (Int × (List UInt8) × Int × Bool × Int)) (a7 : List (Int × (List UInt8) × Int × Bool × Int)) (a8 : List (Int × (List UInt8) × Int × Bool × Int)) (a9 : List (Int × (List UInt8) × Int × Bool × Int)) (a10 : List (Int × (List UInt8) × Int × Bool × Int)) : impl_PressAll_l6 a1 a2 a3 a4 a5 a6 a7 a8 a9 a10 =
    (bif decide (a4 < a3) then
      (Ev.nth a2 a4).bind fun u1 =>
      (impl_pressed a5 a6 a7 u1.1 u1.2.1 u1.2.2.1 u1.2.2.2.1 u1.2.2.2.2.1 u1.2.2.2.2.2).bind fun r2 =>
      (bif !r2.2.2.2 then
        impl_PressAll_l6 (addI .i64 a1 1) a2 a3 (addI .i64 a4 1) a5 a6 a7 a8 a9 a10
      else
        impl_PressAll_l6 a1 a2 a3 (addI .i64 a4 1) r2.1 r2.2.1 r2.2.2.1 a8 a9 a10)
    else
      some (a1, a5, a6, a7, a8, a9, a10)) :=
  (lim_round' _ _ _).trans (by kernel_rfl)
theorem impl_PressAll_eq (x1 : List (Int × (List UInt8) × Int × Bool × Int)) (x2 : List (Int × (List UInt8) × Int × Bool × Int)) (x3 : List (Int × (List UInt8) × Int × Bool × Int)) (x4 : List (Int × Int × (List UInt8) × Int × Bool × Int)) : impl_PressAll x1 x2 x3 x4 =
    (impl_EdOk x1 x2 x3).bind fun r1 =>
    (bif !r1 then
      some (([] : List (Int × (List UInt8) × Int × Bool × Int)), ([] : List (Int × (List UInt8) × Int × Bool × Int)), ([] : List (Int × (List UInt8) × Int × Bool × Int)), len x4)
    else
      (impl_ownEd x1 x2 x3).bind fun r2 =>
      (impl_PressAll_l6 0 x4 (len x4) 0 r2.1 r2.2.1 r2.2.2 ([] : List (Int × (List UInt8) × Int × Bool × Int)) ([] : List (Int × (List UInt8) × Int × Bool × Int)) ([] : List (Int × (List UInt8) × Int × Bool × Int))).bind fun d3 =>
      (impl_ownEd d3.2.1 d3.2.2.1 d3.2.2.2.1).bind fun r4 =>
      some (r4.1, r4.2.1, r4.2.2, d3.1)) :=
  (lim_fun' _ _).trans (by kernel_rfl)
noncomputable def spec_PressAll (x1 : List (Int × (List UInt8) × Int × Bool × Int)) (x2 : List (Int × (List UInt8) × Int × Bool × Int)) (x3 : List (Int × (List UInt8) × Int × Bool × Int)) (x4 : List (Int × Int × (List UInt8) × Int × Bool × Int)) : Option ((List (Int × (List UInt8) × Int × Bool × Int)) × (List (Int × (List UInt8) × Int × Bool × Int)) × (List (Int × (List UInt8) × Int × Bool × Int)) × Int) := L.callee 15 (x1, x2, x3, x4)
noncomputable def spec_PressAll_l5 (a1 : List (Int × Int × (List UInt8) × Int × Bool × Int)) (a2 : Int) (a3 : Int) (a4 : List (Int × (List UInt8) × Int × Bool × Int)) (a5 : List (Int × (List UInt8) × Int × Bool × Int)) (a6 : List (Int × (List UInt8) × Int × Bool × Int)) (a7 : List (Int × (List UInt8) × Int × Bool × Int)) (a8 : List (Int × (List UInt8) × Int × Bool × Int)) (a9 : List (Int × (List UInt8) × Int × Bool × Int)) : Option (Int × (List (Int × (List UInt8) × Int × Bool × Int)) × (List (Int × (List UInt8) × Int × Bool × Int)) × (List (Int × (List UInt8) × Int × Bool × Int)) × (List (Int × (List UInt8) × Int × Bool × Int)) × (List (Int × (List UInt8) × Int × Bool × Int)) × (List (Int × (List UInt8) × Int × Bool × Int))) := L.loop 15 5 (a1, a2, a3, a4, a5, a6, a7, a8, a9)
theorem spec_PressAll_l5_eq (a1 : List (Int × Int × (List UInt8) × Int × Bool × Int)) (a2 : Int) (a3 : Int) (a4 : List (Int × (List UInt8) × Int × Bool × Int)) (a5 : List (Int × (List UInt8) × Int × Bool × Int)) (a6 : List (Int × (List UInt8) × Int × Bool × Int)) (a7 : List (Int × (List UInt8) × Int × Bool × Int)) (a8 : List (Int × (List UInt8) × Int × Bool × Int)) (a9 : List (Int × (List UInt8) × Int × Bool × Int)) : spec_PressAll_l5 a1 a2 a3 a4 a5 a6 a7 a8 a9 =
    (bif decide (a3 < len a1) then
      (Ev.nth a1 a3).bind fun u1 =>
      (spec_Press a4 a5 a6 u1.1 u1.2.1 u1.2.2.1 u1.2.2.2.1 u1.2.2.2.2.1 u1.2.2.2.2.2).bind fun r2 =>
      (bif !r2.2.2.2 then
        spec_PressAll_l5 a1 (addI .i64 a2 1) (addI .i64 a3 1) r2.1 r2.2.1 r2.2.2.1 a7 a8 a9
      else
        spec_PressAll_l5 a1 a2 (addI .i64 a3 1) r2.1 r2.2.1 r2.2.2.1 a7 a8 a9)
    else
      some (a2, a4, a5, a6, a7, a8, a9)) :=
  (lim_round' _ _ _).trans (by kernel_rfl)
theorem spec_PressAll_eq (x1 : List (Int × (List UInt8) × Int × Bool × Int)) (x2 : List (Int × (List UInt8) × Int × Bool × Int)) (x3 : List (Int × (List UInt8) × Int × Bool × Int)) (x4 : List (Int × Int × (List UInt8) × Int × Bool × Int)) : spec_PressAll x1 x2 x3 x4 =
    (spec_EdOk x1 x2 x3).bind fun r1 =>
    (bif !r1 then
      some (([] : List (Int × (List UInt8) × Int × Bool × Int)), ([] : List (Int × (List UInt8) × Int × Bool × Int)), ([] : List (Int × (List UInt8) × Int × Bool × Int)), len x4)
    else
      (spec_PressAll_l5 x4 0 0 x1 x2 x3 ([] : List (Int × (List UInt8) × Int × Bool × Int)) ([] : List (Int × (List UInt8) × Int × Bool × Int)) ([] : List (Int × (List UInt8) × Int × Bool × Int))).bind fun d2 =>
      (spec_l07Copy d2.2.1 d2.2.2.1 d2.2.2.2.1).bind fun r3 =>
      some (r3.1, r3.2.1, r3.2.2, d2.1)) :=
  (lim_fun' _ _).trans (by kernel_rfl)
noncomputable def laws_FnKeys (x1 : List (Int)) : Option (Bool) := L.callee 4 x1
noncomputable def laws_FnKeys_l12 (a1 : List (Int × Int × (List UInt8) × Int × Bool × Int)) (a2 : Int) (a3 : Int) (a4 : Int) (a5 : List (Int × (List UInt8) × Int × Bool × Int)) (a6 : List (Int × (List UInt8) × Int × Bool × Int)) (a7 : List (Int × (List UInt8) × Int × Bool × Int)) (a8 : List (Int × (List UInt8) × Int × Bool × Int)) (a9 : List (Int × (List UInt8) × Int × Bool × Int)) (a10 : List (Int × (List UInt8) × Int × Bool × Int)) : Option (Int × Int × (List (Int × (List UInt8) × Int × Bool × Int)) × (List (Int × (List UInt8) × Int × Bool × Int)) × (List (Int × (List UInt8) × Int × Bool × Int)) × (List (Int × (List UInt8) × Int × Bool × Int)) × (List (Int × (List UInt8) × Int × Bool × Int)) × (List (Int × (List UInt8) × Int × Bool × Int))) := L.loop 4 12 (a1, a2, a3, a4, a5, a6, a7, a8, a9, a10)
theorem laws_FnKeys_l12_eq (a1 : List (Int × Int × (List UInt8) × Int × Bool × Int)) (a2 : Int) (a3 : Int) (a4 : Int) (a5 : List (Int × (List UInt8) × Int × Bool × Int)) (a6 : List (Int × (List UInt8) × Int × Bool × Int)) (a7 : List (Int × (List UInt8) × Int × Bool × Int)) (a8 : List (Int × (List UInt8) × Int × Bool × Int)) (a9 : List (Int × (List UInt8) × Int × Bool × Int)) (a10 : List (Int × (List UInt8) × Int × Bool × Int)) : laws_FnKeys_l12 a1 a2 a3 a4 a5 a6 a7 a8 a9 a10 =
    (bif decide (a4 < len a1) then
      (bif (decide (0 ≤ a4)) && (decide (a4 < (a1.length : Int))) then
        (a1[a4.toNat]?).bind fun u1 =>
        (impl_Press a5 a6 a7 u1.1 u1.2.1 u1.2.2.1 u1.2.2.2.1 u1.2.2.2.2.1 u1.2.2.2.2.2).bind fun r2 =>
        (bif !r2.2.2.2 then
          laws_FnKeys_l12 a1 a2 (addI .i64 a3 1) (addI .i64 a4 1) r2.1 r2.2.1 r2.2.2.1 a8 a9 a10
        else
          laws_FnKeys_l12 a1 a2 a3 (addI .i64 a4 1) r2.1 r2.2.1 r2.2.2.1 a8 a9 a10)
      else
        none)
    else
      some (a2, a3, a5, a6, a7, a8, a9, a10)) :=
  (lim_round' _ _ _).trans (by kernel_rfl)
theorem laws_FnKeys_eq (x1 : List (Int)) : laws_FnKeys x1 =
    (laws_big x1).bind fun r1 =>
    (bif r1 then
      some true
    else
      (spec_DrawPressAll x1).bind fun r2 =>
      (impl_PressAll r2.1 r2.2.1 r2.2.2.1 r2.2.2.2).bind fun r3 =>
      (spec_PressAll r2.1 r2.2.1 r2.2.2.1 r2.2.2.2).bind fun r4 =>
      (bif !(decide (r3.2.2.2 = r4.2.2.2)) then
        some false
      else
        (impl_EdOk r3.1 r3.2.1 r3.2.2.1).bind fun r5 =>
        (bif !r5 then
          some false
        else
          (spec_EdOk r2.1 r2.2.1 r2.2.2.1).bind fun r6 =>
          (bif !r6 then
            some (decide (r3.2.2.2 = len r2.2.2.2))
          else
            (laws_FnKeys_l12 r2.2.2.2 r3.2.2.2 0 0 r2.1 r2.2.1 r2.2.2.1 r3.1 r3.2.1 r3.2.2.1).bind fun d7 =>
            (bif decide (d7.2.1 = d7.1) then
              (laws_sameEd d7.2.2.1 d7.2.2.2.1 d7.2.2.2.2.1 d7.2.2.2.2.2.1 d7.2.2.2.2.2.2.1 d7.2.2.2.2.2.2.2).bind fun r8 =>
              some r8
            else
              some false))))) :=
  (lim_fun' _ _).trans (by kernel_rfl)
end Go.Ev

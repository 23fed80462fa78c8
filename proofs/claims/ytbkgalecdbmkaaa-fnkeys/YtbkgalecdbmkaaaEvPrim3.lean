/- FnKeys returns true for every input, on the conditions that the row itself states, and on no other (part 'EvPrim3') -/
import Derived.Test.YtbkgalecdbmkaaaEvPrim2
import Derived.Shelf.Spec.SlicesInsert
import Derived.Lib.AppendZeros
import Derived.Lib.AppendZerosOnto
import Derived.Laws.CopyRow
import Derived.Laws.NewBlocks

namespace Go.Proofs
open Go Go.Shelf Go.RowKit Go.Lib
set_option linter.unusedVariables false
set_option linter.unusedSimpArgs false

structure InsLays (P : Program) (ρ : Ren) (z : Nat) (i0 : TypeInfo) (zv : Value) : Prop where
  mixed : P.follows .mixedOrders = true
  f22 : Bears P (ρ.f 22) (Body2.n22 ρ)
  ov : ∀ args w, (callFunc (ρ.f 29) args).run P w = ((Extern.SlicesOverlaps.overlaps #[(ρ.t 24), (ρ.t 24)] #[(ρ.t 4)] args).run P w).andThen fun v w' => .ok (.value v) w'
  t3 : P.underlying (ρ.t 3) = some (TypeDesc.int IntKind.i64)
  a3 : ∀ w, (isAgg (ρ.t 3)).run P w = .ok false w
  z3 : ∀ w, (Go.sizeOf (ρ.t 3)).run P w = .ok 1 w
  v3 : ∀ w, (zeroValue (ρ.t 3)).run P w = .ok (Value.int IntKind.i64 0) w
  t4 : P.underlying (ρ.t 4) = some (TypeDesc.bool)
  a4 : ∀ w, (isAgg (ρ.t 4)).run P w = .ok false w
  z4 : ∀ w, (Go.sizeOf (ρ.t 4)).run P w = .ok 1 w
  v4 : ∀ w, (zeroValue (ρ.t 4)).run P w = .ok (Value.bool false) w
  t24 : P.underlying (ρ.t 24) = some (TypeDesc.slice (ρ.t 9))
  a24 : ∀ w, (isAgg (ρ.t 24)).run P w = .ok false w
  z24 : ∀ w, (Go.sizeOf (ρ.t 24)).run P w = .ok 1 w
  v24 : ∀ w, (zeroValue (ρ.t 24)).run P w = .ok (Value.slice none 0 0) w
  i9 : P.info? (ρ.t 9) = some i0
  hz : i0.zero = some zv
  hs : i0.size = z

variable {P : Program} {ρ : Ren} {z : Nat} {i0 : TypeInfo} {zv : Value}

/-- copy at elements of many cells -/
theorem run_copy_wide (w : World) (dT sT ty elem : TypeId) (g o dLen dCap : Nat) (a : Addr) (sLen sCap : Nat) (cur : Array Value) (t : TypeId) (cs : List Value)
    (hu : P.underlying dT = some (.slice elem)) (hs : ∀ w, (Go.sizeOf elem).run P w = .ok z w)
    (hg : w.heap[g]? = some (.cells cur t (0, 0))) (hn : cs.length = Nat.min sLen dLen * z)
    (hsrc : ∀ j v, cs[j]? = some v → w.cell? (a.add j) = some v) (hfit : o + cs.length ≤ cur.size) (h1 : ∀ v ∈ cs, v.oneCell' = true) :
    (Builtin.copy_ #[dT, sT] ty #[.slice (some ⟨g, o, none⟩) dLen dCap, .slice (some a) sLen sCap]).run P w =
      .ok (goInt (Nat.min sLen dLen)) (w.setRow g (cur.toList.take o ++ cs ++ cur.toList.drop (o + cs.length)).toArray) := by
  have hl := run_loadCells_list (P := P) w a cs hsrc
  have hst := run_storeCells_at P g o t cs 0 cur w hg (by simpa using hfit) h1
  simp [Builtin.copy_, run_underlying hu, Builtin.lenOf, Builtin.firstCells, hs, ← hn, hl, hst]

theorem setRow_heapA (w : World) (b : Nat) (R C : Array Value) (T : TypeId) (hC : w.heap[b]? = some (.cells C T (0, 0))) : (w.setRow b R).heap = w.heap.setIfInBounds b (.cells R T (0, 0)) := by
  apply Array.ext_getElem?
  intro k
  by_cases h : k = b
  · subst h
    rw [setRow_heap w k C R T _ hC, Array.getElem?_setIfInBounds, if_pos rfl, if_pos (Array.getElem?_eq_some_iff.1 hC).1]
  · rw [setRow_other w b k R h, Array.getElem?_setIfInBounds, if_neg (fun e => h e.symm)]

theorem splice_at (A m : List Value) (o : Nat) (h : o + m.length ≤ A.length) (j : Nat) :
    (A.take o ++ m ++ A.drop (o + m.length)).toArray[j]? = if j < o then A[j]? else if j < o + m.length then m[j - o]? else A[j]? := by
  rw [List.getElem?_toArray, List.append_assoc, List.getElem?_append]
  simp only [List.length_take, Nat.min_eq_left (show o ≤ A.length by omega)]
  split
  · rename_i h1; rw [List.getElem?_take, if_pos h1]
  · rename_i h1
    rw [List.getElem?_append]
    by_cases h2 : j < o + m.length
    · rw [if_pos h2, if_pos (by omega)]
    · rw [if_neg h2, if_neg (by omega), List.getElem?_drop]
      congr 1; omega

set_option maxHeartbeats 4000000 in
set_option maxRecDepth 100000 in
theorem insert_shift (L : InsLays P ρ z i0 zv) (b off n c vb voff vc : Nat) (C D : Array Value) (T TD : TypeId) (w : World) (hn0 : 0 < n) (hroom : n + 1 ≤ c) (hc63 : c ≤ 9223372036854775807) (hvb : vb ≠ b) (hz0 : 0 < z)
    (hC : w.heap[b]? = some (.cells C T (0, 0))) (hD : w.heap[vb]? = some (.cells D TD (0, 0))) (hfit : off + c * z ≤ C.size) (hfitD : voff + z ≤ D.size)
    (h1c : ∀ v ∈ (C.toList.drop off).take (n * z), v.oneCell' = true) (h1v : ∀ v ∈ (D.toList.drop voff).take z, v.oneCell' = true) :
    Calls P (ρ.f 22) #[.slice (some ⟨b, off, none⟩) n c, .int .i64 0, .slice (some ⟨vb, voff, none⟩) 1 vc] w fun e w' =>
      e = .returned (.slice (some ⟨b, off, none⟩) (n + 1) c) ∧ ∃ R : Array Value, R.size = C.size ∧ w'.heap = w.heap.setIfInBounds b (.cells R T (0, 0)) ∧ Ev.Same w w' ∧
        (∀ j, j < z → R[off + j]? = D[voff + j]?) ∧ (∀ j, j < n * z → R[off + z + j]? = C[off + j]?) ∧ (∀ j, j < off → R[j]? = C[j]?) ∧ ∀ j, off + z + n * z ≤ j → R[j]? = C[j]? := by
  have t3 := L.t3; have a3 := L.a3; have z3 := L.z3; have v3 := L.v3; have t4 := L.t4; have a4 := L.a4; have z4 := L.z4; have v4 := L.v4; have t24 := L.t24; have a24 := L.a24; have z24 := L.z24; have v24 := L.v24
  have u3 := run_underlying L.t3; have u4 := run_underlying L.t4; have u24 := run_underlying L.t24
  have z9 : ∀ w, (Go.sizeOf (ρ.t 9)).run P w = .ok z w := fun w => by simp [Go.sizeOf, typeInfo, L.i9, L.hs]
  obtain ⟨_, _, FG⟩ := L.f22
  have hz2 : ¬ ((0 : Int) = (n : Int)) := by omega
  have hcz : (n + 1) * z ≤ c * z := Nat.mul_le_mul_right _ hroom
  have hnz : (n + 1) * z = n * z + z := by rw [Nat.add_mul, Nat.one_mul]
  have hov : ∀ lb cb, (callFunc (ρ.f 29) #[.slice (some ⟨vb, voff, none⟩) 1 vc, .slice (some ⟨b, off + z, none⟩) lb cb]).run P w = .ok (.value (.bool false)) w := fun lb cb => by
    rw [L.ov, Lib.run_overlaps_apart w (ρ.t 24) (ρ.t 4) (ρ.t 9) L.t24 z z9 ⟨vb, voff, none⟩ ⟨b, off + z, none⟩ 1 vc lb cb hvb TD T D.size C.size
      (by simp [World.shape?, hD]) (by simp [World.shape?, hC]) (by omega) (by simp [World.frozen?, hD]) (by simp [World.frozen?, hD])]
    rfl
  have mixed := L.mixed
  obtain ⟨cs, hcs⟩ : ∃ cs, cs = (C.toList.drop off).take (n * z) := ⟨_, rfl⟩
  obtain ⟨vs, hvs⟩ : ∃ vs, vs = (D.toList.drop voff).take z := ⟨_, rfl⟩
  rw [← hcs] at h1c
  rw [← hvs] at h1v
  have hcl : cs.length = n * z := by rw [hcs]; simp; omega
  have hvl : vs.length = z := by rw [hvs]; simp; omega
  obtain ⟨C1, hC1⟩ : ∃ C1, C1 = (C.toList.take (off + z) ++ cs ++ C.toList.drop (off + z + cs.length)).toArray := ⟨_, rfl⟩
  obtain ⟨C2, hC2⟩ : ∃ C2, C2 = (C1.toList.take off ++ vs ++ C1.toList.drop (off + vs.length)).toArray := ⟨_, rfl⟩
  obtain ⟨W1, hW1⟩ : ∃ W1, W1 = w.drew.setRow b C1 := ⟨_, rfl⟩
  have hcp1 : ∀ ty dc sc, (Builtin.copy_ #[(ρ.t 24), (ρ.t 24)] ty #[.slice (some ⟨b, off + z, none⟩) n dc, .slice (some ⟨b, off, none⟩) (n + 1) sc]).run P w.drew = .ok (goInt n) W1 := fun ty dc sc => by
    have hm : Nat.min (n + 1) n = n := by simp [Nat.min_def]
    have h := run_copy_wide (z := z) w.drew (ρ.t 24) (ρ.t 24) ty (ρ.t 9) b (off + z) n dc ⟨b, off, none⟩ (n + 1) sc C T cs L.t24 z9 hC (by rw [hm]; exact hcl) (fun j v hj => by
      rw [hcs, List.getElem?_take] at hj
      split at hj
      · rw [List.getElem?_drop, Array.getElem?_toList] at hj
        rw [Addr.add_lit]
        simp only [World.cell?, World.drew, hC]; exact hj
      · cases hj) (by rw [hcl]; omega) h1c
    rw [h, hm, ← hC1, hW1]
  have hW1h : W1.heap = w.heap.setIfInBounds b (.cells C1 T (0, 0)) := by
    rw [hW1]
    exact setRow_heapA w.drew b C1 C T hC
  have hD1 : W1.heap[vb]? = some (.cells D TD (0, 0)) := by
    rw [hW1h, Array.getElem?_setIfInBounds, if_neg (fun e => hvb e.symm)]; exact hD
  have hbs : b < w.heap.size := by
    rcases Nat.lt_or_ge b w.heap.size with h | h
    · exact h
    · simp [Array.getElem?_eq_none h] at hC
  have hB1 : W1.heap[b]? = some (.cells C1 T (0, 0)) := by
    rw [hW1h, Array.getElem?_setIfInBounds, if_pos rfl, if_pos hbs]
  have hC1s : C1.size = C.size := by
    rw [hC1]; simp [hcl]; omega
  have hC2s : C2.size = C1.size := by
    rw [hC2]; simp [hvl]; omega
  have hcp2 : ∀ (W : World), W.heap = W1.heap → ∀ ty dc, (Builtin.copy_ #[(ρ.t 24), (ρ.t 24)] ty #[.slice (some ⟨b, off, none⟩) (n + 1) dc, .slice (some ⟨vb, voff, none⟩) 1 vc]).run P W = .ok (goInt ((1 : Nat) : Int)) (W.setRow b C2) := fun W hWh ty dc => by
    have hm : Nat.min 1 (n + 1) = 1 := by simp [Nat.min_def]
    have h := run_copy_wide (z := z) W (ρ.t 24) (ρ.t 24) ty (ρ.t 9) b off (n + 1) dc ⟨vb, voff, none⟩ 1 vc C1 T vs L.t24 z9 (by rw [hWh]; exact hB1) (by rw [hm, Nat.one_mul]; exact hvl) (fun j v hj => by
      rw [hvs, List.getElem?_take] at hj
      split at hj
      · rw [List.getElem?_drop, Array.getElem?_toList] at hj
        rw [Addr.add_lit]
        simp only [World.cell?, hWh, hD1]; exact hj
      · cases hj) (by rw [hvl]; omega) h1v
    rw [h, hm, ← hC2]
  have hat1 : ∀ j : Nat, C1[j]? = if j < off + z then C[j]? else if j < off + z + n * z then cs[j - (off + z)]? else C[j]? := fun j => by
    rw [hC1, splice_at _ _ _ (by simp [hcl]; omega), hcl]; simp
  have hat2 : ∀ j : Nat, C2[j]? = if j < off then C1[j]? else if j < off + z then vs[j - off]? else C1[j]? := fun j => by
    rw [hC2, splice_at _ _ _ (by simp [hvl]; omega), hvl]; simp
  have hfin : ∃ R : Array Value, R.size = C.size ∧ (W1.setRow b C2).heap = w.heap.setIfInBounds b (.cells R T (0, 0)) ∧ Ev.Same w (W1.setRow b C2) ∧
      (∀ j, j < z → R[off + j]? = D[voff + j]?) ∧ (∀ j, j < n * z → R[off + z + j]? = C[off + j]?) ∧ (∀ j, j < off → R[j]? = C[j]?) ∧ ∀ j, off + z + n * z ≤ j → R[j]? = C[j]? := by
    refine ⟨C2, by omega, ?_, ?_, fun j hj => ?_, fun j hj => ?_, fun j hj => ?_, fun j hj => ?_⟩
    · rw [setRow_heapA W1 b C2 C1 T hB1, hW1h, Array.setIfInBounds_setIfInBounds]
    · rw [hW1]; exact ⟨rfl, rfl⟩
    · rw [hat2, if_neg (by omega), if_pos (by omega), hvs, List.getElem?_take, if_pos (by omega), List.getElem?_drop, Array.getElem?_toList]
      congr 1; omega
    · rw [hat2, if_neg (by omega), if_neg (by omega), hat1, if_neg (by omega), if_pos (by omega), hcs, List.getElem?_take, if_pos (by omega), List.getElem?_drop, Array.getElem?_toList]
      congr 1; omega
    · rw [hat2, if_pos hj, hat1, if_pos (by omega)]
    · rw [hat2, if_neg (by omega), if_neg (by omega), hat1, if_neg (by omega), if_neg (by omega)]
  rw [hW1] at hfin
  have hw1 : IntKind.i64.wrap ((n : Int) + 1) = (n : Int) + 1 := by rw [IntKind.wrap_i64]; omega
  have hwr : IntKind.i64.wrap 1 = 1 := by decide
  have htn1 : (1 : Int).toNat = 1 := rfl
  have hle1 : (1 : Int) ≤ (n : Int) + 1 := by omega
  have hge0 : (0 : Int) ≤ (n : Int) + 1 := by omega
  have hb2 : ¬ (c = 1) := by omega
  have hb4 : ¬ (c = 0) := by omega
  have h1z : 1 * z = z := Nat.one_mul z
  have h0z : 0 * z = 0 := Nat.zero_mul z
  clear hat1 hat2 hcs hvs hcl hvl hC1 hC2 hcz hnz hC1s hC2s hD1 hB1 hW1h
  go_enter FG, Body2.n22_ntmps ρ
  go_wp2_with (simp only [hov])
  go_region_law_o (refine step_copy_runI rfl _ _ (ρ.t 24) (ρ.t 24) rfl _ _ (by simp [Act.eval, Act.put]) (by simp [Act.eval, Act.put]) (hcp1 _ _ _) ?_)
  go_wp2_with (at_builtin; refine wpList_copy_runI _ rfl _ _ (ρ.t 24) (ρ.t 24) rfl _ _ rfl rfl (hcp2 _ rfl _ _) ?_)
  go_ret
  exact ⟨rfl, hfin⟩

set_option maxHeartbeats 4000000 in
set_option maxRecDepth 100000 in
theorem insert_grow (L : InsLays P ρ z i0 zv) (b off n c vb voff vc : Nat) (C D : Array Value) (T TD : TypeId) (w : World) (hn0 : 0 < n) (hnc : n ≤ c) (hroom : c < n + 1) (hbig : (n + 1) * i0.bytes ≤ 140737488355328) (hn62 : n + 1 ≤ 4611686018427387904) (hz0 : 0 < z) (hzl : zv.cells.size = z)
    (hC : w.heap[b]? = some (.cells C T (0, 0))) (hD : w.heap[vb]? = some (.cells D TD (0, 0))) (hfit : off + c * z ≤ C.size) (hfitD : voff + z ≤ D.size)
    (h1c : ∀ v ∈ (C.toList.drop off).take (n * z), v.oneCell' = true) (h1v : ∀ v ∈ (D.toList.drop voff).take z, v.oneCell' = true) :
    Calls P (ρ.f 22) #[.slice (some ⟨b, off, none⟩) n c, .int .i64 0, .slice (some ⟨vb, voff, none⟩) 1 vc] w fun e w' =>
      ∃ (G : Nat) (R : Array Value), e = .returned (.slice (some ⟨w.heap.size, 0, none⟩) (n + 1) G) ∧ w'.heap = w.heap.push (.cells R (ρ.t 9) (0, 0)) ∧ Ev.Same w w' ∧ n + 1 ≤ G ∧ G ≤ 9223372036854775807 ∧ G * z ≤ R.size ∧
        (∀ j, j < z → R[j]? = D[voff + j]?) ∧ (∀ j, j < n * z → R[z + j]? = C[off + j]?) := by
  have t3 := L.t3; have a3 := L.a3; have z3 := L.z3; have v3 := L.v3; have t4 := L.t4; have a4 := L.a4; have z4 := L.z4; have v4 := L.v4; have t24 := L.t24; have a24 := L.a24; have z24 := L.z24; have v24 := L.v24
  have u3 := run_underlying L.t3; have u4 := run_underlying L.t4; have u24 := run_underlying L.t24
  have z9 : ∀ w, (Go.sizeOf (ρ.t 9)).run P w = .ok z w := fun w => by simp [Go.sizeOf, typeInfo, L.i9, L.hs]
  obtain ⟨_, _, FG⟩ := L.f22
  have hz2 : ¬ ((0 : Int) = (n : Int)) := by omega
  have hz3 : (c : Int) < (n : Int) + 1 := by omega
  have hcz : n * z ≤ c * z := Nat.mul_le_mul_right _ hnc
  have hnz : (n + 1) * z = n * z + z := by rw [Nat.add_mul, Nat.one_mul]
  have hbs : b < w.heap.size := (Array.getElem?_eq_some_iff.1 hC).1
  have hvs' : vb < w.heap.size := (Array.getElem?_eq_some_iff.1 hD).1
  have mixed := L.mixed
  obtain ⟨cs, hcs⟩ : ∃ cs, cs = (C.toList.drop off).take (n * z) := ⟨_, rfl⟩
  obtain ⟨vs, hvs⟩ : ∃ vs, vs = (D.toList.drop voff).take z := ⟨_, rfl⟩
  rw [← hcs] at h1c
  rw [← hvs] at h1v
  have hcl : cs.length = n * z := by rw [hcs]; simp; omega
  have hvl : vs.length = z := by rw [hvs]; simp; omega
  have hold : (Builtin.firstCells i0.size 0 (.slice (some ⟨b, off, none⟩) 0 c)).run P w.drew = .ok ([] : List Value).toArray w.drew :=
    run_firstCells_some w.drew i0.size 0 ⟨b, off, none⟩ 0 c [] (by simp) (fun j v hj => by simp at hj)
  obtain ⟨G, hG⟩ : ∃ G, G = grownCap w (n + 1) c (ρ.t 9) := ⟨_, rfl⟩
  obtain ⟨ROW, hROW⟩ : ∃ ROW : Array Value, ROW = ([] : List Value).toArray ++ Builtin.zeroCells zv.cells (n + 1) ++ Builtin.zeroCells zv.cells (G - (n + 1)) := ⟨_, rfl⟩
  obtain ⟨W1, hW1⟩ : ∃ W1, W1 = (w.alloc (.cells ROW (ρ.t 9))).drew := ⟨_, rfl⟩
  have hrz : ∀ ty, (Builtin.append_ #[(ρ.t 24), (ρ.t 3)] ty #[.slice (some ⟨b, off, none⟩) 0 c, .int .i64 ((n : Int) + 1)]).run P w =
      .ok (.slice (some ⟨w.heap.size, 0, none⟩) (n + 1) G) W1 := fun ty => by
    have h := Lib.run_append_grow_zeros w (ρ.t 24) (ρ.t 3) ty (ρ.t 9) i0 zv .i64 .i64 L.t24 L.t3 L.i9 L.hz (some ⟨b, off, none⟩) 0 c [] hold (n + 1) (by omega) (by rw [L.hs]; exact hz0) (by omega) (by omega) (by omega) (by rw [Nat.zero_add]; exact growslice_fits hroom hbig)
    rw [Nat.zero_add] at h
    rw [show (n : Int) + 1 = ((n + 1 : Nat) : Int) by omega, hW1, hROW, hG]
    exact h
  have hGn : n + 1 ≤ G := by rw [hG]; exact grownCap_ge w _ _ _
  have hG63 : G ≤ 9223372036854775807 := by
    have := grownCap_le_maxLen w (n + 1) c (ρ.t 9) (by unfold maxLen; omega)
    rw [← hG] at this
    unfold maxLen at this
    omega
  have hRs : ROW.size = G * z := by
    rw [hROW]
    simp only [Array.size_append, List.size_toArray, List.length_nil, Builtin.zeroCells, Array.size_map, Array.size_range, hzl, Nat.zero_add]
    rw [← Nat.add_mul, show n + 1 + (G - (n + 1)) = G by omega]
  have hGz : (n + 1) * z ≤ G * z := Nat.mul_le_mul_right _ hGn
  have hA1 : W1.heap[w.heap.size]? = some (.cells ROW (ρ.t 9) (0, 0)) := by
    rw [hW1]; show (w.heap.push _)[w.heap.size]? = _; simp
  have hpast : ∀ k, k < w.heap.size → W1.heap[k]? = w.heap[k]? := fun k hk => by
    rw [hW1]; show (w.heap.push _)[k]? = _; rw [Array.getElem?_push, if_neg (by omega)]
  obtain ⟨R1, hR1⟩ : ∃ R1, R1 = (ROW.toList.take 0 ++ vs ++ ROW.toList.drop (0 + vs.length)).toArray := ⟨_, rfl⟩
  obtain ⟨R2, hR2⟩ : ∃ R2, R2 = (R1.toList.take z ++ cs ++ R1.toList.drop (z + cs.length)).toArray := ⟨_, rfl⟩
  have hR1s : R1.size = ROW.size := by rw [hR1]; simp [hvl]; omega
  have hR2s : R2.size = R1.size := by rw [hR2]; simp [hcl]; omega
  obtain ⟨W2, hW2⟩ : ∃ W2, W2 = W1.setRow w.heap.size R1 := ⟨_, rfl⟩
  have hcpA : ∀ ty dc, (Builtin.copy_ #[(ρ.t 24), (ρ.t 24)] ty #[.slice (some ⟨w.heap.size, 0, none⟩) (n + 1) dc, .slice (some ⟨vb, voff, none⟩) 1 vc]).run P W1 = .ok (goInt ((1 : Nat) : Int)) W2 := fun ty dc => by
    have hm : Nat.min 1 (n + 1) = 1 := by simp [Nat.min_def]
    have h := run_copy_wide (z := z) W1 (ρ.t 24) (ρ.t 24) ty (ρ.t 9) w.heap.size 0 (n + 1) dc ⟨vb, voff, none⟩ 1 vc ROW (ρ.t 9) vs L.t24 z9 hA1 (by rw [hm, Nat.one_mul]; exact hvl) (fun j v hj => by
      rw [hvs, List.getElem?_take] at hj
      split at hj
      · rw [List.getElem?_drop, Array.getElem?_toList] at hj
        rw [Addr.add_lit]
        simp only [World.cell?, hpast vb hvs', hD]; exact hj
      · cases hj) (by rw [hvl]; omega) h1v
    rw [h, hm, ← hR1, hW2]
  have hA2 : W2.heap[w.heap.size]? = some (.cells R1 (ρ.t 9) (0, 0)) := by
    rw [hW2]; exact setRow_heap W1 _ ROW R1 _ _ hA1
  have hpast2 : ∀ k, k < w.heap.size → W2.heap[k]? = w.heap[k]? := fun k hk => by
    rw [hW2, setRow_other W1 _ k R1 (by omega)]; exact hpast k hk
  have hcpB : ∀ ty dc sc, (Builtin.copy_ #[(ρ.t 24), (ρ.t 24)] ty #[.slice (some ⟨w.heap.size, z, none⟩) n dc, .slice (some ⟨b, off, none⟩) n sc]).run P W2.drew = .ok (goInt (n : Nat)) (W2.drew.setRow w.heap.size R2) := fun ty dc sc => by
    have hm : Nat.min n n = n := by simp [Nat.min_def]
    have h := run_copy_wide (z := z) W2.drew (ρ.t 24) (ρ.t 24) ty (ρ.t 9) w.heap.size z n dc ⟨b, off, none⟩ n sc R1 (ρ.t 9) cs L.t24 z9 hA2 (by rw [hm]; exact hcl) (fun j v hj => by
      rw [hcs, List.getElem?_take] at hj
      split at hj
      · rw [List.getElem?_drop, Array.getElem?_toList] at hj
        rw [Addr.add_lit]
        have hh : W2.drew.heap[b]? = some (.cells C T (0, 0)) := (hpast2 b hbs).trans hC
        simp only [World.cell?, hh]; exact hj
      · cases hj) (by rw [hcl]; omega) h1c
    rw [h, hm, ← hR2]
  have hat1 : ∀ j : Nat, R1[j]? = if j < z then vs[j]? else ROW[j]? := fun j => by
    rw [hR1, splice_at _ _ _ (by simp [hvl]; omega), hvl]; simp
  have hat2 : ∀ j : Nat, R2[j]? = if j < z then R1[j]? else if j < z + n * z then cs[j - z]? else R1[j]? := fun j => by
    rw [hR2, splice_at _ _ _ (by simp [hcl]; omega), hcl]; simp
  have hfin : ∃ (G' : Nat) (R : Array Value), Ending.returned (.slice (some ⟨w.heap.size, 0, none⟩) (n + 1) G) = .returned (.slice (some ⟨w.heap.size, 0, none⟩) (n + 1) G') ∧ (W2.drew.setRow w.heap.size R2).heap = w.heap.push (.cells R (ρ.t 9) (0, 0)) ∧ Ev.Same w (W2.drew.setRow w.heap.size R2) ∧ n + 1 ≤ G' ∧ G' ≤ 9223372036854775807 ∧ G' * z ≤ R.size ∧
        (∀ j, j < z → R[j]? = D[voff + j]?) ∧ (∀ j, j < n * z → R[z + j]? = C[off + j]?) := by
    refine ⟨G, R2, rfl, ?_, ?_, hGn, hG63, by omega, fun j hj => ?_, fun j hj => ?_⟩
    · rw [setRow_heapA W2.drew w.heap.size R2 R1 _ hA2]
      show W2.heap.setIfInBounds _ _ = _
      rw [hW2, setRow_heapA W1 _ R1 ROW _ hA1, hW1, Array.setIfInBounds_setIfInBounds]
      show (w.heap.push _).setIfInBounds _ _ = _
      apply Array.ext_getElem?
      intro k
      rw [Array.getElem?_setIfInBounds, Array.getElem?_push, Array.getElem?_push]
      by_cases hk : w.heap.size = k
      · subst hk; simp
      · rw [if_neg hk, if_neg (fun e => hk e.symm), if_neg (fun e => hk e.symm)]
    · rw [hW2, hW1]; exact ⟨rfl, rfl⟩
    · rw [hat2, if_pos hj, hat1, if_pos hj, hvs, List.getElem?_take, if_pos hj, List.getElem?_drop, Array.getElem?_toList]
    · rw [hat2, if_neg (by omega), if_pos (by omega), hcs, List.getElem?_take, if_pos (by omega), List.getElem?_drop, Array.getElem?_toList]
      congr 1; omega
  have hw1 : IntKind.i64.wrap ((n : Int) + 1) = (n : Int) + 1 := by rw [IntKind.wrap_i64]; omega
  have hwr : IntKind.i64.wrap 1 = 1 := by decide
  have htn1 : (1 : Int).toNat = 1 := rfl
  have hle1 : (1 : Int) ≤ (n : Int) + 1 := by omega
  have hge0 : (0 : Int) ≤ (n : Int) + 1 := by omega
  have hge00 : (0 : Int) ≤ (n : Int) := by omega
  have hc0 : (0 : Int) ≤ (c : Int) := by omega
  have hb2 : ¬ (G = 1) := by omega
  have hb3 : ¬ (G = 0) := by omega
  have hb4 : ¬ (c = 0) := by omega
  have h1z : 1 * z = z := Nat.one_mul z
  have h0z : 0 * z = 0 := Nat.zero_mul z
  rw [hW2] at hfin hcpA hcpB
  rw [hW1] at hfin hcpA hcpB hrz
  clear hat1 hat2 hA1 hA2 hpast hpast2 hR1s hR2s hRs hGz hcs hvs hcl hvl hROW hG hR1 hR2 hcz hnz hold
  go_enter FG, Body2.n22_ntmps ρ
  go_wp2_with (first
    | (at_builtin; refine Lib.wpList_append_run _ rfl _ _ _ _ rfl _ _ rfl rfl _ _ (hrz _) ?_)
    | (at_builtin; refine wpList_copy_runI _ rfl _ _ (ρ.t 24) (ρ.t 24) rfl _ _ rfl rfl (hcpA _ _) ?_))
  go_region_law_o (refine step_copy_runI rfl _ _ (ρ.t 24) (ρ.t 24) rfl (.slice (some ⟨w.heap.size, z, none⟩) n (G - 1)) (.slice (some ⟨b, off, none⟩) n c) (by simp [Act.eval, Act.put]) (by simp [Act.eval, Act.put]) (hcpB (ρ.t 3) (G - 1) c) ?_)
  go_wp2
  go_ret
  exact hfin
end Go.Proofs

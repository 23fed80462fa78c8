/- FnKeys returns true for every input, on the conditions that the row itself states, and on no other (part 'EvPrim') -/
import Derived.Test.YtbkgalecdbmkaaaEvLaw
import Derived.Shelf.Spec.SlicesGrow

namespace Go.Ev
open Go Go.Proofs
set_option linter.unusedVariables false
set_option linter.unusedSimpArgs false

/-- what is handed back: one slice, owned -/
theorem own_ret {N : Ent} {ρ : S} {m : Nat} {e : Row} {xs : List (rden e)} (hρ : ρ = { tm := [(0, .one (.os m))], hp := [(m, .arr e false xs)], us := [m] }) (hlow : low m = true) (hf : rflat e = true) {a : Option Addr} {cap : Nat} {h' : Heap}
    (hl : xs.length ≤ cap) (kp : Kp N.W N.h0 h')
    (hb : cap = 0 ∨ ∃ b o c T, a = some ⟨b, o, none⟩ ∧ h'[b]? = some (.cells c T (0, 0)) ∧ (0 < cap ∧ cap ≤ 9223372036854775807 ∧ o + cap * roww e ≤ c.size) ∧
      (∀ i (hi : i < xs.length), rowRd (fun _ => False) #[] e xs[i] fun j => c[o + i * roww e + j]?) ∧ (N.h0.size ≤ b ∨ (N.Ow b ∧ ∀ o, N.W b o))) :
    ∃ G1 O1, RetOk N G1 O1 ρ (.slice a xs.length cap) h' := by
  subst hρ
  have key : ∀ n b, look n [(m, Bl.arr e false xs)] = some b → n = m ∧ b = .arr e false xs := by
    intro n b h
    rw [look_cons] at h
    split at h
    · rename_i he; cases h; exact ⟨he.symm, rfl⟩
    · cases h
  refine ⟨fun _ => .slice a xs.length cap, fun n k => n = m ∧ blkOf (.slice a xs.length cap) = some k, kp, ?_, ?_, ?_, ?_, ?_, ?_⟩
  · intro v hv
    cases hv
    simp only [Vl.rl, Lf.rl]
    exact ⟨by simp [env, has_cons], rfl, _, _, _, rfl⟩
  · intro n b h
    obtain ⟨rfl, rfl⟩ := key n b h
    refine ⟨a, cap, rfl, hl, hb.imp id fun ⟨b, o, c, T, h1, h2, h3, h4, _⟩ => ⟨b, o, c, T, h1, h2, h3, fun i hi => row_flat e _ _ hf (h4 i hi)⟩⟩
  · intro n b k h hk
    exact ⟨(key n b h).1, hk⟩
  · intro n n' b b' k h h' _ _
    rw [(key n b h).1, (key n' b' h').1]
  · intro n b k h hk
    obtain ⟨rfl, rfl⟩ := key n b h
    obtain ⟨h0, p, h1, h2⟩ := blkOf_sl' hk.2
    rcases hb with hb | ⟨b, o, c, T, g1, g2, g3, g4, g5⟩
    · omega
    · rw [g1] at h1; cases h1
      simp only at h2; subst h2
      refine ⟨?_, g5.imp id fun g => ⟨g.1, fun o _ => g.2 o⟩⟩
      rcases Nat.lt_or_ge b h'.size with h | h
      · exact h
      · simp [Array.getElem?_eq_none h] at g2
  · intro n b v K h hf
    obtain ⟨rfl, rfl⟩ := key n b h
    rw [N.hi _ hlow] at hf; cases hf

/-- what is handed back: one plain value -/
theorem one_ret {N : Ent} {ρ : S} {l : Lf} (hρ : ρ = { tm := [(0, .one l)], hp := [], us := [] }) {y : Value} {h' : Heap} (kp : Kp N.W N.h0 h') (hl : ∀ E, l.rl E y) : ∃ G1 O1, RetOk N G1 O1 ρ y h' := by
  subst hρ
  have no : ∀ n (b : Bl), look n ([] : List (Nat × Bl)) = some b → False := fun n b h => (by cases h)
  refine ⟨fun _ => undef, fun _ _ => False, kp, ?_, fun n b h => (no n b h).elim, fun n b k h => (no n b h).elim, fun n m b b' k h => (no n b h).elim, fun n b k h => (no n b h).elim, fun m b v K h => (no m b h).elim⟩
  intro v hv
  cases hv
  simp only [Vl.rl]; exact hl _

/-- an owned array that came in -/
theorem arr_in {N : Ent} {G : Nat → Value} {O : Nat → Nat → Prop} {σ : S} {ts : Array Value} {h : Heap} (R : Rel N G O σ ts h) {m : Nat} {e : Row} {xs : List (rden e)} (hl : look m σ.hp = some (.arr e false xs)) (hf : rflat e = true) :
    ∃ a cap, G m = .slice a xs.length cap ∧ xs.length ≤ cap ∧ (cap = 0 ∨ ∃ b o c T, a = some ⟨b, o, none⟩ ∧ h[b]? = some (.cells c T (0, 0)) ∧ (0 < cap ∧ cap ≤ 9223372036854775807 ∧ o + cap * roww e ≤ c.size) ∧
      (∀ i (hi : i < xs.length), rowRd (fun _ => False) #[] e xs[i] fun j => c[o + i * roww e + j]?) ∧ (N.h0.size ≤ b ∨ (N.Ow b ∧ ∀ o, N.W b o))) := by
  obtain ⟨a, cap, e1, e2, e3⟩ := (R.hp m _ hl).2
  refine ⟨a, cap, e1, e2, e3.imp id fun ⟨b, o, c, T, h1, h2, h3, h4⟩ => ⟨b, o, c, T, h1, h2, h3, fun i hi => row_flat e _ _ hf (h4 i hi), ?_⟩⟩
  have hO := R.own m _ b hl (by rw [show G m = _ from e1, h1]; exact blkOf_sl h3.1)
  exact (R.wr m _ b hl hO).2.imp id fun g => ⟨g.1, fun o => g.2 o trivial⟩

/-! ### slices.Grow -/
def growF (e : Row) (bytes : Nat) (d : List (rden e) × Int) : Option (List (rden e)) := if 0 ≤ d.2 ∧ d.1.length + d.2.toNat < limOf bytes then some d.1 else none
def growSig (f : Nat) (e : Row) : Sig := { f := f, ps := [.val false [.sl e] [.o], .val false [.i .i64] [.s]], rs := [.val false [.sl e] [.o]] }

theorem args2 {args : Array Value} (h : args.size = 2) : ∃ a b, args = #[a, b] := by
  obtain ⟨l⟩ := args
  match l, h with
  | [a, b], _ => exact ⟨a, b, rfl⟩

theorem grow_at {c : Ctx} {P : Program} (ty : ∀ t, TyOk P c.ti t) {ρ : Shelf.Ren} (L : Lays8.n4 P ρ) {et : Nat} (het : ρ.t 25 = et) (hk : (c.ti et).known = true) {e : Row} {by_ : Nat} (he : (c.ti et).row = e) (hby : (c.ti et).bytes = by_) (hf : rflat e = true) (hpos : 0 < roww e)
    (xs : List (rden e)) (n : Int) (h0 : 0 ≤ n) (hlim : xs.length + n.toNat < limOf by_) {N : Ent} {G : Nat → Value} {O : Nat → Nat → Prop} {args : Array Value} {w : World} (hsz : args.size = 2) (hN : N.h0 = w.heap)
    (R : Rel N G O { tm := [(0, .one (.os (pnm 0))), (1, .one (.int .i64 n))], hp := [(pnm 0, .arr e false xs)], us := [pnm 0] } args w.heap) :
    Does P (ρ.f 4) args w fun y w' => Same w w' ∧ ∀ t, retOk (growSig (ρ.f 4) e) t xs = true → ∃ G1 O1, RetOk N G1 O1 (retS (growSig (ρ.f 4) e) t xs) y w'.heap := by
    refine .inl ⟨(L.f4.enters rfl) _ _, ?_⟩
    obtain ⟨v0, v1, rfl⟩ := args2 hsz
    have t0 := (R.tm 0 _ rfl).2
    have t1 := (R.tm 1 _ rfl).2
    simp only [Vl.rl, Lf.rl] at t0 t1
    have t0 : v0 = G (pnm 0) := t0.2.1
    have t1 : v1 = .int .i64 n := t1
    obtain ⟨a, cap, hG, hle, hb⟩ := arr_in R (m := pnm 0) rfl hf
    rw [hG] at t0
    subst t0; subst t1
    obtain ⟨q1, q2⟩ := lim_le hlim
    obtain ⟨i0, z, g1, g2, g3, g4, g5⟩ := (ty et).info hk
    obtain ⟨k, rfl⟩ : ∃ k : Nat, n = k := ⟨n.toNat, (Int.toNat_of_nonneg h0).symm⟩
    simp only [Int.toNat_natCast] at hlim q1 q2
    have hret : ∀ t, retS (growSig (ρ.f 4) e) t xs = { tm := [(0, .one (.os (nm t 0)))], hp := [(nm t 0, .arr e false xs)], us := [nm t 0] } := fun t => rfl
    have hlow : ∀ t, retOk (growSig (ρ.f 4) e) t xs = true → low (nm t 0) = true := by
      intro t ht
      simp only [retOk, hret, Bool.and_eq_true, List.all_cons] at ht
      exact ht.2.1
    by_cases hroom : xs.length + k ≤ cap
    · have hc63 : cap ≤ 9223372036854775807 := by
        rcases hb with hb | ⟨_, _, _, _, _, _, hb, _⟩
        · omega
        · exact hb.2.1
      refine (Any8.slices_Grow_room L a xs.length cap k w hle hc63 (by omega) hroom).mono ?_
      rintro e' w' ⟨rfl, rfl⟩
      refine ⟨_, rfl, .rfl', fun t ht => own_ret (hret t) (hlow t ht) hf hle (by rw [hN]; exact Kp.refl _ _) hb⟩
    · -- all that stands up to the capacity
      obtain ⟨cs, c1, c2, c3, c4⟩ : ∃ cs : List Value, cs.length = cap * i0.size ∧ (a = none → cap = 0) ∧ (∀ ad, a = some ad → ∀ j v, cs[j]? = some v → w.cell? (ad.add j) = some v) ∧
          ∀ i (hi : i < xs.length), rowRd (fun _ => False) #[] e xs[i] fun j => cs[i * roww e + j]? := by
        rcases hb with rfl | ⟨b, o, C, T, rfl, hh, hcp, hel, _⟩
        · exact ⟨[], by simp, fun _ => rfl, fun _ _ _ _ h => by simp at h, fun i hi => by omega⟩
        · have hcl : ((C.toList.drop o).take (cap * i0.size)).length = cap * i0.size := by
            rw [g2, he]; simp; omega
          refine ⟨(C.toList.drop o).take (cap * i0.size), hcl, (fun h => by cases h), ?_, fun i hi => ?_⟩
          · intro ad had j v hj
            cases had
            rw [addr_add, cell_at]
            simp only [List.getElem?_take, List.getElem?_drop] at hj
            split at hj
            · simp only [cellAt, hh]; rw [← hj]; simp
            · cases hj
          · refine rowRd_cells e _ _ _ (fun j hj => ?_) (hel i hi)
            have : (i + 1) * roww e ≤ cap * roww e := Nat.mul_le_mul_right _ (by omega)
            rw [Nat.add_mul, Nat.one_mul] at this
            rw [List.getElem?_take, if_pos (by rw [g2, he]; omega), List.getElem?_drop, Array.getElem?_toList]
            congr 1; omega
      have hg := Any8.slices_Grow_grow L i0 z (by rw [het]; exact g1) g4 (by rw [g2, he]; exact hpos) a xs.length cap k cs w hle (by omega) (by rw [g3, hby]; exact q1) (by omega) c1 c2 c3
      refine hg.mono ?_
      rintro e' w' ⟨rfl, rfl⟩
      refine ⟨_, rfl, ⟨rfl, rfl⟩, fun t ht => own_ret (hret t) (hlow t ht) hf ?_ ?_ (.inr ⟨w.heap.size, 0, cs.toArray ++ Builtin.zeroCells z.cells (xs.length + k - cap) ++ Builtin.zeroCells z.cells (grownCap w (xs.length + k) cap (ρ.t 25) - (xs.length + k)), ρ.t 25, rfl, ?_, ⟨?_, ?_, ?_⟩, ?_, ?_⟩)⟩
      · have : xs.length + k ≤ grownCap w (xs.length + k) cap (ρ.t 25) := Nat.le_add_right _ _
        omega
      · rw [hN]; exact (Kp.refl _ _).push _
      · show (w.heap.push _)[w.heap.size]? = _
        simp
      · have : xs.length + k ≤ grownCap w (xs.length + k) cap (ρ.t 25) := Nat.le_add_right _ _
        omega
      · exact grown_le (by omega)
      · have : xs.length + k ≤ grownCap w (xs.length + k) cap (ρ.t 25) := Nat.le_add_right _ _
        have zl : z.cells.size = roww e := by
          have h1 := lfs_len (zoks_rl (env N G O { tm := [], hp := [], us := [] } #[]) _ _ g5)
          have h2 := (ty et).zlen hk
          rw [he] at h2
          have h3 : z.cells.toList.length = z.cells.size := by simp
          omega
        simp only [Array.size_append, List.size_toArray, c1, Builtin.zeroCells, Array.size_map, Array.size_range, zl, g2, he, Nat.zero_add]
        rw [← Nat.add_mul, ← Nat.add_mul]
        exact Nat.mul_le_mul_right _ (by omega)
      · intro i hi
        refine rowRd_cells e _ _ _ (fun j hj => ?_) (c4 i hi)
        have : (i + 1) * roww e ≤ cap * roww e := Nat.mul_le_mul_right _ (by omega)
        rw [Nat.add_mul, Nat.one_mul] at this
        have hlt : i * roww e + j < cs.length := by rw [c1, g2, he]; omega
        rw [Nat.zero_add, Array.getElem?_append_left (by simp; omega), Array.getElem?_append_left (by simpa using hlt)]
        simp
      · exact .inl (by rw [hN]; exact Nat.le_refl _)

theorem grow_ok {c : Ctx} {P : Program} (ty : ∀ t, TyOk P c.ti t) {ρ : Shelf.Ren} (L : Lays8.n4 P ρ) {et : Nat} (het : ρ.t 25 = et) (hk : (c.ti et).known = true) {e : Row} {by_ : Nat} (he : (c.ti et).row = e) (hby : (c.ti et).bytes = by_) (hf : rflat e = true) (hpos : 0 < roww e) :
    FnOk P (growSig (ρ.f 4) e) (growF e by_) := by
  have key : ∀ (d : List (rden e) × Int) (r : List (rden e)), growF e by_ d = some r → r = d.1 ∧ 0 ≤ d.2 ∧ d.1.length + d.2.toNat < limOf by_ := by
    intro d r h
    unfold growF at h
    split at h
    · rename_i hc; cases h; exact ⟨rfl, hc⟩
    · cases h
  intro d r h
  obtain ⟨h1, h2, h3⟩ := key d r h
  subst h1
  exact ⟨rfl, fun N G O args w hsz hN R => grow_at ty L het hk he hby hf hpos d.1 d.2 h2 h3 hsz hN R⟩
end Go.Ev

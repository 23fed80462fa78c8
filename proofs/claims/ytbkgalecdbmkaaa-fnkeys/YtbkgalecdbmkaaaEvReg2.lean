/- FnKeys returns true for every input, on the conditions that the row itself states, and on no other (part 'EvReg2') -/
import Derived.Test.YtbkgalecdbmkaaaEvReg

namespace Go.Ev
open Go
set_option linter.unusedVariables false
set_option linter.unusedSimpArgs false

/-! ### what must be ahead -/
def bits (acc : Array Nat) (o : Oper) : Nat := o.after.foldl (fun s e => if Region.binds .any e then s ||| 2 ^ e.on ||| acc.getD e.on 0 else s) 0
def befs : List Oper → Array Nat → Array Nat
  | [], acc => acc
  | o :: r, acc => befs r (acc.push (bits acc o))
theorem before_befs (ops : Array Oper) : Region.before ops = befs ops.toList #[] := by
  unfold Region.before
  rw [← Array.foldl_toList]
  have : ∀ (l : List Oper) (acc : Array Nat), List.foldl (fun acc o => acc.push (o.after.foldl (fun s e => if Region.binds .any e then s ||| 2 ^ e.on ||| acc.getD e.on 0 else s) 0)) acc l = befs l acc := by
    intro l
    induction l with
    | nil => intro acc; rfl
    | cons o r ih => intro acc; exact ih _
  exact this _ _
theorem befs_size : (l : List Oper) → (acc : Array Nat) → (befs l acc).size = acc.size + l.length
  | [], acc => by simp [befs]
  | o :: r, acc => by simp only [befs, befs_size r, Array.size_push, List.length_cons]; omega
theorem befs_old : (l : List Oper) → (acc : Array Nat) → (j : Nat) → j < acc.size → (befs l acc)[j]? = acc[j]?
  | [], acc, j, _ => rfl
  | o :: r, acc, j, h => by
    simp only [befs]
    rw [befs_old r _ j (by simp; omega), Array.getElem?_push, if_neg (by omega)]
theorem bits_bit (acc : Array Nat) (o : Oper) (k : Nat) (h : (bits acc o).testBit k = true) : ∃ e ∈ o.after, Region.binds .any e = true ∧ (k = e.on ∨ (acc.getD e.on 0).testBit k = true) := by
  unfold bits at h
  rw [← Array.foldl_toList] at h
  have key : ∀ (l : List Edge) (s : Nat), (l.foldl (fun s e => if Region.binds .any e then s ||| 2 ^ e.on ||| acc.getD e.on 0 else s) s).testBit k = true →
      s.testBit k = true ∨ ∃ e ∈ l, Region.binds .any e = true ∧ (k = e.on ∨ (acc.getD e.on 0).testBit k = true) := by
    intro l
    induction l with
    | nil => intro s h; exact .inl h
    | cons e r ih =>
      intro s h
      rw [List.foldl_cons] at h
      rcases ih _ h with h | ⟨e', he, h⟩
      · split at h
        · rename_i hb
          rw [Nat.testBit_or, Nat.testBit_or, Bool.or_eq_true, Bool.or_eq_true, Nat.testBit_two_pow] at h
          rcases h with (h | h) | h
          · exact .inl h
          · exact .inr ⟨e, List.mem_cons_self .., hb, .inl (of_decide_eq_true h).symm⟩
          · exact .inr ⟨e, List.mem_cons_self .., hb, .inr h⟩
        · exact .inl h
      · exact .inr ⟨e', List.mem_cons_of_mem _ he, h⟩
  rcases key _ 0 h with h | ⟨e, he, h⟩
  · simp at h
  · exact ⟨e, by simpa using he, h⟩
theorem befs_bit : (l : List Oper) → (acc : Array Nat) → (j : Nat) → (o : Oper) → l[j]? = some o → (k : Nat) → ((befs l acc).getD (acc.size + j) 0).testBit k = true →
    ∃ e ∈ o.after, Region.binds .any e = true ∧ (k = e.on ∨ (e.on < acc.size + j ∧ ((befs l acc).getD e.on 0).testBit k = true))
  | [], acc, j, o, h, k, _ => by simp at h
  | p :: r, acc, j, o, h, k, hb => by
    cases j with
    | zero =>
      simp at h; subst h
      simp only [befs, Nat.add_zero] at hb ⊢
      have hsz : acc.size < (acc.push (bits acc p)).size := by simp
      rw [Array.getD_eq_getD_getElem?, befs_old r _ acc.size hsz] at hb
      simp only [Array.getElem?_push, if_true, Option.getD_some] at hb
      obtain ⟨e, h1, h2, h3⟩ := bits_bit acc p k hb
      refine ⟨e, h1, h2, h3.imp id fun h3 => ?_⟩
      have hlt : e.on < acc.size := by
        rcases Nat.lt_or_ge e.on acc.size with h | h
        · exact h
        · simp [Array.getElem?_eq_none h] at h3
      refine ⟨hlt, ?_⟩
      rw [Array.getD_eq_getD_getElem?, befs_old r _ e.on (by simp; omega), Array.getElem?_push, if_neg (by omega), ← Array.getD_eq_getD_getElem?]
      exact h3
    | succ j =>
      have e1 : (acc.push (bits acc p)).size + j = acc.size + (j + 1) := by simp; omega
      have := befs_bit r (acc.push (bits acc p)) j o (by simpa using h) k (by rw [e1]; exact hb)
      rw [e1] at this
      exact this
theorem before_bit {ops : Array Oper} {j : Nat} {o : Oper} (ho : ops[j]? = some o) {k : Nat} (hb : ((Region.before ops).getD j 0).testBit k = true) :
    ∃ e ∈ o.after, Region.binds .any e = true ∧ (k = e.on ∨ (e.on < j ∧ ((Region.before ops).getD e.on 0).testBit k = true)) := by
  rw [before_befs] at hb ⊢
  have := befs_bit ops.toList #[] j o (by simpa using ho) k (by simpa using hb)
  simpa using this

/-- what must be ahead is listed or ahead -/
def OrdOk (ops : Array Oper) (listed : Array Bool) (l : List Nat) : Prop :=
  ∀ A i B, l = A ++ i :: B → ∃ o, ops[i]? = some o ∧ ∀ e ∈ o.after, Region.binds .any e = true → listed.getD e.on false = true ∨ e.on ∈ A
theorem ordB_ok {ops : Array Oper} : {l seen : List Nat} → ordB ops.toList seen l = true → ∀ A i B, l = A ++ i :: B → ∃ o, ops[i]? = some o ∧ ∀ e ∈ o.after, Region.binds .any e = true → e.on ∈ seen ∨ e.on ∈ A
  | [], seen, _, A, i, B, h => by simp at h
  | k :: r, seen, hb, A, i, B, h => by
    simp only [ordB, Bool.and_eq_true] at hb
    obtain ⟨h1, h2⟩ := hb
    cases A with
    | nil =>
      simp only [List.nil_append, List.cons.injEq] at h
      obtain ⟨rfl, rfl⟩ := h
      split at h1
      · rename_i o ho
        refine ⟨o, by simpa using ho, fun e he hbi => .inl ?_⟩
        have := List.all_eq_true.1 h1 e (by simpa using he)
        rw [hbi] at this
        exact has_mem.1 (by simpa using this)
      · cases h1
    | cons a A =>
      simp only [List.cons_append, List.cons.injEq] at h
      obtain ⟨rfl, rfl⟩ := h
      obtain ⟨o, ho, hall⟩ := ordB_ok h2 A i B rfl
      refine ⟨o, ho, fun e he hbi => ?_⟩
      rcases hall e he hbi with h | h
      · rcases List.mem_cons.1 h with h | h
        · exact .inr (by rw [h]; exact List.mem_cons_self ..)
        · exact .inl h
      · exact .inr (List.mem_cons_of_mem _ h)
theorem dis_nodup : {l : List Nat} → dis l = true → l.Nodup
  | [], _ => List.nodup_nil
  | a :: r, h => by
    simp only [dis, Bool.and_eq_true, Bool.not_eq_true'] at h
    exact List.nodup_cons.2 ⟨fun hm => (by have := has_mem.2 hm; rw [h.1] at this; cases this), dis_nodup h.2⟩

section
variable {c : Ctx} {x : X c} {P : Program} {N : Ent} {G : Nat → Value} {O : Nat → Nat → Prop} {σ σ' : S} {a : Act} {w : World} {u : List Upd} {l : List Loc}
variable {Q : Exit → Act → World → Prop}

/-- what is owed behind a region -/
def Owe (N : Ent) (σ' : S) (a : Act) (w : World) (q : Act → World → Prop) : Prop :=
  ∀ G' O' a' w', Rel N G' O' σ' a'.tmps w'.heap → Same w w' → a'.tmps.size = a.tmps.size → a'.defers = a.defers → q a' w'

theorem tr_wp (ty : ∀ t, TyOk P c.ti t) (FO : ∀ v, FnOk P (c.sig v) (x.callee v)) {ops : Array Oper} {nt : Nat} {σ' : S} : (T : List Stp) → {σ : S} → {G : Nat → Value} → {O : Nat → Nat → Prop} → {a : Act} → {w : World} → Tr x nt ops.toList σ T σ' → nt ≤ a.tmps.size → Rel N G O σ a.tmps w.heap →
    Owe N σ' a w (Q .normal) → wpOps P ops Q (T.map (·.i)) a w
  | [], σ, G, O, a, w, h, hn, R, hK => by
    cases h with
    | nil h => exact hK G O a w (R.eqv h) .rfl' rfl rfl
  | s :: T, σ, G, O, a, w, h, hn, R, hK => by
    cases h with
    | cons h e r =>
      rw [List.map_cons, wpOps_cons]
      refine step_wp ty FO hn R h fun G' O' a' w' R' hs hsz hdf => ?_
      exact tr_wp ty FO T r (by rw [hsz]; exact hn) (R'.eqv e) fun G2 O2 a2 w2 R2 hs2 hsz2 hdf2 => hK G2 O2 a2 w2 R2 (hs.trans hs2) (hsz2.trans hsz) (hdf2.trans hdf)

theorem calm_split {bef : Array Nat} {s : Stp} {B : List Stp} : {A : List Stp} → calm bef (A ++ s :: B) = true → (∀ q ∈ A, (bef.getD s.i 0).testBit q.i = true ∨ apart q s = true) ∧ calm bef (A ++ B) = true
  | [], h => by
    simp only [List.nil_append, calm, Bool.and_eq_true] at h
    exact ⟨by simp, h.2⟩
  | q :: A, h => by
    simp only [List.cons_append, calm, Bool.and_eq_true] at h ⊢
    obtain ⟨h1, h2⟩ := calm_split h.2
    have h0 := List.all_eq_true.1 h.1
    refine ⟨fun p hp => ?_, List.all_eq_true.2 fun p hp => ?_, h2⟩
    · rcases List.mem_cons.1 hp with rfl | hp
      · have := h0 s (by simp)
        simpa [Bool.or_eq_true] using this
      · exact h1 p hp
    · refine h0 p ?_
      rcases List.mem_append.1 hp with hp | hp
      · exact List.mem_append_left _ hp
      · exact List.mem_append_right _ (List.mem_cons_of_mem _ hp)

theorem any_wp (ty : ∀ t, TyOk P c.ti t) (FO : ∀ v, FnOk P (c.sig v) (x.callee v)) {ops : Array Oper} {nt : Nat} {σ' : S} : (fuel : Nat) → {T : List Stp} → {listed : Array Bool} → {σ : S} → {G : Nat → Value} → {O : Nat → Nat → Prop} → {a : Act} → {w : World} →
    listed.size = ops.size → ((T.map (·.i)).Nodup ∧ OrdOk ops listed (T.map (·.i))) → (∀ i, i < ops.size → (listed.getD i true = false ↔ i ∈ T.map (·.i))) → (∀ i ∈ T.map (·.i), i < ops.size) → calm (Region.before ops) T = true →
    (∀ j k, j < ops.size → listed.getD j true = true → ((Region.before ops).getD j 0).testBit k = true → listed.getD k false = true) → T.length ≤ fuel →
    Tr x nt ops.toList σ T σ' → nt ≤ a.tmps.size → Rel N G O σ a.tmps w.heap → Owe N σ' a w (Q .normal) → wpAny P .any ops Q fuel listed a w := by
  intro fuel
  induction fuel with
  | zero =>
    intro T listed σ G O a w hsz hsort hlist hlt hcalm hclosed hfuel htr hn R hK
    have : T = [] := List.eq_nil_of_length_eq_zero (by omega)
    subst this
    refine wpAny_done ?_ ?_ 0
    · cases hr : Region.ready .any ops listed with
      | nil => rfl
      | cons j r =>
        have hj : j ∈ Region.ready .any ops listed := by rw [hr]; exact List.mem_cons_self ..
        obtain ⟨h0, o, ho, _⟩ := mem_ready.1 hj
        have := (hlist j (Array.getElem?_eq_some_iff.1 ho).1).1 h0
        simp at this
    · cases htr with
      | nil h => exact hK G O a w (R.eqv h) .rfl' rfl rfl
  | succ fuel ih =>
    intro T listed σ G O a w hsz hsort hlist hlt hcalm hclosed hfuel htr hn R hK
    cases T with
    | nil =>
      refine wpAny_done ?_ ?_ _
      · cases hr : Region.ready .any ops listed with
        | nil => rfl
        | cons j r =>
          have hj : j ∈ Region.ready .any ops listed := by rw [hr]; exact List.mem_cons_self ..
          obtain ⟨h0, o, ho, _⟩ := mem_ready.1 hj
          have := (hlist j (Array.getElem?_eq_some_iff.1 ho).1).1 h0
          simp at this
      · cases htr with
        | nil h => exact hK G O a w (R.eqv h) .rfl' rfl rfl
    | cons s0 T0 =>
      generalize hT : s0 :: T0 = T at *
      refine ⟨fun hr => ?_, fun i hi => ?_⟩
      · -- the first one is ready
        exfalso
        have hs0 : s0.i ∈ T.map (·.i) := by rw [← hT]; simp
        have hs0lt := hlt _ hs0
        have : s0.i ∈ Region.ready .any ops listed := by
          obtain ⟨o, ho, hall⟩ := hsort.2 [] s0.i (T0.map (·.i)) (by rw [← hT]; rfl)
          refine mem_ready.2 ⟨(hlist _ hs0lt).2 hs0, _, ho, fun e he hb => ?_⟩
          exact (hall e he hb).resolve_right (by simp)
        rw [hr] at this; cases this
      · obtain ⟨h0, o, ho, hpre⟩ := mem_ready.1 hi
        have hilt := (Array.getElem?_eq_some_iff.1 ho).1
        have him := (hlist i hilt).1 h0
        obtain ⟨s, hsm, rfl⟩ := List.mem_map.1 him
        obtain ⟨A, B, hAB⟩ := List.append_of_mem hsm
        rw [hAB] at hcalm htr hsort hlist hlt hfuel
        obtain ⟨hc1, hc2⟩ := calm_split hcalm
        have hap : ∀ q ∈ A, apart q s = true := by
          intro q hq
          refine (hc1 q hq).resolve_left fun hb => ?_
          have hql : listed.getD q.i true = false := (hlist q.i (hlt _ (by simp; exact .inl ⟨q, hq, rfl⟩))).2 (by simp; exact .inl ⟨q, hq, rfl⟩)
          have hqlt := hlt q.i (by simp; exact .inl ⟨q, hq, rfl⟩)
          obtain ⟨e, he, hbi, hk⟩ := before_bit ho hb
          have hon := hpre e he hbi
          have hT2 : listed.getD q.i false = true := by
            rcases hk with hk | ⟨hlt', hk⟩
            · rw [hk]; exact hon
            · refine hclosed e.on q.i (by omega) ?_ hk
              have hin : e.on < listed.size := by omega
              rw [Array.getD_eq_getD_getElem?, Array.getElem?_eq_getElem hin] at hon ⊢
              exact hon
          have hin : q.i < listed.size := by omega
          rw [Array.getD_eq_getD_getElem?, Array.getElem?_eq_getElem hin] at hql hT2
          simp only [Option.getD_some] at hql hT2
          rw [hql] at hT2; cases hT2
        obtain ⟨hst, htr'⟩ := htr.pull A hap
        refine step_wp ty FO hn R hst fun G' O' a' w' R' hs hsz' hdf => ?_
        have hsub : ∀ j, j ∈ (A ++ B).map (·.i) → j ≠ s.i ∧ j ∈ (A ++ s :: B).map (·.i) := by
          intro j hj
          have hnd := hsort.1
          simp only [List.map_append, List.map_cons] at hnd hj ⊢
          have hp := List.nodup_append.1 hnd
          rcases List.mem_append.1 hj with hj | hj
          · exact ⟨hp.2.2 j hj s.i (List.mem_cons_self ..), List.mem_append_left _ hj⟩
          · exact ⟨fun h => (List.nodup_cons.1 hp.2.1).1 (h ▸ hj), List.mem_append_right _ (List.mem_cons_of_mem _ hj)⟩
        refine ih (T := A ++ B) (by simpa using hsz) ?_ ?_ ?_ hc2 ?_ (by simp at hfuel ⊢; omega) htr' (by rw [hsz']; exact hn) R' fun G2 O2 a2 w2 R2 hs2 hsz2 hdf2 => hK G2 O2 a2 w2 R2 (hs.trans hs2) (hsz2.trans hsz') (hdf2.trans hdf)
        · obtain ⟨hnd, hord⟩ := hsort
          simp only [List.map_append, List.map_cons] at hnd hord ⊢
          have hp := List.nodup_append.1 hnd
          refine ⟨List.nodup_append.2 ⟨hp.1, (List.nodup_cons.1 hp.2.1).2, fun p hp1 q hq => hp.2.2 p hp1 q (List.mem_cons_of_mem _ hq)⟩, ?_⟩
          intro A2 i2 B2 hAB2
          have put : ∀ k, listed.getD k false = true ∨ k = s.i → (listed.setIfInBounds s.i true).getD k false = true := by
            intro k hk
            rcases hk with hk | hk
            · exact getD_set_true hk
            · subst hk
              have hin : s.i < listed.size := by omega
              simp [hin]
          -- where it stood
          rcases List.append_eq_append_iff.1 hAB2 with ⟨C, h1, h2⟩ | ⟨C, h1, h2⟩
          · -- behind A
            obtain ⟨o2, ho2, hall⟩ := hord (A.map (·.i) ++ s.i :: C) i2 B2 (by rw [h2]; simp)
            refine ⟨o2, ho2, fun e he hbi => ?_⟩
            rcases hall e he hbi with h | h
            · exact .inl (put _ (.inl h))
            · rcases List.mem_append.1 h with h | h
              · exact .inr (by rw [h1]; exact List.mem_append_left _ h)
              · rcases List.mem_cons.1 h with h | h
                · exact .inl (put _ (.inr h))
                · exact .inr (by rw [h1]; exact List.mem_append_right _ h)
          · cases C with
            | nil =>
              obtain ⟨o2, ho2, hall⟩ := hord (A.map (·.i) ++ [s.i]) i2 B2 (by simp only [List.nil_append] at h2; rw [List.append_assoc, List.singleton_append]; rw [← h2])
              refine ⟨o2, ho2, fun e he hbi => ?_⟩
              rcases hall e he hbi with h | h
              · exact .inl (put _ (.inl h))
              · rcases List.mem_append.1 h with h | h
                · exact .inr (by simp only [List.append_nil] at h1; rw [← h1]; exact h)
                · exact .inl (put _ (.inr (by simpa using h)))
            | cons z C =>
              simp only [List.cons_append, List.cons.injEq] at h2
              obtain ⟨rfl, h2⟩ := h2
              obtain ⟨o2, ho2, hall⟩ := hord A2 i2 (C ++ s.i :: B.map (·.i)) (by rw [h1]; simp)
              refine ⟨o2, ho2, fun e he hbi => ?_⟩
              rcases hall e he hbi with h | h
              · exact .inl (put _ (.inl h))
              · exact .inr h
        · intro j hj
          by_cases hji : s.i = j
          · subst hji
            have hin : s.i < listed.size := by omega
            constructor
            · intro h; simp [hin] at h
            · intro h; exact absurd rfl (hsub _ h).1
          · rw [getD_set_ne true hji]
            refine (hlist j hj).trans ⟨fun h => ?_, fun h => (hsub j h).2⟩
            simp only [List.map_append, List.map_cons] at h ⊢
            rcases List.mem_append.1 h with h | h
            · exact List.mem_append_left _ h
            · rcases List.mem_cons.1 h with h | h
              · exact absurd h.symm hji
              · exact List.mem_append_right _ h
        · intro j hj; exact hlt j (hsub j hj).2
        · intro j k hj hl hb
          by_cases hji : s.i = j
          · subst hji
            obtain ⟨e, he, hbi, hk⟩ := before_bit ho hb
            have hon := hpre e he hbi
            refine getD_set_true ?_
            rcases hk with hk | ⟨hlt', hk⟩
            · rw [hk]; exact hon
            · refine hclosed e.on k (by omega) ?_ hk
              have hin : e.on < listed.size := by omega
              rw [Array.getD_eq_getD_getElem?, Array.getElem?_eq_getElem hin] at hon ⊢
              exact hon
          · rw [getD_set_ne true hji] at hl
            exact getD_set_true (hclosed j k hj hl hb)

/-- a region -/
theorem reg_wp (ty : ∀ t, TyOk P c.ti t) (FO : ∀ v, FnOk P (c.sig v) (x.callee v)) (hmix : P.follows .mixedOrders = true) {ops : Array Oper} {nt id : Nat} {draw : Bool} {ord : List Nat} {A : Type} {K : S → Option A} {r : A} (hn : nt ≤ a.tmps.size) (R : Rel N G O σ a.tmps w.heap)
    (h : evReg x nt ops draw ord σ K = some r) (hK : ∀ σ', K σ' = some r → Owe N σ' a w (Q .normal)) : (Code.region id ops draw).wp P Q a w := by
  unfold evReg at h
  cases draw with
  | false =>
    simp only at h
    obtain ⟨σ', T, h1, h2, h3⟩ := evOps_tr _ h
    refine wp_region ?_
    rw [Array.length_toList] at h3
    rw [← h3]
    exact tr_wp ty FO T h2 hn R (hK σ' h1)
  | true =>
    simp only at h
    split at h
    · rename_i hord
      obtain ⟨σ', T, h1, h2, h3⟩ := evOps_tr _ h
      simp only [List.append_nil, List.reverse_reverse] at h1
      split at h1
      · rename_i hb
        simp only [ordOk, Bool.and_eq_true] at hord
        obtain ⟨o1, o2, o3, o4⟩ := hord
        have o2 := Nat.le_of_ble_eq_true o2
        have hlen : T.length = ord.length := by have := congrArg List.length h3; simpa using this
        have hall : ∀ i, i < ops.size → i ∈ ord := fun i hi => has_mem.1 (List.all_eq_true.1 o3 i (by simpa using hi))
        have hoo := ordB_ok o4
        refine wp_region_any hmix ?_
        refine any_wp ty FO ops.size (T := T) (by simp) ⟨by rw [h3]; exact dis_nodup o1, ?_⟩ ?_ ?_ hb ?_ (by simp at o2; omega) h2 hn R fun G2 O2 a2 w2 R2 hs2 hsz2 hdf2 => hK σ' h1 G2 O2 a2 w2 R2 ?_ hsz2 hdf2
        · rw [h3]
          intro A i B hAB
          obtain ⟨o, ho, hq⟩ := hoo A i B hAB
          exact ⟨o, ho, fun e he hbi => .inr ((hq e he hbi).resolve_left (by simp))⟩
        · intro i hi; rw [h3]; simp [hi, hall i hi]
        · rw [h3]; intro i hi
          obtain ⟨A, B, hAB⟩ := List.append_of_mem hi
          obtain ⟨o, ho, _⟩ := hoo A i B hAB
          exact (Array.getElem?_eq_some_iff.1 ho).1
        · intro j k hj hl hb
          simp [hj] at hl
        · exact ⟨hs2.os, hs2.output⟩
      · cases h1
    · cases h
end
end Go.Ev

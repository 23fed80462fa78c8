/- FnKeys returns true for every input, on the conditions that the row itself states, and on no other (part 'Fwb') -/
import Derived.Test.YtbkgalecdbmkaaaFwa
import Derived.Great.BuildSlice
import Derived.Laws.BytesArg

namespace Go.Ev
open Go
set_option linter.unusedVariables false
set_option linter.unusedSimpArgs false

/-! ### cells of arrays -/
def ArRd (V : Nat → Prop) (h : Heap) (e : Row) (xs : List (rden e)) (y : Value) : Prop :=
  ∃ a cap, y = .slice a xs.length cap ∧ xs.length ≤ cap ∧ ∀ i (hi : i < xs.length), ∃ b o, a = some ⟨b, o, none⟩ ∧ rowRd V h e xs[i] fun j => cellAt h b (o + i * roww e + j)
theorem SlRd.ar {V : Nat → Prop} {h : Heap} {e : Row} {xs : List (rden e)} {y : Value} (H : SlRd V h (roww e) (rowRd V h e) xs y) : ArRd V h e xs y := by
  obtain ⟨a, cap, h1, h2, h3⟩ := H
  exact ⟨a, cap, h1, h2, fun i hi => by obtain ⟨b, o, g1, _, g2⟩ := h3 i hi; exact ⟨b, o, g1, g2⟩⟩
theorem ArRd.sub {V : Nat → Prop} {h : Heap} {e : Row} {xs : List (rden e)} {a a' : Option Addr} {len cap lo hi : Nat}
    (H : ArRd V h e xs (.slice a len cap)) (h1 : lo ≤ hi) (h2 : hi ≤ len) (h3 : len ≤ cap) (h4 : lo < cap → a' = a.map (·.add (lo * roww e))) :
    ArRd V h e ((xs.take hi).drop lo) (.slice a' (hi - lo) (cap - lo)) := by
  obtain ⟨b, cap', hv, hc, he⟩ := H
  cases hv
  have hlen : ((xs.take hi).drop lo).length = hi - lo := by simp; omega
  refine ⟨a', cap - lo, by rw [hlen], by omega, fun i hi' => ?_⟩
  rw [hlen] at hi'
  obtain ⟨k, o, ha, hx⟩ := he (lo + i) (by omega)
  refine ⟨k, o + lo * roww e, ?_, ?_⟩
  · rw [h4 (by omega), ha]; simp [addr_add]
  · have : ((xs.take hi).drop lo)[i] = xs[lo + i] := by simp
    rw [this]
    have : (fun j => cellAt h k (o + lo * roww e + i * roww e + j)) = fun j => cellAt h k (o + (lo + i) * roww e + j) := by
      funext j; congr 1; rw [Nat.add_mul]; omega
    rw [this]; exact hx

theorem exp_ok (t : LTy) (y : t.den) : (t.exp y).all Lf.ok = true := by
  cases t <;> simp [LTy.exp, Lf.ok]
theorem rexp_ok : (r : Row) → (y : rden r) → (rexp r y).all Lf.ok = true
  | [], _ => rfl
  | [t], y => by simp only [rexp]; exact exp_ok t y
  | t :: d :: r, y => by simp only [rexp, List.all_append, exp_ok, rexp_ok (d :: r) y.2, Bool.and_self]

/-- elements laid in a row -/
def ElRd (V : Nat → Prop) (h : Heap) (e : Row) (xs : List (rden e)) (c : Nat → Option Value) : Prop :=
  ∀ i (hi : i < xs.length), rowRd V h e xs[i] fun j => c (i * roww e + j)
theorem el_cells {V : Nat → Prop} {h : Heap} {e : Row} {xs : List (rden e)} {c : Nat → Option Value} (H : ElRd V h e xs c) :
    ∃ cs : List Value, cs.length = xs.length * roww e ∧ (∀ z ∈ cs, z.oneCell' = true) ∧ (∀ j, j < xs.length * roww e → c j = cs[j]?) ∧ ElRd V h e xs fun j => cs[j]? := by
  have key : ∀ k, k ≤ xs.length → ∃ cs : List Value, cs.length = k * roww e ∧ (∀ z ∈ cs, z.oneCell' = true) ∧ ∀ j, j < k * roww e → c j = cs[j]? := by
    intro k
    induction k with
    | zero => intro _; exact ⟨[], by simp, by simp, fun j hj => by simp at hj⟩
    | succ k ih =>
      intro hk
      obtain ⟨cs, h1, h2, h3⟩ := ih (by omega)
      obtain ⟨vs, g1, g2, g3⟩ := rowRd_ls (E := { G := fun _ => undef, us := [], V, h }) e _ _ (H k (by omega))
      refine ⟨cs ++ vs, by rw [List.length_append, h1, g1, Nat.add_mul, Nat.one_mul], ?_, fun j hj => ?_⟩
      · intro z hz
        rcases List.mem_append.1 hz with hz | hz
        · exact h2 z hz
        · exact ok_all g3 (rexp_ok e _) z hz
      · rw [Nat.add_mul, Nat.one_mul] at hj
        rcases Nat.lt_or_ge j (k * roww e) with hl | hl
        · rw [h3 j hl, List.getElem?_append_left (by omega)]
        · have := g2 (j - k * roww e) (by omega)
          simp only [show k * roww e + (j - k * roww e) = j by omega] at this
          rw [this, List.getElem?_append_right (by omega), h1]
  obtain ⟨cs, h1, h2, h3⟩ := key xs.length (Nat.le_refl _)
  refine ⟨cs, h1, h2, h3, fun i hi => rowRd_cells e _ _ _ (fun j hj => ?_) (H i hi)⟩
  have : (i + 1) * roww e ≤ xs.length * roww e := Nat.mul_le_mul_right _ hi
  rw [Nat.add_mul, Nat.one_mul] at this
  exact (h3 _ (by omega)).symm
theorem el_app {V : Nat → Prop} {h : Heap} {e : Row} {xs ys : List (rden e)} {c d : List Value} (H : ElRd V h e xs fun j => c[j]?) (H' : ElRd V h e ys fun j => d[j]?) (hc : c.length = xs.length * roww e) :
    ElRd V h e (xs ++ ys) fun j => (c ++ d)[j]? := by
  intro i hi
  rcases Nat.lt_or_ge i xs.length with hl | hl
  · rw [List.getElem_append_left hl]
    refine rowRd_cells e _ _ _ (fun j hj => ?_) (H i hl)
    have : (i + 1) * roww e ≤ xs.length * roww e := Nat.mul_le_mul_right _ hl
    rw [Nat.add_mul, Nat.one_mul] at this
    show (c ++ d)[_]? = c[_]?
    rw [List.getElem?_append_left (by omega)]
  · rw [List.getElem_append_right hl]
    have hi' : i - xs.length < ys.length := by simp at hi; omega
    refine rowRd_cells e _ _ _ (fun j hj => ?_) (H' _ hi')
    have : i * roww e = xs.length * roww e + (i - xs.length) * roww e := by rw [← Nat.add_mul]; congr 1; omega
    show (c ++ d)[_]? = d[_]?
    rw [List.getElem?_append_right (by omega)]; congr 1; omega
theorem el_mono {V V' : Nat → Prop} {h h' : Heap} (s : Sees V h V' h') {e : Row} {xs : List (rden e)} {c : Nat → Option Value} (H : ElRd V h e xs c) : ElRd V' h' e xs c :=
  fun i hi => rowRd_mono s e _ _ (H i hi)
theorem el_cells' {V : Nat → Prop} {h : Heap} {e : Row} {xs : List (rden e)} {c c' : Nat → Option Value} (H : ElRd V h e xs c) (hc : ∀ j, j < xs.length * roww e → c' j = c j) : ElRd V h e xs c' := by
  intro i hi
  refine rowRd_cells e _ _ _ (fun j hj => hc _ ?_) (H i hi)
  have : (i + 1) * roww e ≤ xs.length * roww e := Nat.mul_le_mul_right _ hi
  rw [Nat.add_mul, Nat.one_mul] at this
  omega

theorem ar_el {V : Nat → Prop} {h : Heap} {e : Row} {xs : List (rden e)} {a : Option Addr} {len cap : Nat} (H : ArRd V h e xs (.slice a len cap)) :
    len = xs.length ∧ len ≤ cap ∧ (xs = [] ∨ ∃ b o, a = some ⟨b, o, none⟩ ∧ ElRd V h e xs fun j => cellAt h b (o + j)) := by
  obtain ⟨a', cap', hv, hc, he⟩ := H
  cases hv
  refine ⟨rfl, hc, ?_⟩
  cases xs with
  | nil => exact .inl rfl
  | cons y r =>
    obtain ⟨b, o, ha, _⟩ := he 0 (by simp)
    refine .inr ⟨b, o, ha, fun i hi => ?_⟩
    obtain ⟨b', o', ha', hr⟩ := he i hi
    rw [ha] at ha'; cases ha'
    simpa only [Nat.add_assoc] using hr

/-- the cells that a slice shows -/
theorem ar_first {V : Nat → Prop} {w : World} {e : Row} {xs : List (rden e)} {y : Value} (H : ArRd V w.heap e xs y) :
    ∃ cs : List Value, cs.length = xs.length * roww e ∧ (∀ z ∈ cs, z.oneCell' = true) ∧ (ElRd V w.heap e xs fun j => cs[j]?) ∧
      ∀ (P : Program) (w' : World) (n : Nat), w'.heap = w.heap → n ≤ xs.length → (Builtin.firstCells (roww e) n y).run P w' = .ok (cs.take (n * roww e)).toArray w' := by
  obtain ⟨a, cap, rfl, hc, he⟩ := H
  obtain ⟨_, _, h⟩ := ar_el ⟨a, cap, rfl, hc, he⟩
  rcases h with rfl | ⟨b, o, rfl, hel⟩
  · refine ⟨[], by simp, by simp, fun i hi => by simp at hi, fun P w' n hw hn => ?_⟩
    obtain rfl : n = 0 := by simpa using hn
    cases a with
    | none => simp [Builtin.firstCells]
    | some a => simp [Builtin.firstCells, loadCells, loadCellsFrom]
  · obtain ⟨cs, h1, h2, h3, h4⟩ := el_cells hel
    refine ⟨cs, h1, h2, h4, fun P w' n hw hn => ?_⟩
    have hle : n * roww e ≤ xs.length * roww e := Nat.mul_le_mul_right _ hn
    refine run_firstCells_some w' _ n _ _ _ _ (by simp; omega) fun j v hj => ?_
    rw [addr_add, cell_at, hw]
    rw [List.getElem?_take] at hj
    split at hj
    · rw [h3 j (by omega)]; exact hj
    · cases hj

section
variable {c : Ctx} {x : X c} {P : Program} {N : Ent} {G : Nat → Value} {O : Nat → Nat → Prop} {σ : S} {a : Act} {w : World} {u : List Upd} {l : List Loc}
variable {next : Act → World → Prop} {Q : Exit → Act → World → Prop}

theorem res_go (R : Rel N G O σ a.tmps w.heap) {deep : Bool} {lf : Lf} {k : (e : Row) → List (rden e) → RQ c} {y : Value} (hv : lf.rl (env N G O σ w.heap) y) (h : (resQ deep lf k).Go x σ u l) :
    ∃ e xs l' V, (k e xs).Go x σ u l' ∧ (deep = false → V = (env N G O σ w.heap).V) ∧ (∀ k, (env N G O σ w.heap).V k → V k) ∧ ArRd V w.heap e xs y := by
  cases lf <;> simp only [resQ, RQ.Go] at h
  case sh e xs => exact ⟨e, xs, l, _, h, fun _ => rfl, fun _ h => h, SlRd.ar (h := w.heap) (by simp only [Lf.rl] at hv; exact hv)⟩
  case nl e =>
    simp only [Lf.rl] at hv; subst hv
    exact ⟨e, [], l, _, h, fun _ => rfl, fun _ h => h, none, 0, rfl, Nat.le_refl _, fun i hi => by simp at hi⟩
  case os n =>
    obtain ⟨l', rfl, h⟩ := h
    split at h
    · rename_i e d xs hl
      obtain ⟨hd, h⟩ := h
      simp only [Lf.rl] at hv
      refine ⟨e, xs, _, fun k => (env N G O σ w.heap).V k ∨ (d = true ∧ O n k), h, fun hdeep => ?_, fun k hk => .inl hk, ?_⟩
      · subst hdeep
        have : d = false := by cases d <;> simp at hd ⊢
        subst this
        funext k; simp
      · rw [hv.2.1]
        obtain ⟨q, cap, e1, e2, e3⟩ := (R.hp n _ hl).2
        refine ⟨q, cap, e1, e2, fun i hi => ?_⟩
        rcases e3 with rfl | ⟨b, o, cc, T, rfl, f2, f3, f4⟩
        · omega
        · refine ⟨b, o, rfl, ?_⟩
          have f2 : w.heap[b]? = some (.cells cc T (0, 0)) := f2
          have : (fun j => cellAt w.heap b (o + i * roww e + j)) = fun j => cc[o + i * roww e + j]? := by
            funext j; simp only [cellAt, f2]
          rw [this]; exact f4 i hi
    · cases h
  case cut n z lo hi =>
    obtain ⟨l', rfl, h⟩ := h
    split at h
    · rename_i e d xs hl
      obtain ⟨hd, h⟩ := h
      simp only [Bool.and_eq_true] at hd
      have hz := Nat.eq_of_beq_eq_true hd.2
      subst hz
      simp only [Lf.rl] at hv
      obtain ⟨_, a1, len, cap, a', e1, rfl, h1, h2, h3, kk, h4, h5, h6⟩ := hv
      refine ⟨e, _, _, fun k => (env N G O σ w.heap).V k ∨ (d = true ∧ O n k), h, fun hdeep => ?_, fun k hk => .inl hk, ?_⟩
      · subst hdeep
        have : d = false := by cases d <;> simp at hd ⊢
        subst this
        funext k; simp
      · obtain ⟨q, cap', e1', e2, e3⟩ := (R.hp n _ hl).2
        rw [e1] at e1'; cases e1'
        refine ArRd.sub (a := a1) (len := xs.length) ⟨a1, cap, rfl, e2, fun i hi => ?_⟩ h1 h2 h3 fun hlt => by rw [h4, h6 hlt]
        rcases e3 with rfl | ⟨b, o, cc, T, rfl, f2, f3, f4⟩
        · omega
        · refine ⟨b, o, rfl, ?_⟩
          have f2 : w.heap[b]? = some (.cells cc T (0, 0)) := f2
          have : (fun j => cellAt w.heap b (o + i * roww e + j)) = fun j => cc[o + i * roww e + j]? := by
            funext j; simp only [cellAt, f2]
          rw [this]; exact f4 i hi
    · cases h

/-- a new array -/
theorem wp_newArr {us : List Upd} (R : Rel N G O (σ.upds us) a.tmps w.heap) (hus : (σ.upds us).us = σ.us) {o : Oper} {e : Row} {xs : List (rden e)} {C : Array Value} {T : TypeId} {cap : Nat} {w' : World}
    (hd : ∀ d, o.dst = some d → d < a.tmps.size) (hg : (newQ (c := c) o.dst (.arr e false xs) .os us).Go x σ u l)
    (hw : w'.heap = w.heap.push (.cells C T)) (hsm : Same w w') (hr : (execOp a.eval o).run P w = .ok (.value (.slice (some ⟨w.heap.size, 0, none⟩) xs.length cap)) w')
    (hcap : xs.length ≤ cap) (hM : cap ≤ 9223372036854775807) (hC : cap * roww e ≤ C.size) (hel : ElRd (env N G O (σ.upds us) w.heap).V w.heap e xs fun j => C[j]?) (hK : After N σ u a w next) : o.wp P a w next Q := by
  refine wp_newQ (gx := .slice (some ⟨w.heap.size, 0, none⟩) xs.length cap) R hus hd hg hw hsm hr (fun k hk => by obtain ⟨_, p, h1, h2⟩ := blkOf_sl' hk; cases h1; exact h2.symm) ?_ ?_ hK
  · intro n hn
    rcases Nat.eq_zero_or_pos cap with h0 | h0
    · exact ⟨some ⟨w.heap.size, 0, none⟩, cap, by simp, hcap, .inl h0⟩
    refine ⟨some ⟨w.heap.size, 0, none⟩, cap, by simp, hcap, .inr ⟨w.heap.size, 0, C, T, rfl, by simp, ⟨h0, hM, by omega⟩, fun i hi => ?_⟩⟩
    have := hel i hi
    simp only [Nat.zero_add]
    refine rowRd_mono ⟨fun k hk => ⟨.inl hk, fun j => ?_⟩⟩ e _ _ this
    have hk' : k < w.heap.size := hk.2.1
    simp only [cellAt, getElem?_push_old hk']
  · intro n E hG hu
    simp only [Lf.rl]; exact ⟨hu, hG.symm, _, _, _, hG⟩

/-- a block changes its name; K: what the new name owns -/
theorem Rel.rename {ts : Array Value} {h h' : Heap} (R : Rel N G O σ ts h) {n n' : Nat} {b b' : Bl} {y : Value} {K : Nat → Prop} (hl : look n σ.hp = some b) (hk : ∀ j, K j → O n j) (hn' : has n' σ.us = false) (hlow : low n' = true)
    (hy : ∀ j, blkOf y = some j → K j) (hsz : h'.size = h.size) (hsame : ∀ j, ¬ K j → h'[j]? = h[j]?) (hkp : Kp N.W N.h0 h') (hr : ∀ o, b'.rng y o → b.rng (G n) o)
    (hb : b'.rl { G := fun m => if m = n' then y else G m, us := n' :: σ.us, V := Vis N O σ.hp h, h := h' } (fun m j => if m = n' then K j else O m j) n') :
    Rel N (fun m => if m = n' then y else G m) (fun m j => if m = n' then K j else O m j) (((σ.upd (.del n)).upd (.us n')).upd (.hp n' b')) ts h' := by
  have hne : ∀ m b, look m σ.hp = some b → m ≠ n' := by
    intro m b hm he; subst he
    have := (R.hp m b hm).1; rw [hn'] at this; cases this
  have hlook : ∀ m bm, look m (((σ.upd (.del n)).upd (.us n')).upd (.hp n' b')).hp = some bm → (m = n' ∧ bm = b') ∨ (m ≠ n' ∧ m ≠ n ∧ look m σ.hp = some bm) := by
    intro m bm hm
    simp only [S.upd, look_put, look_erase] at hm
    split at hm
    · rename_i he; cases hm; exact .inl ⟨he.symm, rfl⟩
    · rename_i he
      split at hm
      · cases hm
      · rename_i he'; exact .inr ⟨fun h => he h.symm, fun h => he' h.symm, hm⟩
  have hvis : ∀ j, Vis N O σ.hp h j → Vis N (fun m j => if m = n' then K j else O m j) (((σ.upd (.del n)).upd (.us n')).upd (.hp n' b')).hp h' j := by
    intro j hj
    refine ⟨hj.1, by rw [hsz]; exact hj.2.1, fun m bm hm hO => ?_⟩
    rcases hlook m bm hm with ⟨rfl, rfl⟩ | ⟨h1, h2, h3⟩
    · simp only [if_true] at hO; exact hj.2.2 n b hl (hk j hO)
    · simp only [h1, if_false] at hO; exact hj.2.2 m bm h3 hO
  have hcell : ∀ j, Vis N O σ.hp h j → ∀ o, cellAt h' j o = cellAt h j o := by
    intro j hj o
    have : ¬ K j := fun he => hj.2.2 n b hl (hk j he)
    simp only [cellAt, hsame j this]
  refine R.step ⟨⟨fun j hj => ⟨hvis j hj, hcell j hj⟩⟩, fun m hm => ?_⟩ (fun t v hl => .inl ⟨hl, rfl, (R.tm t v hl).1⟩) ?_ ?_ ?_ ?_ hkp ?_
  · simp only [env, S.upd, has_cons] at hm ⊢
    have : m ≠ n' := fun he => by subst he; rw [hn'] at hm; cases hm
    simp [hm, this]
  · intro m bm hm
    rcases hlook m bm hm with ⟨rfl, rfl⟩ | ⟨h1, h2, h3⟩
    · refine .inr ⟨by simp [S.upd, has_cons], ?_⟩
      refine Bl.rl_mono (E := { G := fun m' => if m' = m then y else G m', us := m :: σ.us, V := Vis N O σ.hp h, h := h' }) ⟨⟨fun j hj => ⟨?_, fun _ => rfl⟩⟩, fun m hm => ⟨hm, rfl⟩⟩ (by simp [has_cons]) hb (fun _ _ => rfl) fun j hj => ⟨hj, fun _ => rfl⟩
      exact hvis j hj
    · refine .inl ⟨h3, fun j hj => ⟨by simp only [h1, if_false]; exact hj, hsame j fun he => ?_⟩⟩
      exact h2 (R.inj m n bm b j h3 hl hj (hk j he))
  · intro m bm j hm hj
    rcases hlook m bm hm with ⟨rfl, rfl⟩ | ⟨h1, h2, h3⟩
    · simp only [if_true] at hj ⊢; exact hy j hj
    · simp only [h1, if_false] at hj ⊢; exact R.own m bm j h3 hj
  · intro m m' b1 b2 j g1 g2 k1 k2
    rcases hlook m b1 g1 with ⟨rfl, rfl⟩ | ⟨h1, h2, h3⟩ <;> rcases hlook m' b2 g2 with ⟨rfl, rfl⟩ | ⟨h1', h2', h3'⟩
    · rfl
    · simp only [if_true, h1', if_false] at k1 k2
      exact absurd (R.inj m' n b2 b j h3' hl k2 (hk j k1)) h2'
    · simp only [if_true, h1, if_false] at k1 k2
      exact absurd (R.inj m n b1 b j h3 hl k1 (hk j k2)) h2
    · simp only [h1, h1', if_false] at k1 k2; exact R.inj m m' b1 b2 j h3 h3' k1 k2
  · intro m bm j hm hj
    rcases hlook m bm hm with ⟨rfl, rfl⟩ | ⟨h1, h2, h3⟩
    · simp only [if_true] at hj ⊢
      obtain ⟨g1, g2⟩ := R.wr n b j hl (hk j hj)
      exact ⟨by rw [hsz]; exact g1, g2.imp id fun g => ⟨g.1, fun o ho => g.2 o (hr o ho)⟩⟩
    · simp only [h1, if_false] at hj ⊢
      obtain ⟨g1, g2⟩ := R.wr m bm j h3 hj
      exact ⟨by rw [hsz]; exact g1, g2⟩
  · intro m bm v K' hm hf
    rcases hlook m bm hm with ⟨rfl, rfl⟩ | ⟨h1, h2, h3⟩
    · rw [N.hi _ hlow] at hf; cases hf
    · simp only [h1, if_false]; exact R.fx m bm v K' h3 hf

/-- a name for what has no memory -/
theorem Rel.name0 {ts : Array Value} {h : Heap} (R : Rel N G O σ ts h) {n' : Nat} {b' : Bl} {y : Value} (hn' : has n' σ.us = false) (hlow : low n' = true) (hy : blkOf y = none)
    (hb : b'.rl { G := fun m => if m = n' then y else G m, us := n' :: σ.us, V := Vis N O σ.hp h, h } (fun m j => if m = n' then False else O m j) n') :
    Rel N (fun m => if m = n' then y else G m) (fun m j => if m = n' then False else O m j) ((σ.upd (.us n')).upd (.hp n' b')) ts h := by
  have hlook : ∀ m bm, look m ((σ.upd (.us n')).upd (.hp n' b')).hp = some bm → (m = n' ∧ bm = b') ∨ (m ≠ n' ∧ look m σ.hp = some bm) := by
    intro m bm hm
    simp only [S.upd, look_put] at hm
    split at hm
    · rename_i he; cases hm; exact .inl ⟨he.symm, rfl⟩
    · rename_i he; exact .inr ⟨fun h => he h.symm, hm⟩
  have hvis : ∀ j, Vis N O σ.hp h j → Vis N (fun m j => if m = n' then False else O m j) ((σ.upd (.us n')).upd (.hp n' b')).hp h j := by
    intro j hj
    refine ⟨hj.1, hj.2.1, fun m bm hm hO => ?_⟩
    rcases hlook m bm hm with ⟨rfl, rfl⟩ | ⟨h1, h3⟩
    · simp at hO
    · simp only [h1, if_false] at hO; exact hj.2.2 m bm h3 hO
  refine R.step ⟨⟨fun j hj => ⟨hvis j hj, fun _ => rfl⟩⟩, fun m hm => ?_⟩ (fun t v hl => .inl ⟨hl, rfl, (R.tm t v hl).1⟩) ?_ ?_ ?_ ?_ R.kp ?_
  · simp only [env, S.upd, has_cons] at hm ⊢
    have : m ≠ n' := fun he => by subst he; rw [hn'] at hm; cases hm
    simp [hm, this]
  · intro m bm hm
    rcases hlook m bm hm with ⟨rfl, rfl⟩ | ⟨h1, h3⟩
    · refine .inr ⟨by simp [S.upd, has_cons], ?_⟩
      refine Bl.rl_mono (E := { G := fun m' => if m' = m then y else G m', us := m :: σ.us, V := Vis N O σ.hp h, h }) ⟨⟨fun j hj => ⟨?_, fun _ => rfl⟩⟩, fun m hm => ⟨hm, rfl⟩⟩ (by simp [has_cons]) hb (fun _ _ => rfl) fun j hj => ⟨hj, fun _ => rfl⟩
      exact hvis j hj
    · exact .inl ⟨h3, fun j hj => ⟨by simp only [h1, if_false]; exact hj, rfl⟩⟩
  · intro m bm j hm hj
    rcases hlook m bm hm with ⟨rfl, rfl⟩ | ⟨h1, h3⟩
    · simp only [if_true] at hj; rw [hy] at hj; cases hj
    · simp only [h1, if_false] at hj ⊢; exact R.own m bm j h3 hj
  · intro m m' b1 b2 j g1 g2 k1 k2
    rcases hlook m b1 g1 with ⟨rfl, rfl⟩ | ⟨h1, h3⟩ <;> rcases hlook m' b2 g2 with ⟨rfl, rfl⟩ | ⟨h1', h3'⟩
    · rfl
    · simp at k1
    · simp at k2
    · simp only [h1, h1', if_false] at k1 k2; exact R.inj m m' b1 b2 j h3 h3' k1 k2
  · intro m bm j hm hj
    rcases hlook m bm hm with ⟨rfl, rfl⟩ | ⟨h1, h3⟩
    · simp at hj
    · simp only [h1, if_false] at hj ⊢; exact R.wr m bm j h3 hj
  · intro m bm v K' hm hf
    rcases hlook m bm hm with ⟨rfl, rfl⟩ | ⟨h1, h3⟩
    · rw [N.hi _ hlow] at hf; cases hf
    · simp only [h1, if_false]; exact R.fx m bm v K' h3 hf

/-- a state whose blocks are looked up alike -/
theorem Rel.alike {ts : Array Value} {h : Heap} (R : Rel N G O σ ts h) {hp : List (Nat × Bl)} (he : ∀ m, look m hp = look m σ.hp) : Rel N G O { σ with hp } ts h := by
  have hv : ∀ j, Vis N O hp h j ↔ Vis N O σ.hp h j := by intro j; simp only [Vis, he]
  refine R.step ⟨⟨fun j hj => ⟨(hv j).2 hj, fun _ => rfl⟩⟩, fun m hm => ⟨hm, rfl⟩⟩ (fun t v hl => .inl ⟨hl, rfl, (R.tm t v hl).1⟩) (fun m b hm => .inl ⟨by rw [← he]; exact hm, fun k hk => ⟨hk, rfl⟩⟩) ?_ ?_ ?_ R.kp ?_
  · intro m b k hm; exact R.own m b k (by rw [← he]; exact hm)
  · intro m m' b b' k hm hm'; exact R.inj m m' b b' k (by rw [← he]; exact hm) (by rw [← he]; exact hm')
  · intro m b k hm; exact R.wr m b k (by rw [← he]; exact hm)
  · intro m b v K hm; exact R.fx m b v K (by rw [← he]; exact hm)

/-- a part of a row is written -/
theorem el_seg {V : Nat → Prop} {h : Heap} {e : Row} {xs zs : List (rden e)} {C : Array Value} {cs : List Value} {o lo : Nat} (hx : ElRd V h e xs fun j => C[o + j]?) (hz : ElRd V h e zs fun j => cs[j]?)
    (hcs : cs.length = zs.length * roww e) (hlo : lo ≤ xs.length) (hfit : o + lo * roww e + cs.length ≤ C.size) :
    ElRd V h e (xs.take lo ++ zs ++ xs.drop (lo + zs.length)) fun j => ((C.toList.take (o + lo * roww e) ++ cs ++ C.toList.drop (o + lo * roww e + cs.length)).toArray)[o + j]? := by
  intro i hi
  have hl1 : (xs.take lo).length = lo := by simp; omega
  rcases Nat.lt_or_ge i lo with c1 | c1
  · have e1 : (xs.take lo ++ zs ++ xs.drop (lo + zs.length))[i] = xs[i]'(by omega) := by
      rw [List.getElem_append_left (by simp; omega), List.getElem_append_left (by omega), List.getElem_take]
    rw [e1]
    refine rowRd_cells e _ _ _ (fun j hj => ?_) (hx i (by omega))
    have : (i + 1) * roww e ≤ lo * roww e := Nat.mul_le_mul_right _ c1
    rw [Nat.add_mul, Nat.one_mul] at this
    show ((C.toList.take (o + lo * roww e) ++ cs ++ C.toList.drop (o + lo * roww e + cs.length)).toArray)[_]? = C[_]?
    rw [seg_at C _ _ hfit, if_neg (by omega)]
  · rcases Nat.lt_or_ge i (lo + zs.length) with c2 | c2
    · have e1 : (xs.take lo ++ zs ++ xs.drop (lo + zs.length))[i] = zs[i - lo]'(by omega) := by
        rw [List.getElem_append_left (by simp; omega), List.getElem_append_right (by omega)]
        congr 1; omega
      rw [e1]
      refine rowRd_cells e _ _ _ (fun j hj => ?_) (hz (i - lo) (by omega))
      have h1 : i * roww e = lo * roww e + (i - lo) * roww e := by rw [← Nat.add_mul]; congr 1; omega
      have h2 : (i - lo + 1) * roww e ≤ zs.length * roww e := Nat.mul_le_mul_right _ (by omega)
      rw [Nat.add_mul, Nat.one_mul] at h2
      show ((C.toList.take (o + lo * roww e) ++ cs ++ C.toList.drop (o + lo * roww e + cs.length)).toArray)[_]? = cs[_]?
      rw [seg_at C _ _ hfit, if_pos (by omega)]; congr 1; omega
    · have hi' : i < xs.length := by simp at hi; omega
      have e1 : (xs.take lo ++ zs ++ xs.drop (lo + zs.length))[i] = xs[i] := by
        rw [List.getElem_append_right (by simp; omega), List.getElem_drop]
        congr 1; simp; omega
      rw [e1]
      refine rowRd_cells e _ _ _ (fun j hj => ?_) (hx i hi')
      have : (lo + zs.length) * roww e ≤ i * roww e := Nat.mul_le_mul_right _ c2
      rw [Nat.add_mul] at this
      show ((C.toList.take (o + lo * roww e) ++ cs ++ C.toList.drop (o + lo * roww e + cs.length)).toArray)[_]? = C[_]?
      rw [seg_at C _ _ hfit, if_neg (by omega)]
end
end Go.Ev

namespace Go.Ev
open Go
set_option linter.unusedVariables false
set_option linter.unusedSimpArgs false

section
variable {c : Ctx} {x : X c} {P : Program} {N : Ent} {G : Nat → Value} {O : Nat → Nat → Prop} {σ : S} {a : Act} {w : World} {u : List Upd} {l : List Loc}
variable {next : Act → World → Prop} {Q : Exit → Act → World → Prop}

theorem vl_ok {lf : Lf} {k : Lf → RQ c} (h : (vlQ lf k).Go x σ u l) : lf.ok = true := by
  cases lf <;> simp only [vlQ, RQ.Go] at h <;> rfl
theorem frz_ok {lf : Lf} {k : Lf → List Upd → RQ c} (h : (frzQ lf k).Go x σ u l) : lf.ok = true := by
  cases lf <;> simp only [frzQ] at h <;> first | rfl | exact vl_ok h
theorem frzs_ok (R : Rel N G O σ a.tmps w.heap) : {ls : List Lf} → {ys : List Value} → {k : List Lf → List Upd → RQ c} → {l : List Loc} → lfsRl (env N G O σ w.heap) ls ys → (frzsQ ls k).Go x σ u l → ls.all Lf.ok = true
  | [], _, _, _, _, _ => rfl
  | lf :: r, ys, k, l, hv, h => by
    simp only [lfsRl] at hv
    obtain ⟨v, vs, rfl, hv, hr⟩ := hv
    simp only [frzsQ] at h
    have h1 := frz_ok h
    obtain ⟨lf', d, l1, g, hd, hv⟩ := frz_go R hv h
    simp only [List.all_cons, h1, Bool.true_and]
    exact frzs_ok R hr g

theorem elems_go (R : Rel N G O σ a.tmps w.heap) {t : Nat} {e : Row} (he : 1 ≤ roww e) : (ps : List (Nat × Operand)) → (i : Nat) → {k : List (rden e) → List Upd → RQ c} → {l : List Loc} → (elemsQ t e i ps k).Go x σ u l →
    ∃ (xs : List (rden e)) (d : List Upd) (l' : List Loc) (vs : List Value), (k xs d).Go x σ u l' ∧ dels d = true ∧ ps.map (fun p => (p.1, a.eval p.2)) = (vs.zipIdx i).map (fun x : Value × Nat => (x.2, x.1)) ∧ xs.length = vs.length ∧ (∀ v ∈ vs, v.cells.size = roww e) ∧
      ElRd (env N G O (σ.upds d) w.heap).V w.heap e xs fun j => (vs.flatMap fun v => v.cells.toList)[j]?
  | [], i, k, l, h => ⟨[], [], l, [], h, rfl, rfl, rfl, by simp, fun i hi => by simp at hi⟩
  | (j, o) :: r, i, k, l, h => by
    simp only [elemsQ] at h
    split at h
    · rename_i hij
      have hij := Nat.eq_of_beq_eq_true hij
      subst hij
      obtain ⟨v, l1, h, hv⟩ := opd_go R h
      have hn : ∀ vs, v ≠ .tup vs := by
        intro vs hq; subst hq
        simp only [Vl.ls, frzsQ] at h
        cases e with
        | nil => simp [roww] at he
        | cons q r => cases r <;> cases q <;> simp [rcol, LTy.col, RQ.Go] at h
      have hok : v.ls.all Lf.ok = true := by
        cases v with
        | one lf => simp only [Vl.ls] at h ⊢; exact frzs_ok R (ys := [a.eval o]) (by simp only [lfsRl]; exact ⟨_, _, rfl, by simpa only [Vl.rl] using hv, rfl⟩) h
        | agg ls => simp only [Vl.rl] at hv; obtain ⟨us, _, hv⟩ := hv; exact frzs_ok R hv h
        | tup vs => exact absurd rfl (hn vs)
      obtain ⟨hc, h1⟩ := vl_cells hv hok hn
      obtain ⟨ls, d, l2, h, hd, hls⟩ := frzs_go R hc h
      split at h
      · rename_i y hy
        obtain ⟨xs, d', l3, vs, h, hd', g1, g2, g3, g4⟩ := elems_go R he r (i + 1) h
        obtain ⟨q1, q2⟩ := rcol_rd e ls y hy hls
        have hsz : (a.eval o).cells.size = roww e := by simpa using q1
        refine ⟨y :: xs, d ++ d', l3, a.eval o :: vs, h, dels_app hd hd', ?_, by simp [g2], ?_, ?_⟩
        · simp only [List.map_cons, List.zipIdx_cons, g1]
        · intro v hv
          rcases List.mem_cons.1 hv with rfl | hv
          · exact hsz
          · exact g3 v hv
        · have m1 : ElRd (env N G O (σ.upds (d ++ d')) w.heap).V w.heap e xs fun j => (vs.flatMap fun v => v.cells.toList)[j]? := el_mono (dels_sub hd hd').see g4
          have m2 : ElRd (env N G O (σ.upds (d ++ d')) w.heap).V w.heap e [y] fun j => (a.eval o).cells.toList[j]? := by
            intro i hi
            have : i = 0 := by simpa using hi
            subst this
            simp only [List.getElem_cons_zero, Nat.zero_mul, Nat.zero_add]
            have := dels_le (N := N) (G := G) (O := O) (h := w.heap) d' hd' (σ := σ.upds d)
            rw [← upds_app] at this
            exact rowRd_mono this.see e _ _ q2
          have := el_app m2 m1 (by simp [hsz])
          simpa using this
      · cases h
    · cases h

theorem wp_buildSlice' (ty : ∀ t, TyOk P c.ti t) (R : Rel N G O σ a.tmps w.heap) {o : Oper} {t : TypeId} {n : Nat} {ps : Array (Nat × Operand)} (ho : o.op = .buildSlice t n ps)
    (hd : ∀ d, o.dst = some d → d < a.tmps.size) (hg : (opQ (c := c) o).Go x σ u l) (hK : After N σ u a w next) : o.wp P a w next Q := by
  simp only [opQ, ho] at hg
  obtain ⟨hc, hg⟩ := hg
  simp only [Bool.and_eq_true] at hc
  obtain ⟨hsl, hke, hsm, hpos⟩ := hc
  have hsm := Nat.le_of_ble_eq_true hsm
  have hpos := Nat.le_of_ble_eq_true hpos
  obtain ⟨hu, _⟩ := slice_of ty hsl
  obtain ⟨ie, z, i1, i2, i3, i4, i5⟩ := (ty _).info hke
  obtain ⟨xs, d, l', vs, ⟨hn, hg⟩, hdels, g1, g2, g3, g4⟩ := elems_go R hpos _ _ hg
  have hn := Nat.eq_of_beq_eq_true hn
  have R1 := R.dels d hdels
  have hparts : (ps.map fun (i, y) => (i, a.eval y)).toList = (vs.zipIdx 0).map (fun x : Value × Nat => (x.2, x.1)) := by rw [← g1]; simp
  have hfl : (vs.flatMap fun v => v.cells.toList).length = vs.length * roww (c.ti (c.ti t).elem).row := by
    clear g1 g2 g4 hparts
    induction vs with
    | nil => simp
    | cons v r ih =>
      simp only [List.flatMap_cons, List.length_append, List.length_cons, Nat.add_mul, Nat.one_mul]
      rw [ih fun v hv => g3 v (List.mem_cons_of_mem _ hv)]
      have := g3 v (List.mem_cons_self ..)
      simp [this]; omega
  refine wp_newArr (cap := n) (C := (vs.flatMap fun v => v.cells.toList).toArray) (T := (c.ti t).elem) (w' := w.alloc (.cells (vs.flatMap fun v => v.cells.toList).toArray (c.ti t).elem)) R1 (dels_us d hdels σ) hd hg rfl ⟨rfl, rfl⟩ ?_ (by omega) (by have := Nat.mul_le_mul_left n hpos; omega) ?_ ?_ hK
  · have hr : (Instr.buildSlice t n (ps.map fun (i, y) => (i, a.eval y))).run P w = .ok (.slice (some ⟨w.heap.size, 0, none⟩) n n) (w.alloc (.cells (vs.flatMap fun v => v.cells.toList).toArray (c.ti t).elem)) := by
      by_cases h0 : n * ie.size = 0
      · have hn0 : n = 0 := by
          rcases Nat.mul_eq_zero.1 h0 with h | h
          · exact h
          · omega
        have hvs : vs = [] := by apply List.eq_nil_of_length_eq_zero; omega
        subst hvs; subst hn0
        have hps : ps = #[] := by
          have := congrArg List.length g1
          simp only [List.length_map, List.zipIdx_nil, List.length_nil] at this
          exact Array.eq_empty_of_size_eq_zero (by simpa using this)
        subst hps
        simp [Instr.buildSlice, run_underlying hu, run_sizeOf' i1, Instr.fill, newRow, Array.range_zero']
      · refine run_buildSlice w t _ n _ _ ie z hu i1 i4 (by rw [i2]; omega) h0 ?_
        rw [hparts]
        have hp : 0 < ie.size := by omega
        exact Great.fill_whole hp vs _ (by rw [i2]; exact g3) (by simp [hn, g2])
    rw [← hn]
    simp only [execOp, ho, Sem.run_bind, hr, Result.andThen_ok, Sem.run_pure]
  · simp [hfl, ← g2, hn]
  · simpa using g4
end
end Go.Ev

namespace Go.Ev
open Go
set_option linter.unusedVariables false
set_option linter.unusedSimpArgs false

section
variable {c : Ctx} {x : X c} {P : Program} {N : Ent} {G : Nat → Value} {O : Nat → Nat → Prop} {σ : S} {a : Act} {w : World} {u : List Upd} {l : List Loc}
variable {next : Act → World → Prop} {Q : Exit → Act → World → Prop}

theorem el_replicate {V : Nat → Prop} {h : Heap} {e : Row} {z : rden e} {n : Nat} {C : Array Value} {Z : List Value} (hz : rowRd V h e z fun j => Z[j]?) (hl : Z.length = roww e)
    (hC : ∀ i j, i < n → j < roww e → C[i * roww e + j]? = Z[j]?) : ElRd V h e (List.replicate n z) fun j => C[j]? := by
  intro i hi
  have hi' : i < n := by simpa using hi
  rw [List.getElem_replicate]
  exact rowRd_cells e _ _ _ (fun j hj => hC i j hi' hj) hz

theorem zero_rd (ty : ∀ t, TyOk P c.ti t) {t : TypeId} (hk : (c.ti t).known = true) {i : TypeInfo} {z : Value} (h1 : P.info? t = some i) (h4 : i.zero = some z) {y : rden (c.ti t).row} (hy : rcol (c.ti t).row (c.ti t).zero = some y) (E : Env) :
    z.cells.toList.length = roww (c.ti t).row ∧ i.size = roww (c.ti t).row ∧ i.bytes = (c.ti t).bytes ∧ rowRd E.V E.h (c.ti t).row y fun j => z.cells.toList[j]? := by
  obtain ⟨i', z', g1, g2, g3, g4, g5⟩ := (ty t).info hk
  rw [h1] at g1; cases g1
  rw [h4] at g4; cases g4
  obtain ⟨q1, q2⟩ := rcol_rd _ _ y hy (zoks_rl E _ _ g5)
  exact ⟨q1, g2, g3, q2⟩

theorem made_at (Z : Array Value) (sz n i j : Nat) (hs : Z.size = sz) (hi : i < n) (hj : j < sz) : (madeCells Z (n * sz))[i * sz + j]? = Z.toList[j]? := by
  have h1 : (i + 1) * sz ≤ n * sz := Nat.mul_le_mul_right _ hi
  rw [Nat.add_mul, Nat.one_mul] at h1
  have h2 : i * sz + j < n * sz := by omega
  have h3 : (i * sz + j) % sz = j := by rw [Nat.mul_comm, Nat.mul_add_mod]; exact Nat.mod_eq_of_lt hj
  simp only [madeCells, Array.getElem?_map, Array.getElem?_range, h2, if_true, Option.map_some, hs, h3, Array.getElem?_toList]
  have hj' : j < Z.size := by omega
  simp [hj']

theorem wp_makeSlice' (ty : ∀ t, TyOk P c.ti t) (R : Rel N G O σ a.tmps w.heap) {o : Oper} {t : TypeId} {no mo : Operand} (ho : o.op = .makeSlice t no mo)
    (hd : ∀ d, o.dst = some d → d < a.tmps.size) (hg : (opQ (c := c) o).Go x σ u l) (hK : After N σ u a w next) : o.wp P a w next Q := by
  simp only [opQ, ho] at hg
  obtain ⟨v1, l1, hg1, h1⟩ := opd_go R hg
  clear hg
  obtain ⟨v2, l2, hg, h2⟩ := opd_go R hg1
  clear hg1
  split at hg
  · rename_i k n k' m
    obtain ⟨hc, hg⟩ := hg
    simp only [Bool.and_eq_true, decide_eq_true_eq] at hc
    obtain ⟨hsl, hke, hnm, h0, h63, hby⟩ := hc
    subst hnm
    obtain ⟨hu, _⟩ := slice_of ty hsl
    obtain ⟨ie, z, i1, i2, i3, i4, i5⟩ := (ty _).info hke
    split at hg
    · rename_i y hy
      obtain ⟨z1, z2, z3, z4⟩ := zero_rd ty hke i1 i4 hy (env N G O σ w.heap)
      have hr := run_make w t (c.ti t).elem ie z hu i1 i4 k k' n n h0 (Int.le_refl _) (by rw [z3, Int.mul_comm]; omega) h63
      refine wp_newArr (us := []) (cap := n.toNat) (C := madeCells z.cells (n.toNat * ie.size)) (T := (c.ti t).elem) (w' := w.alloc (.cells (madeCells z.cells (n.toNat * ie.size)) (c.ti t).elem)) R rfl hd hg rfl ⟨rfl, rfl⟩ ?_ (by simp) (by omega) ?_ ?_ hK
      · simp only [execOp, ho, rl_int h1, rl_int h2, Sem.run_bind, hr, Result.andThen_ok, Sem.run_pure, List.length_replicate]
      · rw [size_madeCells, z2]; exact Nat.le_refl _
      · refine el_replicate z4 z1 fun i j hi hj => ?_
        rw [z2]
        exact made_at z.cells _ _ i j (by simpa using z1) hi hj
    · cases hg
  · cases hg

/-! ### structs -/
theorem fold_seg (off : Nat) : (l : List Value) → (k : Nat) → (C : Array Value) → off + k + l.length ≤ C.size →
    (l.zipIdx k).foldl (fun cs (p : Value × Nat) => cs.setIfInBounds (off + p.2) p.1) C = (C.toList.take (off + k) ++ l ++ C.toList.drop (off + k + l.length)).toArray
  | [], k, C, h => by simp
  | v :: r, k, C, h => by
    simp only [List.zipIdx_cons, List.foldl_cons]
    have hlen : (C.setIfInBounds (off + k) v).size = C.size := by simp
    rw [fold_seg off r (k + 1) (C.setIfInBounds (off + k) v) (by rw [hlen]; simp at h; omega)]
    congr 1
    have e := list_seg_step C.toList (off + k) v r (by simp at h ⊢; omega)
    simpa [Array.toList_setIfInBounds, Nat.add_assoc] using e

def PR (E : Env) : List (Nat × List Lf) → List (Nat × Value) → Prop
  | [], [] => True
  | (i, l) :: r, (j, v) :: q => i = j ∧ (∃ vl : Vl, vl.plain = true ∧ vl.ls = l ∧ vl.rl E v) ∧ PR E r q
  | _, _ => False
theorem PR.app {E : Env} : {p q : List (Nat × List Lf)} → {p' q' : List (Nat × Value)} → PR E p p' → PR E q q' → PR E (p ++ q) (p' ++ q')
  | [], _, [], _, _, h => h
  | (i, l) :: r, _, (j, v) :: s, _, h, h' => ⟨h.1, h.2.1, PR.app h.2.2 h'⟩
  | [], _, _ :: _, _, h, _ => h.elim
  | _ :: _, _, [], _, h, _ => h.elim
theorem build_go (R : Rel N G O σ a.tmps w.heap) {tys : Nat → Nat} : (ps : List (Nat × Operand)) → (acc : List (Nat × List Lf)) → (vs : List (Nat × Value)) → {k : List (Nat × List Lf) → RQ c} → {l : List Loc} →
    PR (env N G O σ w.heap) acc.reverse vs → (buildQ tys ps acc k).Go x σ u l → ∃ q l', (k q).Go x σ u l' ∧ PR (env N G O σ w.heap) q (vs ++ ps.map fun p => (p.1, a.eval p.2))
  | [], acc, vs, k, l, hp, h => ⟨_, l, h, by simpa using hp⟩
  | (i, o) :: r, acc, vs, k, l, hp, h => by
    simp only [buildQ] at h
    obtain ⟨v, l1, h, hv⟩ := opd_go R h
    have hpl : v.plain = true := by cases v <;> first | rfl | cases h
    have h : (buildQ tys r ((i, v.ls) :: acc) k).Go x σ u l1 := by cases v <;> first | exact h | cases h
    have := build_go R r ((i, v.ls) :: acc) (vs ++ [(i, a.eval o)]) (by
      rw [List.reverse_cons]
      exact PR.app hp ⟨rfl, ⟨v, hpl, rfl, hv⟩, trivial⟩) h
    simpa using this

theorem fill_go {E : Env} {ti : Nat → TI} {fs : List (Nat × Nat)} {places : Nat → Option (Nat × Nat)} {n : Nat} (hpl : ∀ i o ft, fs[i]? = some (o, ft) → (ti ft).known = true → places i = some (o, roww (ti ft).row) ∧ o + roww (ti ft).row ≤ n) :
    (ps : List (Nat × List Lf)) → (vs : List (Nat × Value)) → (z : List Lf) → (C : Array Value) → PR E ps vs → fitL ti fs ps = true → lfsRl E z C.toList → C.size = n →
    ∃ C', Instr.fill places C vs = some C' ∧ lfsRl E (fillL (fs.map (·.1)) ps z) C'.toList
  | [], [], z, C, _, _, hz, _ => ⟨C, rfl, hz⟩
  | [], _ :: _, _, _, h, _, _, _ => h.elim
  | _ :: _, [], _, _, h, _, _, _ => h.elim
  | (i, l) :: r, (j, v) :: q, z, C, h, hf, hz, hn => by
    obtain ⟨rfl, ⟨vl, hp, rfl, hv⟩, hr⟩ := h
    simp only [fitL, Bool.and_eq_true] at hf
    obtain ⟨hf, hfr⟩ := hf
    split at hf
    · rename_i o ft hfi
      simp only [Bool.and_eq_true] at hf
      obtain ⟨hk, hlen, hok⟩ := hf
      have hlen := Nat.eq_of_beq_eq_true hlen
      obtain ⟨g1, g2⟩ := hpl i o ft hfi hk
      obtain ⟨hc, _⟩ := vl_cells hv hok (fun vs hq => by subst hq; cases hp)
      have hcl := lfs_len hc
      have hcs : v.cells.size = roww (ti ft).row := by simp at hcl; omega
      have hoff : (fs.map (·.1)).getD i 0 = o := by
        rw [List.getD_eq_getElem?_getD, List.getElem?_map, hfi]; rfl
      have hseg := fold_seg o v.cells.toList 0 C (by simp; omega)
      simp only [Instr.fill, g1, fillL, hoff]
      have hnot : ¬ (v.cells.size ≠ roww (ti ft).row || o + v.cells.size > C.size) = true := by
        simp [hcs]; omega
      simp only [hnot, if_false]
      have hfold : v.cells.zipIdx.foldl (fun cs (x : Value × Nat) => cs.setIfInBounds (o + x.2) x.1) C = (C.toList.take o ++ v.cells.toList ++ C.toList.drop (o + v.cells.toList.length)).toArray := by
        rw [← Array.foldl_toList, Array.toList_zipIdx]; simpa using hseg
      rw [hfold]
      refine fill_go hpl r q _ _ hr hfr ?_ ?_
      · have := lfs_app (lfs_app (lfs_take hz o) hc) (lfs_drop hz (o + vl.ls.length))
        rw [hcl] at this ⊢
        simpa using this
      · simp; omega
    · cases hf

theorem run_mapM_list {α β : Type} {f : α → Sem β} {g : α → β} (w : World) : (l : List α) → (∀ y ∈ l, (f y).run P w = .ok (g y) w) → (l.mapM f).run P w = .ok (l.map g) w
  | [], _ => by simp
  | y :: r, h => by
    simp [List.mapM_cons, h y (List.mem_cons_self ..), run_mapM_list w r fun z hz => h z (List.mem_cons_of_mem _ hz)]

theorem wp_build' (ty : ∀ t, TyOk P c.ti t) (R : Rel N G O σ a.tmps w.heap) {o : Oper} {t : TypeId} {ps : Array (Nat × Operand)} (ho : o.op = .build t ps)
    (hd : ∀ d, o.dst = some d → d < a.tmps.size) (hg : (opQ (c := c) o).Go x σ u l) (hK : After N σ u a w next) : o.wp P a w next Q := by
  simp only [opQ, ho] at hg
  obtain ⟨hag, hg⟩ := hg
  simp only [Bool.and_eq_true] at hag
  obtain ⟨hag, hzlen⟩ := hag
  have hzlen := Nat.eq_of_beq_eq_true hzlen
  have hkd : ∃ fs, (c.ti t).kd = .struct fs := by
    unfold TI.agg at hag; split at hag
    · rename_i fs h; exact ⟨fs, h⟩
    · cases hag
  obtain ⟨fs, hkd⟩ := hkd
  have hk : (c.ti t).known = true := by unfold TI.known; rw [hkd]
  obtain ⟨i, z, i1, i2, i3, i4, i5⟩ := (ty t).info hk
  obtain ⟨q, l', hg, hq⟩ := build_go R _ [] [] trivial hg
  obtain ⟨hfit, hg⟩ := hg
  rw [hkd] at hfit
  have hu := (ty t).und
  rw [hkd] at hu
  obtain ⟨fds, u1, u2, u3⟩ := hu
  have hoffs : (c.ti t).offs = fs.map (·.1) := by unfold TI.offs; rw [hkd]
  rw [hoffs] at hg
  have hfd : ∀ fd ∈ fds.toList, ∃ i', P.info? fd.type = some i' ∧ i'.size = roww (c.ti fd.type).row := by
    intro fd hfd
    obtain ⟨j, hj, he⟩ := List.getElem_of_mem hfd
    have hj' : j < fs.length := by simp at hj; omega
    obtain ⟨g1, g2, g3, f, g4, g5, g6⟩ := u3 j _ _ (List.getElem?_eq_getElem hj')
    have : f = fd := by
      have : fds[j]? = some fd := by rw [← he]; simp
      rw [g4] at this; exact Option.some.inj this
    subst this
    rw [g6]
    obtain ⟨i', z', q1, q2, _⟩ := (ty _).info g1
    exact ⟨i', q1, q2⟩
  let g : Field → Nat × Nat := fun fd => (fd.offset, roww (c.ti fd.type).row)
  have hmap : (fds.mapM fun f => (do pure (f.offset, ← sizeOf f.type) : Sem (Nat × Nat))).run P w = .ok (fds.map g) w := by
    rw [Array.mapM_eq_mapM_toList, Sem.run_map, run_mapM_list (g := g) w _ (fun fd hfd' => by
      obtain ⟨i', q1, q2⟩ := hfd fd hfd'
      simp [run_sizeOf' q1, q2, g])]
    simp only [Result.andThen_ok]
    congr 1
    apply Array.ext'; simp
  have hz : lfsRl (env N G O σ w.heap) (c.ti t).zero z.cells.toList := zoks_rl _ _ _ i5
  have hzl : z.cells.size = roww (c.ti t).row := by
    have := lfs_len hz
    simp at this; omega
  obtain ⟨C', hfill, hC'⟩ := fill_go (E := env N G O σ w.heap) (ti := c.ti) (fs := fs) (places := ((fds.map g)[·]?)) (n := roww (c.ti t).row) (by
    intro j of ft hj hkn
    obtain ⟨g1, g2, g3, f, g4, g5, g6⟩ := u3 j of ft hj
    refine ⟨?_, g2⟩
    simp [g4, g, g5, g6]) q _ _ z.cells hq hfit hz hzl
  refine wp_fin R (w' := w) (y := .agg C') hd hg (by simp only [Vl.rl]; exact ⟨C', rfl, hC'⟩) rfl ?_ hK
  simp only [execOp, ho, Instr.build, Sem.run_bind, run_zeroValue' i1 i4, Result.andThen_ok, run_underlying u1, hmap]
  have : (ps.map fun (i, y) => (i, a.eval y)).toList = ps.toList.map fun p => (p.1, a.eval p.2) := by simp
  rw [this]
  rw [List.nil_append] at hfill
  rw [hfill]
  rfl
end
end Go.Ev

namespace Go.Ev
open Go
set_option linter.unusedVariables false
set_option linter.unusedSimpArgs false

section
variable {c : Ctx} {x : X c} {P : Program} {N : Ent} {G : Nat → Value} {O : Nat → Nat → Prop} {σ : S} {a : Act} {w : World} {u : List Upd} {l : List Loc}
variable {next : Act → World → Prop} {Q : Exit → Act → World → Prop}

/-- memory grows -/
theorem Kp.grow {W : Nat → Nat → Prop} {h0 h h' : Heap} (K : Kp W h0 h) (hs : h.size ≤ h'.size) (ho : ∀ k, k < h.size → h'[k]? = h[k]?) : Kp W h0 h' := by
  refine ⟨Nat.le_trans K.size hs, fun k o hk => ?_⟩
  have hk' : k < h0.size := by
    rcases Nat.lt_or_ge k h0.size with h | h
    · exact h
    · simp [Array.getElem?_eq_none h] at hk
  have := K.old k o hk
  have hsz := K.size
  rw [ho k (by omega)]
  exact this
theorem grow_le {h h' : Heap} (hs : h.size ≤ h'.size) (ho : ∀ k, k < h.size → h'[k]? = h[k]?) : (env N G O σ h).Le (env N G O σ h') := by
  refine ⟨⟨fun j hj => ⟨⟨hj.1, by have := hj.2.1; omega, hj.2.2⟩, fun o => ?_⟩⟩, fun m hm => ⟨hm, rfl⟩⟩
  have : j < h.size := hj.2.1
  simp only [env, cellAt, ho j this]
theorem Rel.grow {ts : Array Value} {h h' : Heap} (R : Rel N G O σ ts h) (hs : h.size ≤ h'.size) (ho : ∀ k, k < h.size → h'[k]? = h[k]?) : Rel N G O σ ts h' := by
  refine R.step (grow_le hs ho) (fun t v hl => .inl ⟨hl, rfl, (R.tm t v hl).1⟩) (fun m b hm => .inl ⟨hm, fun k hk => ⟨hk, ho k (R.wr m b k hm hk).1⟩⟩) R.own R.inj ?_ (R.kp.grow hs ho) R.fx
  intro m b k hm hk
  obtain ⟨g1, g2⟩ := R.wr m b k hm hk
  exact ⟨by omega, g2⟩

theorem kd_int (ty : ∀ t, TyOk P c.ti t) {t : TypeId} {k : IntKind} (h : (c.ti t).kd = .int k) : P.underlying t = some (.int k) ∧ roww (c.ti t).row = 1 := by
  have := (ty t).und; rw [h] at this; exact this
theorem kd_str (ty : ∀ t, TyOk P c.ti t) {t : TypeId} (h : (c.ti t).kd = .str) : P.underlying t = some .string := by
  have := (ty t).und; rw [h] at this; exact this.1
theorem kd_slice (ty : ∀ t, TyOk P c.ti t) {t e : TypeId} (h : (c.ti t).kd = .slice e) : P.underlying t = some (.slice e) := by
  have := (ty t).und; rw [h] at this; exact this.1

theorem run_stringToBytes (w : World) (e : TypeId) (s : ByteArray) : ∃ cap w', (Conv.stringToBytes e s).run P w = .ok (.slice (some ⟨w.heap.size, 0, none⟩) s.size cap) w' ∧ s.size ≤ cap ∧ w.heap.size ≤ w'.heap.size ∧ w.heap.size < w'.heap.size ∧
    (∀ k, k < w.heap.size → w'.heap[k]? = w.heap[k]?) ∧ Same w w' ∧ ∀ j (hj : j < s.data.toList.length), cellAt w'.heap w.heap.size j = some (.int .u8 (s.data.toList[j].toNat : Int)) := by
  obtain ⟨cap, hcd⟩ : ∃ cap, cap = (Question.appendCap s.size 0 e).cut (w.tape w.drawn (.appendCap s.size 0 e)) := ⟨_, rfl⟩
  obtain ⟨C, hCd⟩ : ∃ C : Array Value, C = s.data.map (fun b => .int .u8 b.toNat) ++ Array.replicate (cap - s.size) (.int .u8 0) := ⟨_, rfl⟩
  have hcap : s.size ≤ cap := by rw [hcd]; exact Nat.le_add_right _ _
  have hfz : ((w.drew.alloc (.cells C e)).freeze { block := w.heap.size, off := C.size } 1).heap = w.heap.push (.cells C e (C.size, C.size + 1)) := by
    simp only [World.freeze, World.alloc, World.drew]
    apply Array.ext_getElem?
    intro k
    simp only [Nat.one_ne_zero, if_false, Array.getElem?_modify, Array.getElem?_push]
    by_cases h : k = w.heap.size
    · subst h; simp
    · have : ¬ w.heap.size = k := fun he => h he.symm
      simp [h, this]
  refine ⟨cap, (w.drew.alloc (.cells C e)).freeze { block := w.heap.size, off := C.size } 1, ?_, hcap, ?_, ?_, ?_, ⟨rfl, rfl⟩, ?_⟩
  · have hsh : (w.drew.alloc (.cells C e)).shape? w.heap.size = some (e, C.size) := by
      simp [World.shape?, World.alloc, World.drew, -World.drew_eq]
    simp [Conv.stringToBytes, Question.forced, newRow, markStringish]
    rw [← hcd, ← hCd, hsh]
    simp
  · rw [hfz]; simp
  · rw [hfz]; simp
  · intro k hk; rw [hfz, getElem?_push_old hk]
  · intro j hj
    rw [hfz]
    have hj' : j < s.data.size := by simpa using hj
    simp only [cellAt, Array.getElem?_push, if_true]
    rw [hCd]
    simp only [Array.getElem?_append, Array.size_map, hj', if_true, Array.getElem?_map]
    rw [Array.getElem?_eq_getElem hj']
    simp

/-- numbers in a row -/
def IntsSh (V : Nat → Prop) (h : Heap) (k : IntKind) (xs : List Int) (y : Value) : Prop :=
  ∃ a cap, y = .slice a xs.length cap ∧ xs.length ≤ cap ∧ ∀ j (hj : j < xs.length), ∃ b o, a = some ⟨b, o, none⟩ ∧ V b ∧ cellAt h b (o + j) = some (.int k xs[j])
theorem ints_rd {V : Nat → Prop} {h : Heap} {k : IntKind} {xs : List Int} {y : Value} (H : IntsSh V h k xs y) : SlRd V h (roww [.i k]) (rowRd V h [.i k]) xs y := by
  obtain ⟨a, cap, e, hc, hel⟩ := H
  refine ⟨a, cap, e, hc, fun j hj => ?_⟩
  obtain ⟨b, o, ha, hV, hr⟩ := hel j hj
  refine ⟨b, o, ha, hV, ?_⟩
  have e2 : o + j * roww [.i k] + 0 = o + j := by show o + j * 1 + 0 = o + j; omega
  show cellAt h b (o + j * roww [.i k] + 0) = some (.int k _)
  rw [e2]; exact hr
theorem bytes_rd {V : Nat → Prop} {h : Heap} {s : List UInt8} {k o cap : Nat} (hV : V k) (hc : s.length ≤ cap) (hcell : ∀ j (hj : j < s.length), cellAt h k (o + j) = some (.int .u8 (s[j].toNat : Int))) :
    IntsSh V h .u8 (bytesI s) (.slice (some ⟨k, o, none⟩) s.length cap) := by
  have hl : (bytesI s).length = s.length := by simp [bytesI]
  refine ⟨some ⟨k, o, none⟩, cap, by rw [hl], by rw [hl]; exact hc, fun i hi => ⟨k, o, rfl, hV, ?_⟩⟩
  have hi' : i < s.length := by rw [← hl]; exact hi
  have e : (bytesI s)[i] = (s[i].toNat : Int) := by simp [bytesI, byteI]
  rw [e]; exact hcell i hi'

/-- numbers in a row -/
def IntsAt (h : Heap) (k : IntKind) (xs : List Int) (y : Value) : Prop :=
  ∃ a cap, y = .slice a xs.length cap ∧ xs.length ≤ cap ∧ ∀ j (hj : j < xs.length), ∃ b o, a = some ⟨b, o, none⟩ ∧ cellAt h b (o + j) = some (.int k xs[j])
theorem ar_ints {V : Nat → Prop} {h : Heap} {k : IntKind} {xs : List Int} {y : Value} (H : ArRd V h [.i k] xs y) : IntsAt h k xs y := by
  obtain ⟨a, cap, e, hc, hel⟩ := H
  refine ⟨a, cap, e, hc, fun j hj => ?_⟩
  obtain ⟨b, o, ha, hr⟩ := hel j hj
  refine ⟨b, o, ha, ?_⟩
  have hr : cellAt h b (o + j * roww [.i k] + 0) = some (.int k xs[j]) := hr
  have e2 : o + j * roww [.i k] + 0 = o + j := by show o + j * 1 + 0 = o + j; omega
  rw [e2] at hr; exact hr

theorem ar_bytes {w : World} {xs : List Int} {y : Value} (H : IntsAt w.heap .u8 xs y) {src dst e : TypeId} (hs : P.underlying src = some (.slice e)) (he : P.underlying e = some (.int .u8)) (hd : P.underlying dst = some .string) :
    ∃ b : ByteArray, (convert src dst y).run P w = .ok (.string b) w ∧ b.data.toList = strI xs := by
  obtain ⟨a, cap, rfl, hc, hel⟩ := H
  rw [run_convert_bytes_string w src dst e _ _ cap hs he hd]
  cases a with
  | none =>
    have : xs = [] := by
      cases xs with
      | nil => rfl
      | cons y r => obtain ⟨b, o, h, _⟩ := hel 0 (by simp); cases h
    subst this
    refine ⟨.empty, by simp [Conv.bytesToString], rfl⟩
  | some ad =>
    have hl := run_loadCells_list (P := P) w ad (List.map (Value.int .u8) xs) (fun j v hj => by
      have hj' : j < xs.length := by
        rcases Nat.lt_or_ge j xs.length with h | h
        · exact h
        · rw [List.getElem?_eq_none (by simpa using h)] at hj; cases hj
      rw [List.getElem?_map, List.getElem?_eq_getElem hj'] at hj
      cases hj
      obtain ⟨b, o, ha, hr⟩ := hel j hj'
      cases ha
      rw [addr_add, cell_at]; exact hr)
    rw [List.length_map] at hl
    refine ⟨_, run_bytesToString w ad _ cap xs hl, ?_⟩
    rw [foldl_push_bytes]
    simp [strI, ByteArray.empty, ByteArray.emptyWithCapacity]
    rfl

theorem wp_convert (ty : ∀ t, TyOk P c.ti t) (R : Rel N G O σ a.tmps w.heap) {o : Oper} {s t : TypeId} {yo : Operand} (ho : o.op = .convert s t yo)
    (hd : ∀ d, o.dst = some d → d < a.tmps.size) (hg : (opQ (c := c) o).Go x σ u l) (hK : After N σ u a w next) : o.wp P a w next Q := by
  simp only [opQ, ho] at hg
  obtain ⟨v, l1, hg1, h1⟩ := opd_go R hg
  clear hg
  split at hg1
  · rename_i ks kt k' n hks hkt
    obtain ⟨u1, _⟩ := kd_int ty hks
    obtain ⟨u2, _⟩ := kd_int ty hkt
    refine wp_fin R (w' := w) (y := .int kt (kt.wrap n)) hd hg1 (by simp [Vl.rl, Lf.rl, cvtI]) rfl ?_ hK
    simp [execOp, ho, rl_int h1, convert, run_underlying u1, run_underlying u2, Conv.intToInt]
  · rename_i s' hks hkt
    have u1 := kd_str ty hks
    have u2 := kd_str ty hkt
    obtain ⟨ba, e1, e2⟩ := rl_str h1
    refine wp_fin R (w' := w) (y := .string ba) hd hg1 (by simp only [Vl.rl, Lf.rl]; exact ⟨ba, rfl, e2⟩) rfl ?_ hK
    simp [execOp, ho, e1, convert, run_underlying u1, run_underlying u2]
  · rename_i e s' hks hkt
    split at hg1
    · rename_i hke
      have u1 := kd_str ty hks
      have u2 := kd_slice ty hkt
      obtain ⟨u3, _⟩ := kd_int ty hke
      obtain ⟨ba, e1, e2⟩ := rl_str h1
      obtain ⟨cap, w', r1, r2, r3, r4, r5, r6, r7⟩ := run_stringToBytes (P := P) w e ba
      have R' := R.grow r3 r5
      obtain ⟨rfl, _⟩ := hg1
      refine wp_of_run (v := .slice (some ⟨w.heap.size, 0, none⟩) ba.size cap) (w' := w') (by simp [execOp, ho, e1, convert, run_underlying u1, run_underlying u2, run_underlying u3, r1]) (hK G O _ w' ?_ r6 (put_size _ _ _) (put_defers _ _ _))
      have hv : (Vl.one (.sh [.i .u8] (bytesI s'))).rl (env N G O σ w'.heap) (.slice (some ⟨w.heap.size, 0, none⟩) ba.size cap) := by
        simp only [Vl.rl, Lf.rl]
        have hsz : ba.size = s'.length := by rw [← e2]; simp
        rw [hsz] at r2 ⊢
        refine ints_rd (bytes_rd ⟨.inr R.kp.size, r4, fun n b hn hO => ?_⟩ r2 fun j hj => ?_)
        · have := (R.wr n b _ hn hO).1; omega
        · subst e2
          have := r7 j hj
          show cellAt w'.heap _ _ = _
          simpa using this
      cases hdst : o.dst with
      | none => simpa [S.upds, Act.put] using R'
      | some d => simpa [S.upds, put_tmps] using R'.put (hd d hdst) hv
    · cases hg1
  · rename_i e lf hks hkt
    split at hg1
    · rename_i hke
      have u1 := kd_slice ty hks
      have u2 := kd_str ty hkt
      obtain ⟨u3, _⟩ := kd_int ty hke
      simp only [Vl.rl] at h1
      obtain ⟨e', xs, l', V, hg, _, _, har⟩ := res_go R h1 hg1
      split at hg
      · rename_i ys hys
        obtain ⟨he, hys⟩ := castL_eq hys
        subst he; simp only at hys; subst hys
        obtain ⟨b, r1, r2⟩ := ar_bytes (ar_ints har) u1 u3 u2
        refine wp_fin R (w' := w) (y := .string b) hd hg (by simp only [Vl.rl, Lf.rl]; exact ⟨b, rfl, r2⟩) rfl ?_ hK
        simp only [execOp, ho, Sem.run_bind, r1, Result.andThen_ok, Sem.run_pure]
      · cases hg
    · cases hg1
  · cases hg1
end
end Go.Ev

namespace Go.Ev
open Go
set_option linter.unusedVariables false
set_option linter.unusedSimpArgs false

section
variable {c : Ctx} {x : X c} {P : Program} {N : Ent} {G : Nat → Value} {O : Nat → Nat → Prop} {σ : S} {a : Act} {w : World} {u : List Upd} {l : List Loc}
variable {next : Act → World → Prop} {Q : Exit → Act → World → Prop}

/-- what is appended: so many, their cells -/
structure New (P : Program) (w : World) (V : Nat → Prop) (e : Row) (ys : List (rden e)) (y : Value) (cs : List Value) : Prop where
  len : cs.length = ys.length * roww e
  one : ∀ z ∈ cs, z.oneCell' = true
  el : ElRd V w.heap e ys fun j => cs[j]?
  num : ∀ w' : World, w'.heap = w.heap → (Builtin.lenOf y).run P w' = .ok ys.length w'
  first : ∀ w' : World, w'.heap = w.heap → (Builtin.firstCells (roww e) ys.length y).run P w' = .ok cs.toArray w'

theorem new_ar {V : Nat → Prop} {e : Row} {ys : List (rden e)} {y : Value} (H : ArRd V w.heap e ys y) : ∃ cs, New P w V e ys y cs := by
  obtain ⟨cs, h1, h2, h3, h4⟩ := ar_first H
  refine ⟨cs, h1, h2, h3, fun w' hw => ?_, fun w' hw => ?_⟩
  · obtain ⟨a, cap, rfl, _⟩ := H; simp [Builtin.lenOf]
  · have := h4 P w' ys.length hw (Nat.le_refl _)
    rw [List.take_of_length_le (by omega)] at this; exact this
theorem new_str {V : Nat → Prop} {s : ByteArray} {t : List UInt8} (hs : s.data.toList = t) : ∃ cs, New P w V [.i .u8] (bytesI t) (.string s) cs := by
  have hl : (bytesI t).length = s.size := by simp [bytesI, ← hs]
  have hr : roww [.i .u8] = 1 := rfl
  refine ⟨(s.data.map fun b => Value.int .u8 b.toNat).toList, ?_, ?_, ?_, fun w' hw => ?_, fun w' hw => ?_⟩
  · rw [hr, Nat.mul_one]; show _ = (bytesI t).length; rw [hl]; simp
  · intro z hz
    simp only [Array.toList_map, List.mem_map] at hz
    obtain ⟨b, _, rfl⟩ := hz; rfl
  · intro i hi
    have hi' : i < (bytesI t).length := hi
    rw [hl] at hi'
    have hi2 : i < s.data.size := hi'
    show ((s.data.map fun b => Value.int .u8 (b.toNat : Int)).toList)[i * 1 + 0]? = some (.int .u8 (bytesI t)[i])
    have : (bytesI t)[i] = (s.data[i].toNat : Int) := by simp [bytesI, byteI, ← hs]
    rw [this, Nat.mul_one, Nat.add_zero]
    simp only [Array.getElem?_toList, Array.getElem?_map, Array.getElem?_eq_getElem hi2, Option.map_some]
  · show (Builtin.lenOf (.string s)).run P w' = .ok (bytesI t).length w'
    rw [hl]; simp [Builtin.lenOf]
  · show (Builtin.firstCells (roww [.i .u8]) (bytesI t).length (.string s)).run P w' = _
    rw [hl]
    simp only [Builtin.firstCells, Sem.run_pure]
    have : s.extract 0 s.size = s := by
      apply ByteArray.ext; simp
    rw [this]

/-- the room that is drawn -/
theorem run_append_new {t u e ty : TypeId} {ie : TypeInfo} {z : Value} {du : TypeDesc} (hu : P.underlying t = some (.slice e)) (hi : P.info? e = some ie) (hz : ie.zero = some z) (hdu : P.underlying u = some du) (hnz : (∃ d, du = .slice d) ∨ du = .string)
    {base : Option Addr} {sLen sCap n : Nat} {y : Value} {old new : List Value}
    (hold : ∀ w' : World, w'.heap = w.heap → (Builtin.firstCells ie.size sLen (.slice base sLen sCap)).run P w' = .ok old.toArray w')
    (hlen : ∀ w' : World, w'.heap = w.heap → (Builtin.lenOf y).run P w' = .ok n w')
    (hnew : ∀ w' : World, w'.heap = w.heap → (Builtin.firstCells ie.size n y).run P w' = .ok new.toArray w')
    (hgrow : sCap < sLen + n) (hlim : (sLen + n) * ie.bytes ≤ 140737488355328) (h63 : sLen + n ≤ 140737488355328) :
    (Builtin.append_ #[t, u] ty #[.slice base sLen sCap, y]).run P w = .ok (.slice (some ⟨w.heap.size, 0, none⟩) (sLen + n) (grownCap w (sLen + n) sCap e))
      (w.drew.alloc (.cells (old.toArray ++ new.toArray ++ Builtin.zeroCells z.cells (grownCap w (sLen + n) sCap e - (sLen + n))) e)) := by
  have hn : ¬ (sLen + n ≤ sCap) := by omega
  have h63' : ¬ (9223372036854775807 < ((sLen : Int) + (n : Int))) := by omega
  have h48' : ¬ (281474976710656 < Builtin.nextslicecap (sLen + n) sCap * ie.bytes) := by have := growslice_fits (by omega : sCap < sLen + n) hlim; omega
  have hl := hlen w rfl
  have ho := hold w.drew rfl
  have hn' := hnew w.drew rfl
  rcases hnz with ⟨d, rfl⟩ | rfl
  all_goals
    simp [Builtin.append_, run_underlying hu, run_underlying hdu, run_sizeOf' hi, run_typeInfo' hi, run_zeroValue' hi hz, hl, hn, h63', h48', Question.forced, ho, hn', newRow, grownCap]
    congr 2
    apply Array.ext'
    simp [List.append_assoc]

/-- there is room -/
theorem run_append_room {t u e ty : TypeId} {ie : TypeInfo} {du : TypeDesc} (hu : P.underlying t = some (.slice e)) (hi : P.info? e = some ie) (hdu : P.underlying u = some du) (hnz : (∃ d, du = .slice d) ∨ du = .string)
    {base : Option Addr} {sLen sCap n : Nat} {y : Value} {new : List Value} {w' : World}
    (hlen : ∀ w' : World, w'.heap = w.heap → (Builtin.lenOf y).run P w' = .ok n w')
    (hnew : ∀ w' : World, w'.heap = w.heap → (Builtin.firstCells ie.size n y).run P w' = .ok new.toArray w')
    (hroom : sLen + n ≤ sCap) (hst : match base with | none => w' = w | some b => (storeCells (b.add (sLen * ie.size)) new).run P w = .ok () w') :
    (Builtin.append_ #[t, u] ty #[.slice base sLen sCap, y]).run P w = .ok (.slice base (sLen + n) sCap) w' := by
  have hl := hlen w rfl
  have hn' := hnew w rfl
  rcases hnz with ⟨d, rfl⟩ | rfl
  all_goals
    cases base with
    | none => subst hst; simp [Builtin.append_, run_underlying hu, run_underlying hdu, run_sizeOf' hi, hl, hroom, hn']
    | some b => simp only at hst; simp [Builtin.append_, run_underlying hu, run_underlying hdu, run_sizeOf' hi, hl, hroom, hn', hst]

/-- what is owned is read -/
theorem own_go (R : Rel N G O σ a.tmps w.heap) {lf : Lf} {n : Nat} (hlf : lf = .os n ∨ ∃ z lo hi, lf = .cut n z lo hi) {k : (e : Row) → List (rden e) → RQ c} {y : Value} (hv : lf.rl (env N G O σ w.heap) y) (h : (resQ false lf k).Go x σ u l) :
    ∃ (e : Row) (xs xs0 : List (rden e)) (lo hi : Nat) (l' : List Loc) (p q : Option Addr) (cap : Nat), (k e xs).Go x σ u l' ∧ xs = (xs0.take hi).drop lo ∧ xs.length = hi - lo ∧ look n σ.hp = some (.arr e false xs0) ∧ lo ≤ hi ∧ hi ≤ xs0.length ∧
      y = .slice p (hi - lo) (cap - lo) ∧ G n = .slice q xs0.length cap ∧ xs0.length ≤ cap ∧ has n σ.us = true ∧ ∃ kk, p = q.map (·.add (kk * roww e)) ∧ kk ≤ lo ∧ (lo < cap → kk = lo) := by
  rcases hlf with rfl | ⟨z, lo, hi, rfl⟩
  · simp only [resQ] at h
    obtain ⟨l', rfl, h⟩ := h
    dsimp only at h
    split at h
    · rename_i e d xs hl
      obtain ⟨hd, h⟩ := h
      have hd : d = false := by cases d <;> simp at hd ⊢
      subst hd
      simp only [Lf.rl] at hv
      obtain ⟨hn, rfl, _⟩ := hv
      obtain ⟨q, cap, e1, e2⟩ := arr_len (R.hp n _ hl).2
      have hq : q = q.map (·.add (0 * roww e)) := by rw [Nat.zero_mul]; cases q <;> simp [Addr.add]
      exact ⟨e, xs, xs, 0, xs.length, _, q, q, cap, h, by simp, by simp, hl, Nat.zero_le _, Nat.le_refl _, e1, e1, e2, hn, 0, hq, Nat.le_refl _, fun _ => rfl⟩
    · cases h
  · simp only [resQ] at h
    obtain ⟨l', rfl, h⟩ := h
    dsimp only at h
    split at h
    · rename_i e d xs hl
      obtain ⟨hd, h⟩ := h
      simp only [Bool.and_eq_true] at hd
      obtain ⟨hd, hz⟩ := hd
      have hz := Nat.eq_of_beq_eq_true hz
      subst hz
      have hd : d = false := by cases d <;> simp at hd ⊢
      subst hd
      simp only [Lf.rl] at hv
      obtain ⟨hn, a1, len, cap, a', e1, rfl, h1, h2, h3, kk, h4, h5, h6⟩ := hv
      obtain ⟨q, cap', e2, e3⟩ := arr_len (R.hp n _ hl).2
      rw [show (env N G O σ w.heap).G n = G n from rfl] at e1 e2
      rw [e1] at e2; cases e2
      exact ⟨e, _, xs, lo, hi, _, a', a1, cap, h, rfl, by simp; omega, hl, h1, h2, rfl, e1, e3, hn, kk, h4, h5, h6⟩
    · cases h

theorem app_go (R : Rel N G O σ a.tmps w.heap) {d : Option Nat} {sz bytes : Nat} {m : Vl} {e : Row} {xs : List (rden e)} {del : List Upd} {y : Value} (hv : m.rl (env N G O σ w.heap) y) (h : (appGo (c := c) d sz bytes m e xs del).Go x σ u l) :
    ∃ (ys : List (rden e)) (l' : List Loc) (cs : List Value), sz = roww e ∧ xs.length + ys.length < limOf bytes ∧ (newQ (c := c) d (.arr e false (xs ++ ys)) .os del).Go x σ u l' ∧ New P w (env N G O σ w.heap).V e ys y cs := by
  unfold appGo at h
  obtain ⟨hsz, h⟩ := h
  have hsz := Nat.eq_of_beq_eq_true hsz
  split at h
  · rename_i s
    split at h
    · rename_i ys hys
      obtain ⟨hlim, h⟩ := h
      obtain ⟨he, hys⟩ := castL_eq hys
      subst he; simp only at hys; subst hys
      obtain ⟨ba, rfl, e2⟩ := rl_str hv
      obtain ⟨cs, hcs⟩ := new_str (P := P) (w := w) (V := (env N G O σ w.heap).V) e2
      exact ⟨_, l, cs, hsz, of_decide_eq_true hlim, h, hcs⟩
    · cases h
  · rename_i lf _
    simp only [Vl.rl] at hv
    obtain ⟨e', ys, l', V, h, hV, _, har⟩ := res_go R hv h
    split at h
    · rename_i ys' hys
      obtain ⟨hlim, h⟩ := h
      obtain ⟨he, hys⟩ := castL_eq hys
      subst he; simp only at hys; subst hys
      rw [hV rfl] at har
      obtain ⟨cs, hcs⟩ := new_ar (P := P) har
      exact ⟨_, l', cs, hsz, of_decide_eq_true hlim, h, hcs⟩
    · cases h
  · cases h

theorem grown_le {w : World} {need old : Nat} {e : TypeId} (h : need ≤ 140737488355328) : grownCap w need old e ≤ 9223372036854775807 := by
  unfold grownCap Question.cut
  simp only
  have := Nat.mod_lt (w.tape w.drawn (.appendCap need old e)) (show 0 < 2 ^ 63 - need by omega)
  omega
theorem lim_le {n bytes : Nat} (h : n < limOf bytes) : n * bytes ≤ 140737488355328 ∧ n ≤ 140737488355328 := by
  unfold limOf at h
  have h1 : n ≤ 140737488355328 / bytes := by omega
  rcases Nat.eq_zero_or_pos bytes with rfl | hb
  · simp at h
  · have := Nat.div_mul_le_self 140737488355328 bytes
    have h2 : n * bytes ≤ 140737488355328 / bytes * bytes := Nat.mul_le_mul_right _ h1
    have h3 : n * 1 ≤ n * bytes := Nat.mul_le_mul_left _ hb
    omega

theorem wp_append (ty : ∀ t, TyOk P c.ti t) (R : Rel N G O σ a.tmps w.heap) {o : Oper} {as : Array Operand} {ts : Array TypeId} (ho : o.op = .call { callee := .builtin .append, args := as, argTypes := ts })
    (hd : ∀ d, o.dst = some d → d < a.tmps.size) (hg : (opQ (c := c) o).Go x σ u l) (hK : After N σ u a w next) : o.wp P a w next Q := by
  simp only [opQ, ho] at hg
  split at hg
  · rename_i ao bo t t' has hts
    obtain ⟨v1, l1, hg1, h1⟩ := opd_go R hg
    clear hg
    obtain ⟨v2, l2, hg, h2⟩ := opd_go R hg1
    clear hg1
    have has' : as = #[ao, bo] := by cases as; simp_all
    have hts' : ts = #[t, t'] := by cases ts; simp_all
    split at hg
    · rename_i lf
      obtain ⟨hc, hg⟩ := hg
      simp only [Bool.and_eq_true] at hc
      obtain ⟨hsl, hke, hkd⟩ := hc
      obtain ⟨hu, _⟩ := slice_of ty hsl
      obtain ⟨ie, z, i1, i2, i3, i4, i5⟩ := (ty _).info hke
      have hzl : z.cells.size = roww (c.ti (c.ti t).elem).row := by
        have := lfs_len (zoks_rl (env N G O σ w.heap) _ _ i5)
        rw [(ty _).zlen hke] at this; simpa using this.symm
      have hdu : ∃ du, P.underlying t' = some du ∧ ((∃ d, du = .slice d) ∨ du = .string) := by
        have := (ty t').und
        split at hkd
        · rename_i e he; rw [he] at this; exact ⟨_, this.1, .inl ⟨_, rfl⟩⟩
        · rename_i he; rw [he] at this; exact ⟨_, this.1, .inr rfl⟩
        · cases hkd
      obtain ⟨du, hdu, hnz⟩ := hdu
      have run : ∀ {y : Value} {w' : World}, (Builtin.append_ #[t, t'] o.type #[a.eval ao, a.eval bo]).run P w = .ok y w' → (execOp a.eval o).run P w = .ok (.value y) w' := by
        intro y w' hr
        simp [execOp, ho, resolve, invoke, builtin, has', hts', hr]
      simp only [Vl.rl] at h1
      -- a new row is made
      have fresh : ∀ {us : List Upd} {e : Row} {xs ys : List (rden e)} {new old : List Value} {base : Option Addr} {sCap : Nat} {l' : List Loc}, Rel N G O (σ.upds us) a.tmps w.heap → (σ.upds us).us = σ.us → dels us = true → roww (c.ti (c.ti t).elem).row = roww e →
          xs.length + ys.length < limOf (c.ti (c.ti t).elem).bytes → (newQ (c := c) o.dst (.arr e false (xs ++ ys)) .os us).Go x σ u l' → New P w (env N G O σ w.heap).V e ys (a.eval bo) new →
          a.eval ao = .slice base xs.length sCap → (∀ w' : World, w'.heap = w.heap → (Builtin.firstCells (roww e) xs.length (.slice base xs.length sCap)).run P w' = .ok old.toArray w') →
          old.length = xs.length * roww e → (ElRd (env N G O σ w.heap).V w.heap e xs fun j => old[j]?) → sCap < xs.length + ys.length → o.wp P a w next Q := by
        intro us e xs ys new old base sCap l' R1 hus hds hsz hlim hg hnew hea hold hol hoe hgrow
        obtain ⟨q1, q2⟩ := lim_le hlim
        have hr := run_append_new (P := P) (w := w) (t := t) (u := t') (e := (c.ti t).elem) (ty := o.type) hu i1 i4 hdu hnz (base := base) (sLen := xs.length) (sCap := sCap) (n := ys.length) (y := a.eval bo) (old := old) (new := new)
          (by rw [i2, hsz]; exact hold) hnew.num (by rw [i2, hsz]; exact hnew.first) hgrow (by rw [i3]; exact q1) q2
        rw [← hea] at hr
        have hcap : xs.length + ys.length ≤ grownCap w (xs.length + ys.length) sCap (c.ti t).elem := Nat.le_add_right _ _
        refine wp_newArr (cap := grownCap w (xs.length + ys.length) sCap (c.ti t).elem) (C := old.toArray ++ new.toArray ++ Builtin.zeroCells z.cells (grownCap w (xs.length + ys.length) sCap (c.ti t).elem - (xs.length + ys.length))) (T := (c.ti t).elem)
          (w' := w.drew.alloc (.cells (old.toArray ++ new.toArray ++ Builtin.zeroCells z.cells (grownCap w (xs.length + ys.length) sCap (c.ti t).elem - (xs.length + ys.length))) (c.ti t).elem)) R1 hus hd hg rfl ⟨rfl, rfl⟩ ?_ (by rw [List.length_append]; exact hcap) (grown_le (by omega)) ?_ ?_ hK
        · rw [List.length_append]; exact run hr
        · have h1 := hnew.len
          simp only [Array.size_append, List.size_toArray, hol, h1, Builtin.zeroCells, Array.size_map, Array.size_range, hzl, hsz]
          rw [← Nat.add_mul, ← Nat.add_mul]
          exact Nat.mul_le_mul_right _ (by omega)
        · have m := el_app hoe hnew.el hol
          refine el_cells' (el_mono (dels_le us hds).see m) fun j hj => ?_
          have hj' : j < (old ++ new).length := by rw [List.length_append, hol, hnew.len, ← Nat.add_mul]; simpa using hj
          show (old.toArray ++ new.toArray ++ _)[j]? = (old ++ new)[j]?
          rw [Array.getElem?_append_left (by simpa using hj')]
          simp
      -- owned rows
      have owned : ∀ {n : Nat} {k : (e : Row) → List (rden e) → RQ c}, (lf = .os n ∨ ∃ z lo hi, lf = .cut n z lo hi) → (resQ false lf fun e xs => appGo o.dst (roww (c.ti (c.ti t).elem).row) (c.ti (c.ti t).elem).bytes v2 e xs [.del n]).Go x σ u l2 → o.wp P a w next Q := by
        intro n _ hlf hg
        obtain ⟨e, xs, xs0, lo, hi, l', p, q, cap, hg, hxs, hxl, hl, k1, k2, e1, e2, e3, hn, kk, e4, e5, e6⟩ := own_go R hlf h1 hg
        obtain ⟨ys, l'', cs, hsz, hlim, hg, hnew⟩ := app_go (P := P) R h2 hg
        rw [← hxl] at e1
        have hB := (R.hp n _ hl).2
        obtain ⟨q', cap', f1, f2, f3⟩ := hB
        rw [show (env N G O σ w.heap).G n = G n from rfl, e2] at f1; cases f1
        have har0 : ArRd (env N G O σ w.heap).V w.heap e xs0 (.slice q xs0.length cap) := by
          refine ⟨q, cap, rfl, e3, fun i hi => ?_⟩
          rcases f3 with rfl | ⟨b, o', cc, T, rfl, g2, g3, g4⟩
          · omega
          · refine ⟨b, o', rfl, ?_⟩
            have g2 : w.heap[b]? = some (.cells cc T (0, 0)) := g2
            have : (fun j => cellAt w.heap b (o' + i * roww e + j)) = fun j => cc[o' + i * roww e + j]? := by
              funext j; simp only [cellAt, g2]
            rw [this]
            exact rowRd_mono ⟨fun k hk => ⟨hk.elim id (fun h => by cases h.1), fun _ => rfl⟩⟩ e _ _ (g4 i hi)
        have har : ArRd (env N G O σ w.heap).V w.heap e xs (a.eval ao) := by
          rw [e1, hxl, hxs]
          exact har0.sub k1 k2 e3 fun hlt => by rw [e4, e6 hlt]
        rcases Nat.lt_or_ge (cap - lo) (xs.length + ys.length) with hgr | hgr
        · obtain ⟨old, o1, o2, o3, o4⟩ := ar_first har
          refine fresh (us := [.del n]) (R.del n) rfl rfl hsz hlim hg hnew e1 (fun w' hw => ?_) o1 o3 hgr
          have := o4 P w' xs.length hw (Nat.le_refl _)
          rw [List.take_of_length_le (by omega)] at this
          rw [← e1]; exact this
        · unfold newQ at hg
          split at hg
          · rename_i d hdst
            obtain ⟨l3, _, hnn, hlow, rfl, _⟩ := hg
            have hu3 : ∀ (τ : S) (n' : Nat) (b : Bl) (d : Nat) (v : Vl), τ.upds ([.del n] ++ [.us n', .hp n' b, .tm d v]) = ((((τ.upd (.del n)).upd (.us n')).upd (.hp n' b)).upd (.tm d v)) := fun _ _ _ _ _ => rfl
            have hlen : (xs ++ ys).length = xs.length + ys.length := List.length_append
            have hxe : xs.length ≤ xs0.length := by omega
            rcases f3 with rfl | ⟨b, o', C, T, rfl, g2, g3, g4⟩
            · have hys0 : ys.length = 0 := by omega
              have hcs0 : cs = [] := List.eq_nil_of_length_eq_zero (by rw [hnew.len, hys0, Nat.zero_mul])
              have hr := run_append_room (P := P) (w := w) (t := t) (u := t') (ty := o.type) hu i1 hdu hnz (base := p) (sLen := xs.length) (sCap := 0 - lo) (n := ys.length) (y := a.eval bo) (new := cs) (w' := w) hnew.num (by rw [i2, hsz]; exact hnew.first) hgr (by
                subst hcs0; cases p <;> simp [storeCells])
              rw [← e1] at hr
              refine wp_of_run (run hr) (hK (fun m => if m = nm d 0 then .slice p (xs.length + ys.length) (0 - lo) else G m) (fun m j => if m = nm d 0 then False else O m j) _ w ?_ .rfl' (put_size _ _ _) (put_defers _ _ _))
              · rw [hu3, hdst]
                refine (R.rename (K := fun _ => False) (h' := w.heap) hl (fun _ h => h.elim) hnn hlow (fun j hj => by rw [Nat.zero_sub, blkOf_sl0] at hj; cases hj) rfl (fun _ _ => rfl) R.kp (fun _ _ => trivial) ?_).put (hd d hdst) ?_
                · exact ⟨p, 0, by simp only [if_true]; rw [hlen]; congr 1; omega, by omega, .inl rfl⟩
                · simp only [Vl.rl, Lf.rl]
                  exact ⟨by simp [env, S.upd, has_cons], (if_pos rfl).symm, _, _, _, if_pos rfl⟩
            · have g2 : w.heap[b]? = some (.cells C T (0, 0)) := g2
              have hp : p = some ⟨b, o' + kk * roww e, none⟩ := by rw [e4]; simp [addr_add]
              subst hp
              have hOb := R.own n _ b hl (by rw [e2]; exact blkOf_sl g3.1)
              have gM := g3.2.1
              have g3 := g3.2.2
              have hmul : (kk + (xs.length + ys.length)) * roww e ≤ cap * roww e := Nat.mul_le_mul_right _ (by omega)
              rw [Nat.add_mul, Nat.add_mul] at hmul
              have hcl := hnew.len
              have hfit : o' + kk * roww e + xs.length * roww e + cs.length ≤ C.size := by omega
              have hst := run_storeCells_at P b (o' + kk * roww e + xs.length * roww e) T cs 0 C w g2 (by simpa using hfit) hnew.one
              have hr := run_append_room (P := P) (w := w) (t := t) (u := t') (ty := o.type) hu i1 hdu hnz (base := some ⟨b, o' + kk * roww e, none⟩) (sLen := xs.length) (sCap := cap - lo) (n := ys.length) (y := a.eval bo) (new := cs)
                (w' := w.setRow b (C.toList.take (o' + kk * roww e + xs.length * roww e) ++ cs ++ C.toList.drop (o' + kk * roww e + xs.length * roww e + cs.length)).toArray) hnew.num (by rw [i2, hsz]; exact hnew.first) hgr (by
                simp only [addr_add, i2, hsz]; simpa using hst)
              rw [← e1] at hr
              have wr := setRow_wrote w b (C.toList.take (o' + kk * roww e + xs.length * roww e) ++ cs ++ C.toList.drop (o' + kk * roww e + xs.length * roww e + cs.length)).toArray (M := fun _ => True) g2 (seg_size C _ _ hfit) (fun i hi => absurd trivial hi)
              refine wp_of_run (run hr) (hK (fun m => if m = nm d 0 then .slice (some ⟨b, o' + kk * roww e, none⟩) (xs.length + ys.length) (cap - lo) else G m) (fun m j => if m = nm d 0 then j = b else O m j) _ _ ?_ ⟨rfl, rfl⟩ (put_size _ _ _) (put_defers _ _ _))
              · rw [hu3, hdst]
                refine (R.rename (K := fun j => j = b) hl (fun j h => by subst h; exact hOb) hnn hlow (fun j hj => by obtain ⟨_, p, h1, h2⟩ := blkOf_sl' hj; cases h1; exact h2.symm) wr.size (fun j hj => wr.same j hj) (R.kp.wrote wr ((R.wr n _ b hl hOb).2.imp id fun h o _ => h.2 o trivial)) (fun _ _ => trivial) ?_).put (hd d hdst) ?_
                · rcases Nat.eq_zero_or_pos (cap - lo) with h0 | h0
                  · exact ⟨some ⟨b, o' + kk * roww e, none⟩, cap - lo, by simp only [if_true]; rw [hlen], by rw [hlen]; exact hgr, .inl h0⟩
                  refine ⟨some ⟨b, o' + kk * roww e, none⟩, cap - lo, by simp only [if_true]; rw [hlen], by rw [hlen]; exact hgr, .inr ⟨b, _, _, T, rfl, setRow_at w b _ g2, ?_, ?_⟩⟩
                  · refine ⟨h0, by omega, ?_⟩
                    rw [seg_size C _ _ hfit]
                    rcases Nat.lt_or_ge lo cap with hlt | hge
                    · rw [e6 hlt]
                      have : (lo + (cap - lo)) * roww e = cap * roww e := by congr 1; omega
                      rw [Nat.add_mul] at this; omega
                    · have : cap - lo = 0 := by omega
                      rw [this]; omega
                  · have hx : ElRd (env N G O σ w.heap).V w.heap e xs fun j => C[o' + kk * roww e + j]? := by
                      obtain ⟨_, _, h⟩ := ar_el (by rw [← e1]; exact har : ArRd (env N G O σ w.heap).V w.heap e xs (.slice (some ⟨b, o' + kk * roww e, none⟩) xs.length (cap - lo)))
                      rcases h with rfl | ⟨b2, o2, hb2, hel⟩
                      · intro i hi; simp at hi
                      · cases hb2
                        intro i hi
                        have := hel i hi
                        simp only [cellAt, g2] at this
                        exact this
                    have hseg := el_seg hx hnew.el hcl (Nat.le_refl _) hfit
                    rw [List.take_of_length_le (Nat.le_refl _), List.drop_eq_nil_of_le (by omega), List.append_nil] at hseg
                    intro i hi
                    have := hseg i hi
                    simp only [Nat.add_assoc] at this ⊢
                    refine rowRd_mono ⟨fun k hk => ⟨.inl hk, fun j => ?_⟩⟩ e _ _ this
                    have hne : k ≠ b := fun he => by subst he; exact hk.2.2 n _ hl hOb
                    have h1 := wr.same k hne
                    simp only [Nat.add_assoc] at h1
                    simp only [cellAt]; rw [h1]
                · simp only [Vl.rl, Lf.rl]
                  exact ⟨by simp [env, S.upd, has_cons], (if_pos rfl).symm, _, _, _, if_pos rfl⟩
          · cases hg
      cases lf with
      | nl e =>
        simp only [appQ] at hg
        obtain ⟨ys, l'', cs, hsz, hlim, hg, hnew⟩ := app_go (P := P) R h2 hg
        simp only [Lf.rl] at h1
        rcases Nat.eq_zero_or_pos ys.length with hz | hp
        · have hys : ys = [] := List.eq_nil_of_length_eq_zero hz
          subst hys
          unfold newQ at hg
          split at hg
          · rename_i d hdst
            obtain ⟨l3, _, hnn, hlow, rfl, _⟩ := hg
            have hr := run_append_room (P := P) (w := w) (t := t) (u := t') (ty := o.type) hu i1 hdu hnz (base := none) (sLen := 0) (sCap := 0) (n := 0) (y := a.eval bo) (new := cs) (w' := w) hnew.num (by rw [i2, hsz]; exact hnew.first) (by omega) rfl
            rw [← h1] at hr
            refine wp_of_run (run hr) (hK (fun m => if m = nm d 0 then .slice none 0 0 else G m) (fun m j => if m = nm d 0 then False else O m j) _ w ?_ .rfl' (put_size _ _ _) (put_defers _ _ _))
            · rw [hdst]
              refine Rel.put (R.name0 (n' := nm d 0) (b' := .arr e false ([] ++ [])) (y := .slice none 0 0) hnn hlow rfl ?_) (hd d hdst) ?_
              · exact ⟨none, 0, by simp only [if_true]; rfl, Nat.le_refl _, .inl rfl⟩
              · simp only [Vl.rl, Lf.rl]
                exact ⟨by simp [env, S.upd, has_cons], h1.trans (if_pos rfl).symm, _, _, _, if_pos rfl⟩
          · cases hg
        · refine fresh (us := []) (xs := []) (old := []) (base := none) (sCap := 0) R rfl rfl hsz hlim hg hnew h1 (fun w' hw => ?_) (by simp) (fun i hi => by simp at hi) (by simpa using hp)
          simp [Builtin.firstCells]
      | os n => simp only [appQ] at hg; exact owned (k := fun _ _ => .fail) (.inl rfl) hg
      | cut n z lo hi => simp only [appQ] at hg; exact owned (k := fun _ _ => .fail) (.inr ⟨z, lo, hi, rfl⟩) hg
      | _ => simp only [appQ] at hg; cases hg
    · cases hg
  · cases hg
end
end Go.Ev

namespace Go.Ev
open Go
set_option linter.unusedVariables false
set_option linter.unusedSimpArgs false

section
variable {c : Ctx} {x : X c} {P : Program} {N : Ent} {G : Nat → Value} {O : Nat → Nat → Prop} {σ : S} {a : Act} {w : World} {u : List Upd} {l : List Loc}
variable {next : Act → World → Prop} {Q : Exit → Act → World → Prop}

theorem el_take {V : Nat → Prop} {h : Heap} {e : Row} {xs : List (rden e)} {cs : List Value} (H : ElRd V h e xs fun j => cs[j]?) (n : Nat) : ElRd V h e (xs.take n) fun j => (cs.take (n * roww e))[j]? := by
  intro i hi
  have hi' : i < n ∧ i < xs.length := by simp at hi; omega
  rw [List.getElem_take]
  refine rowRd_cells e _ _ _ (fun j hj => ?_) (H i hi'.2)
  have : (i + 1) * roww e ≤ n * roww e := Nat.mul_le_mul_right _ hi'.1
  rw [Nat.add_mul, Nat.one_mul] at this
  show (cs.take (n * roww e))[_]? = cs[_]?
  rw [List.getElem?_take, if_pos (by omega)]

/-- a part of an owned array is written -/
theorem arr_write (R : Rel N G O σ a.tmps w.heap) {n : Nat} {e : Row} {xs zs : List (rden e)} {cs : List Value} {lo cap : Nat} {p q : Option Addr} (hl : look n σ.hp = some (.arr e false xs)) (hG : G n = .slice q xs.length cap)
    (hz : lo + zs.length ≤ xs.length) (hcs : cs.length = zs.length * roww e) (h1 : ∀ z ∈ cs, z.oneCell' = true) (hel : ElRd (env N G O σ w.heap).V w.heap e zs fun j => cs[j]?) (hp : lo < cap → p = q.map (·.add (lo * roww e))) :
    ∃ w' : World, Rel N G O (σ.upd (.hp n (.arr e false (xs.take lo ++ zs ++ xs.drop (lo + zs.length))))) a.tmps w'.heap ∧ Same w w' ∧ (zs = [] → w' = w) ∧ (zs ≠ [] → ∃ ad, p = some ad) ∧
      ∀ ad, p = some ad → (storeCells ad cs).run P w = .ok () w' := by
  cases hzs : zs with
  | nil =>
    subst hzs
    have hcs' : cs = [] := List.eq_nil_of_length_eq_zero (by simpa using hcs)
    subst hcs'
    refine ⟨w, ?_, .rfl', fun _ => rfl, fun h => absurd rfl h, fun ad _ => by simp [storeCells]⟩
    refine R.alike fun m => ?_
    rw [look_put]
    split
    · rename_i he; subst he; rw [hl]; simp
    · rfl
  | cons z r =>
    rw [← hzs]
    have hpos : 0 < zs.length := by rw [hzs]; simp
    obtain ⟨q', cap', f1, f2, f3⟩ := (R.hp n _ hl).2
    rw [show (env N G O σ w.heap).G n = G n from rfl, hG] at f1; cases f1
    have hlt : lo < cap := by omega
    have hp := hp hlt
    rcases f3 with rfl | ⟨b, o', C, T, rfl, g2, g3, g4⟩
    · omega
    · have g2 : w.heap[b]? = some (.cells C T (0, 0)) := g2
      simp only [Option.map_some, addr_add] at hp
      have hOb := R.own n _ b hl (by rw [hG]; exact blkOf_sl g3.1)
      have hmul : (lo + zs.length) * roww e ≤ cap * roww e := Nat.mul_le_mul_right _ (by omega)
      rw [Nat.add_mul] at hmul
      have hfit : o' + lo * roww e + cs.length ≤ C.size := by omega
      have hst := run_storeCells_at P b (o' + lo * roww e) T cs 0 C w g2 (by simpa using hfit) h1
      have wr := setRow_wrote w b (C.toList.take (o' + lo * roww e) ++ cs ++ C.toList.drop (o' + lo * roww e + cs.length)).toArray (M := (Bl.arr e false xs).rng (G n)) g2 (seg_size C _ _ hfit) (fun i hi => absurd trivial hi)
      refine ⟨w.setRow b (C.toList.take (o' + lo * roww e) ++ cs ++ C.toList.drop (o' + lo * roww e + cs.length)).toArray, ?_, ⟨rfl, rfl⟩, ?_, fun _ => ⟨_, hp⟩, fun ad had => ?_⟩
      · refine R.write hl (by rw [hG]; exact blkOf_sl g3.1) wr (fun _ _ => trivial) ?_
        have hlen : (xs.take lo ++ zs ++ xs.drop (lo + zs.length)).length = xs.length := by simp; omega
        refine ⟨some ⟨b, o', none⟩, cap, by rw [hlen]; exact hG, by rw [hlen]; exact f2, .inr ⟨b, o', _, T, rfl, setRow_at w b _ g2, by rw [seg_size C _ _ hfit]; exact g3, ?_⟩⟩
        have hx : ElRd (env N G O σ w.heap).V w.heap e xs fun j => C[o' + j]? := by
          intro i hi
          have := rowRd_mono (V' := (env N G O σ w.heap).V) (h' := w.heap) ⟨fun k hk => ⟨hk.elim id (fun h => by cases h.1), fun _ => rfl⟩⟩ e _ _ (g4 i hi)
          simpa only [Nat.add_assoc] using this
        have hseg := el_seg hx hel hcs (by omega) hfit
        intro i hi
        refine rowRd_cells e _ _ _ (fun j hj => ?_) (rowRd_mono ⟨fun k hk => ⟨.inl ((write_le (N := N) (G := G) hl hOb wr).see.see k hk).1, fun j => ((write_le (N := N) (G := G) hl hOb wr).see.see k hk).2 j⟩⟩ e _ _ (hseg i hi))
        show _ = (fun j => ((C.toList.take (o' + lo * roww e) ++ cs ++ C.toList.drop (o' + lo * roww e + cs.length)).toArray)[o' + j]?) (i * roww e + j)
        simp only [Nat.add_assoc]
      · intro h; rw [hzs] at h; cases h
      · rw [hp] at had; cases had
        simpa using hst

theorem wp_clear (ty : ∀ t, TyOk P c.ti t) (R : Rel N G O σ a.tmps w.heap) {o : Oper} {as : Array Operand} {ts : Array TypeId} (ho : o.op = .call { callee := .builtin .clear, args := as, argTypes := ts })
    (hd : ∀ d, o.dst = some d → d < a.tmps.size) (hg : (opQ (c := c) o).Go x σ u l) (hK : After N σ u a w next) : o.wp P a w next Q := by
  simp only [opQ, ho] at hg
  split at hg
  · rename_i ao t has hts
    obtain ⟨v1, l1, hg1, h1⟩ := opd_go R hg
    clear hg
    have has' : as = #[ao] := by cases as; simp_all
    have hts' : ts = #[t] := by cases ts; simp_all
    split at hg1
    · rename_i lf
      obtain ⟨hc, hg⟩ := hg1
      simp only [Bool.and_eq_true] at hc
      obtain ⟨hsl, hke⟩ := hc
      obtain ⟨hu, _⟩ := slice_of ty hsl
      obtain ⟨ie, z, i1, i2, i3, i4, i5⟩ := (ty _).info hke
      simp only [Vl.rl] at h1
      obtain ⟨n, lo, e, xs, m, l', hg, hl, hm, p, q, cap, e1, e2, e3, hn, e4, _⟩ := span_go R h1 hg
      split at hg
      · rename_i y hy
        obtain ⟨rfl, _⟩ := hg
        obtain ⟨z1, z2⟩ := rcol_rd e _ y hy (zoks_rl (env N G O σ w.heap) _ _ i5)
        have zs : z.cells.size = roww e := by simpa using z1
        have hcl : ((madeCells z.cells (m * z.cells.size)).toList).length = (List.replicate m y).length * roww e := by simp [madeCells, zs]
        have hone : ∀ v ∈ (madeCells z.cells (m * z.cells.size)).toList, v.oneCell' = true := by
          intro v hv
          obtain ⟨k, hk, hkv⟩ := List.getElem_of_mem hv
          have hk' : k < m * z.cells.size := by simpa [madeCells] using hk
          have hpos : 0 < z.cells.size := by
            rcases Nat.eq_zero_or_pos z.cells.size with h | h
            · rw [h] at hk'; simp at hk'
            · exact h
          have hmod : k % z.cells.size < z.cells.size := Nat.mod_lt _ hpos
          have hv' : v = z.cells[k % z.cells.size] := by
            rw [← hkv]; simp [madeCells, hmod]
          rw [hv']
          obtain ⟨vs, q1, q2, q3⟩ := rowRd_ls (E := env N G O σ w.heap) e y _ z2
          refine ok_all q3 (rexp_ok e y) _ ?_
          have hmr : k % z.cells.size < roww e := by omega
          have := q2 _ hmr
          rw [Array.getElem?_toList, Array.getElem?_eq_getElem hmod] at this
          exact List.mem_of_getElem? this.symm
        have hell : ElRd (env N G O σ w.heap).V w.heap e (List.replicate m y) fun j => (madeCells z.cells (m * z.cells.size)).toList[j]? := by
          have := el_replicate (V := (env N G O σ w.heap).V) (h := w.heap) (n := m) (C := madeCells z.cells (m * z.cells.size)) z2 z1 fun i j hi hj => by
            have := made_at z.cells (roww e) m i j zs hi hj
            rw [zs]; exact this
          simpa using this
        obtain ⟨w', R', hs, hnil, hne, hst⟩ := arr_write (P := P) R (zs := List.replicate m y) (cs := (madeCells z.cells (m * z.cells.size)).toList) (p := p) hl e2 (by simpa using hm) hcl hone hell e4
        · have hrun : (Builtin.clear_ #[t] o.type #[a.eval ao]).run P w = .ok (.tuple #[]) w' := by
            rw [e1]
            rcases Nat.eq_zero_or_pos m with rfl | hp
            · obtain rfl := hnil rfl
              cases p <;> simp [Builtin.clear_, run_underlying hu]
            · obtain ⟨ad, rfl⟩ := hne (by intro h; have := congrArg List.length h; simp at this; omega)
              obtain ⟨m, rfl⟩ : ∃ k, m = k + 1 := ⟨m - 1, by omega⟩
              have := hst ad rfl
              have hz : (Builtin.zeroCells z.cells (m + 1)).toList = (madeCells z.cells ((m + 1) * z.cells.size)).toList := rfl
              simp [Builtin.clear_, run_underlying hu, run_zeroValue' i1 i4, hz, this]
          refine wp_of_run (v := .tuple #[]) (w' := w') (by simp [execOp, ho, resolve, invoke, builtin, has', hts', hrun]) (hK G O _ w' ?_ hs (put_size _ _ _) (put_defers _ _ _))
          rw [upds_app]
          rw [List.length_replicate] at R'
          cases hdst : o.dst with
          | none => simpa only [S.upds, Act.put] using R'
          | some d =>
            refine R'.put (hd d hdst) ?_
            simp only [Vl.rl]; exact ⟨#[], rfl, by simp [vlsRl]⟩
      · cases hg
    · cases hg1
  · cases hg

theorem wp_copy (ty : ∀ t, TyOk P c.ti t) (R : Rel N G O σ a.tmps w.heap) {o : Oper} {as : Array Operand} {ts : Array TypeId} (ho : o.op = .call { callee := .builtin .copy, args := as, argTypes := ts })
    (hd : ∀ d, o.dst = some d → d < a.tmps.size) (hg : (opQ (c := c) o).Go x σ u l) (hK : After N σ u a w next) : o.wp P a w next Q := by
  simp only [opQ, ho] at hg
  split at hg
  · rename_i ao bo t t' has hts
    obtain ⟨v1, l1, hg1, h1⟩ := opd_go R hg
    clear hg
    obtain ⟨v2, l2, hg, h2⟩ := opd_go R hg1
    clear hg1
    have has' : as = #[ao, bo] := by cases as; simp_all
    have hts' : ts = #[t, t'] := by cases ts; simp_all
    split at hg
    · rename_i lf rf
      obtain ⟨hc, hg⟩ := hg
      simp only [Bool.and_eq_true] at hc
      obtain ⟨hsl, hke⟩ := hc
      obtain ⟨hu, _⟩ := slice_of ty hsl
      obtain ⟨ie, z, i1, i2, i3, i4, i5⟩ := (ty _).info hke
      simp only [Vl.rl] at h1 h2
      obtain ⟨n, lo, e, xs, m, l', hg, hl, hm, p, q, cap, e1, e2, e3, hn, e4, _⟩ := span_go R h1 hg
      obtain ⟨hsz, hg⟩ := hg
      have hsz := Nat.eq_of_beq_eq_true hsz
      obtain ⟨e', ys, l'', V, hg, hV, _, har⟩ := res_go R h2 hg
      split at hg
      · rename_i ys' hys
        obtain ⟨he, hys⟩ := castL_eq hys
        subst he; simp only at hys; subst hys
        rw [hV rfl] at har
        obtain ⟨cs, c1, c2, c3, c4⟩ := ar_first har
        obtain ⟨rfl, _⟩ := hg
        have hlt : (ys.take m).length = min m ys.length := by simp
        have hmul : min m ys.length * roww e' ≤ ys.length * roww e' := Nat.mul_le_mul_right _ (by omega)
        have hel := el_take c3 (min m ys.length)
        have htk : ys.take (min m ys.length) = ys.take m := by
          rcases Nat.le_total m ys.length with h | h
          · rw [Nat.min_eq_left h]
          · rw [Nat.min_eq_right h, List.take_of_length_le (Nat.le_refl _), List.take_of_length_le h]
        rw [htk] at hel
        obtain ⟨w', R', hs, hnil, hne, hst⟩ := arr_write (P := P) R (zs := ys.take m) (cs := cs.take (min m ys.length * roww e')) (p := p) hl e2 (by rw [hlt]; omega) (by rw [hlt]; simp; omega) (fun v hv => c2 v (List.mem_of_mem_take hv)) hel e4
        have hlen : (Builtin.lenOf (a.eval bo)).run P w = .ok ys.length w := by
          obtain ⟨q', cap', e, _⟩ := har; rw [e]; simp [Builtin.lenOf]
        have hfst := c4 P w (min m ys.length) rfl (by omega)
        have hrun : (Builtin.copy_ #[t, t'] o.type #[a.eval ao, a.eval bo]).run P w = .ok (goInt (min m ys.length : Nat)) w' := by
          have hmin : Nat.min ys.length m = min m ys.length := Nat.min_comm ..
          rw [e1]
          cases p with
          | none =>
            obtain rfl := hnil (by
              cases hq : ys.take m with
              | nil => rfl
              | cons y r => obtain ⟨ad, h⟩ := hne (by rw [hq]; simp); cases h)
            simp [Builtin.copy_, run_underlying hu, hlen, run_sizeOf' i1, i2, ← hsz, hmin, hfst]
          | some ad =>
            have := hst ad rfl
            simp [Builtin.copy_, run_underlying hu, hlen, run_sizeOf' i1, i2, ← hsz, hmin, hfst, this]
        refine wp_of_run (v := goInt (min m ys.length : Nat)) (w' := w') (by simp [execOp, ho, resolve, invoke, builtin, has', hts', hrun]) (hK G O _ w' ?_ hs (put_size _ _ _) (put_defers _ _ _))
        rw [upds_app]
        rw [hlt] at R'
        cases hdst : o.dst with
        | none => simpa only [S.upds, Act.put] using R'
        | some d =>
          refine R'.put (hd d hdst) ?_
          simp only [Vl.rl, Lf.rl, goInt]
      · cases hg
    · cases hg
  · cases hg
end
end Go.Ev

namespace Go.Ev
open Go
set_option linter.unusedVariables false
set_option linter.unusedSimpArgs false

section
variable {N : Ent} {G : Nat → Value} {O : Nat → Nat → Prop} {σ : S} {ts : Array Value} {h : Heap}

/-- blocks for their holder alone -/
def exs : List (Nat × Bool) → List Nat
  | [] => []
  | (n, true) :: r => n :: exs r
  | (_, false) :: r => exs r
theorem exs_app (a b : List (Nat × Bool)) : exs (a ++ b) = exs a ++ exs b := by
  induction a with
  | nil => rfl
  | cons p r ih => obtain ⟨n, x⟩ := p; cases x <;> simp [exs, ih]
theorem mem_exs {n : Nat} : {l : List (Nat × Bool)} → (n ∈ exs l ↔ (n, true) ∈ l)
  | [] => by simp [exs]
  | (m, true) :: r => by simp [exs, mem_exs (l := r)]
  | (m, false) :: r => by simp [exs, mem_exs (l := r)]
theorem fitId_no {n : Nat} {x : Bool} : {l : List (Nat × Bool)} → fitId n x l = true → ∀ y, (n, y) ∈ l → x = false ∧ y = false
  | [], _, y, hm => by simp at hm
  | (m, z) :: r, h, y, hm => by
    simp only [fitId, Bool.and_eq_true, Bool.or_eq_true, Bool.not_eq_true'] at h
    rcases List.mem_cons.1 hm with he | hm
    · cases he
      rcases h.1 with h1 | h1
      · rw [nbeq_self] at h1; cases h1
      · exact h1
    · exact fitId_no h.2 y hm
theorem fit_exs : {l : List (Nat × Bool)} → fitIds l = true → (exs l).Nodup ∧ ∀ n, n ∈ exs l → (n, false) ∉ l
  | [], _ => by simp [exs]
  | (m, x) :: r, h => by
    simp only [fitIds, Bool.and_eq_true] at h
    obtain ⟨h1, h2⟩ := fit_exs h.2
    cases x with
    | true =>
      refine ⟨?_, ?_⟩
      · simp only [exs, List.nodup_cons]
        refine ⟨fun hm => ?_, h1⟩
        have := (fitId_no h.1 true (mem_exs.1 hm)).1
        cases this
      · intro n hn hf
        simp only [exs, List.mem_cons] at hn hf
        rcases hf with hf | hf
        · cases hf
        · rcases hn with rfl | hn
          · have := (fitId_no h.1 false hf).1; cases this
          · exact h2 n hn hf
    | false =>
      refine ⟨h1, ?_⟩
      intro n hn hf
      simp only [exs, List.mem_cons] at hn hf
      rcases hf with hf | hf
      · cases hf
        have := (fitId_no h.1 true (mem_exs.1 hn)).2; cases this
      · exact h2 n hn hf

/-- what is made -/
structure Mk where
  n : Nat
  b : Bl
  v : Value
  s : Option Nat
def mkL : List RM → Nat → List Lf → List Lf → List Value → List Mk
  | m :: ms, n, l :: r, l' :: r', v :: vs => match (unleaf m n l').2 with
    | [] => mkL ms (n + 1) r r' vs
    | q :: _ => ⟨n, q.2, v, l.src⟩ :: mkL ms (n + 1) r r' vs
  | _, _, _, _, _ => []

inductive Made (G : Nat → Value) (σ : S) : Mk → Prop where
  | nil (n : Nat) (e : Row) (d : Bool) : Made G σ ⟨n, .arr e d [], .slice none 0 0, none⟩
  | arr (n m : Nat) (e : Row) (d d' : Bool) (xs : List (rden e)) (lo hi kk cap : Nat) (p q : Option Addr) (hl : look m σ.hp = some (.arr e d xs)) (hd : d = true → d' = true) (h1 : lo ≤ hi) (h2 : hi ≤ xs.length) (h3 : xs.length ≤ cap)
      (hG : G m = .slice q xs.length cap) (hp : p = q.map (·.add (kk * roww e))) (h4 : kk ≤ lo) (h5 : lo < cap → kk = lo) : Made G σ ⟨n, .arr e d' ((xs.take hi).drop lo), .slice p (hi - lo) (cap - lo), some m⟩
  | box (n m : Nat) (ro ro' : Bool) (cs cs' : List Lf) (b o off : Nat) (hl : look m σ.hp = some (.box ro' cs)) (hr : ro' = true → ro = true) (hG : G m = .pointer (some ⟨b, o, none⟩)) (hn : off + cs'.length ≤ cs.length) :
      Made G σ ⟨n, .box ro cs', .pointer (some ⟨b, o + off, none⟩), some m⟩

/-- where values come to -/
structure Good (N : Ent) (O : Nat → Nat → Prop) (σ : S) (h : Heap) (ids : List (Nat × Bool)) (E' : Env) : Prop where
  hh : E'.h = h
  V : ∀ k, Vis N O σ.hp h k → E'.V k
  sh : ∀ n, (n, false) ∈ ids → ∀ b, look n σ.hp = some b → ∀ k, O n k → E'.V k
theorem Good.sub {ids ids' : List (Nat × Bool)} {E' : Env} (g : Good N O σ h ids E') (hs : ∀ x, x ∈ ids' → x ∈ ids) : Good N O σ h ids' E' := ⟨g.hh, g.V, fun n hn => g.sh n (hs _ hn)⟩

theorem own_slice (R : Rel N G O σ ts h) {n : Nat} {e : Row} {d : Bool} {xs : List (rden e)} (hl : look n σ.hp = some (.arr e d xs)) : ∃ q cap, G n = .slice q xs.length cap ∧ xs.length ≤ cap ∧ q = q.map (·.add (0 * roww e)) := by
  obtain ⟨q, cap, e1, e2⟩ := arr_len (R.hp n _ hl).2
  exact ⟨q, cap, e1, e2, by rw [Nat.zero_mul]; cases q <;> simp [Addr.add]⟩

theorem leaf_made (R : Rel N G O σ ts h) {m : RM} {l l' : Lf} {ids : List (Nat × Bool)} {v : Value} (hv : l.rl (env N G O σ h) v) (hs : σ.leaf m l = some (l', ids)) (n : Nat) :
    (unleaf m n l' = (l', []) ∧ exs ids = [] ∧ ∀ E', Good N O σ h ids E' → l'.rl E' v) ∨
    (∃ b, unleaf m n l' = (.os n, [(n, b)]) ∧ Made G σ ⟨n, b, v, l.src⟩ ∧ exs ids = l.src.toList ∧ ∃ a len cap, v = .slice a len cap) := by
  unfold S.leaf at hs
  cases l with
  | int k i =>
    simp only [leafB, Option.some.injEq, Prod.mk.injEq] at hs; obtain ⟨rfl, rfl⟩ := hs
    exact .inl ⟨by cases m <;> rfl, rfl, fun E' _ => by simpa only [Lf.rl] using hv⟩
  | bool x =>
    simp only [leafB, Option.some.injEq, Prod.mk.injEq] at hs; obtain ⟨rfl, rfl⟩ := hs
    exact .inl ⟨by cases m <;> rfl, rfl, fun E' _ => by simpa only [Lf.rl] using hv⟩
  | str s =>
    simp only [leafB, Option.some.injEq, Prod.mk.injEq] at hs; obtain ⟨rfl, rfl⟩ := hs
    exact .inl ⟨by cases m <;> rfl, rfl, fun E' _ => by simpa only [Lf.rl] using hv⟩
  | er x =>
    simp only [leafB, Option.some.injEq, Prod.mk.injEq] at hs; obtain ⟨rfl, rfl⟩ := hs
    exact .inl ⟨by cases m <;> rfl, rfl, fun E' _ => by simpa only [Lf.rl] using hv⟩
  | sh e xs =>
    cases m <;> simp only [leafB, reduceCtorEq, Option.some.injEq, Prod.mk.injEq] at hs
    obtain ⟨rfl, rfl⟩ := hs
    refine .inl ⟨rfl, rfl, fun E' g => ?_⟩
    simp only [Lf.rl] at hv ⊢
    have s : Sees (env N G O σ h).V (env N G O σ h).h E'.V E'.h := ⟨fun k hk => ⟨g.V k hk, fun o => by rw [g.hh]; rfl⟩⟩
    exact hv.mono s fun y c => rowRd_mono s e y c
  | nl e =>
    simp only [leafB, Option.some.injEq, Prod.mk.injEq] at hs; obtain ⟨rfl, rfl⟩ := hs
    simp only [Lf.rl] at hv; subst hv
    cases m with
    | s =>
      refine .inl ⟨rfl, rfl, fun E' g => ?_⟩
      simp only [Lf.rl]
      exact ⟨none, 0, rfl, Nat.le_refl _, fun i hi => by simp at hi⟩
    | o => exact .inr ⟨_, rfl, .nil n e false, rfl, _, _, _, rfl⟩
    | d => exact .inr ⟨_, rfl, .nil n e true, rfl, _, _, _, rfl⟩
  | os n0 =>
    simp only [Lf.src, leafB] at hs
    split at hs
    · rename_i e d xs hl
      split at hs
      · rename_i hok
        cases hs
        simp only [Lf.rl] at hv
        obtain ⟨q, cap, e1, e2, e3⟩ := own_slice R hl
        have hv2 : v = .slice q xs.length cap := hv.2.1.trans e1
        cases m with
        | s =>
          refine .inl ⟨rfl, rfl, fun E' g => ?_⟩
          simp only [Lf.rl]
          have hsh := g.sh n0 (by simp [RM.ex]) _ hl
          have := arr_rd (E := env N G O σ h) (V := E'.V) (R.hp n0 _ hl).2 (fun k hk => hsh k (R.own n0 _ k hl hk)) g.V (fun _ => hsh)
          rw [g.hh, hv.2.1]; exact this
        | o =>
          have hd : d = false := by cases d <;> simp [RM.ok] at hok ⊢
          subst hd
          refine .inr ⟨_, rfl, ?_, rfl, _, _, _, hv2⟩
          have := Made.arr (G := G) (σ := σ) n n0 e false false xs 0 xs.length 0 cap q q hl (fun h => h) (Nat.zero_le _) (Nat.le_refl _) e2 e1 e3 (Nat.le_refl _) (fun _ => rfl)
          rw [List.take_length, List.drop_zero] at this
          rw [hv2]; exact this
        | d =>
          refine .inr ⟨_, rfl, ?_, rfl, _, _, _, hv2⟩
          have := Made.arr (G := G) (σ := σ) n n0 e d true xs 0 xs.length 0 cap q q hl (fun h => rfl) (Nat.zero_le _) (Nat.le_refl _) e2 e1 e3 (Nat.le_refl _) (fun _ => rfl)
          rw [List.take_length, List.drop_zero] at this
          rw [hv2]; exact this
      · cases hs
    · cases hs
  | cut n0 z lo hi =>
    simp only [Lf.src, leafB] at hs
    split at hs
    · rename_i e d xs hl
      split at hs
      · rename_i hok
        cases hs
        simp only [Bool.and_eq_true] at hok
        obtain ⟨hz, hok⟩ := hok
        have hz := Nat.eq_of_beq_eq_true hz
        subst hz
        simp only [Lf.rl] at hv
        obtain ⟨hn, a1, len, cap, a', e1, rfl, h1, h2, h3, kk, h4, h5, h6⟩ := hv
        obtain ⟨q, cap', f1, f2, _⟩ := own_slice R hl
        rw [show (env N G O σ h).G n0 = G n0 from rfl, f1] at e1
        cases e1
        cases m with
        | s =>
          refine .inl ⟨rfl, rfl, fun E' g => ?_⟩
          simp only [Lf.rl]
          have hsh := g.sh n0 (by simp [RM.ex]) _ hl
          have := arr_rd (E := env N G O σ h) (V := E'.V) (R.hp n0 _ hl).2 (fun k hk => hsh k (R.own n0 _ k hl hk)) g.V (fun _ => hsh)
          rw [show (env N G O σ h).G n0 = G n0 from rfl, f1] at this
          rw [g.hh]; exact this.sub h1 h2 h3 fun hlt => by rw [h4, h6 hlt]
        | o =>
          have hd : d = false := by cases d <;> simp [RM.ok] at hok ⊢
          subst hd
          exact .inr ⟨_, rfl, Made.arr n n0 e false false xs lo hi kk cap a' a1 hl (fun h => h) h1 h2 h3 f1 h4 h5 h6, rfl, _, _, _, rfl⟩
        | d => exact .inr ⟨_, rfl, Made.arr n n0 e d true xs lo hi kk cap a' a1 hl (fun _ => rfl) h1 h2 h3 f1 h4 h5 h6, rfl, _, _, _, rfl⟩
      · cases hs
    · cases hs
  | _ => simp only [leafB] at hs; cases hs

theorem leaves_made (R : Rel N G O σ ts h) : (ms : List RM) → (ls : List Lf) → {ls' : List Lf} → {ids : List (Nat × Bool)} → {vs : List Value} → (n : Nat) → lfsRl (env N G O σ h) ls vs → σ.leaves ms ls = some (ls', ids) →
    (unleaves ms n ls').2 = (mkL ms n ls ls' vs).map (fun k => (k.n, k.b)) ∧ (∀ k ∈ mkL ms n ls ls' vs, Made G σ k) ∧ (mkL ms n ls ls' vs).filterMap (·.s) = exs ids ∧ ls'.length = ls.length ∧
      ∀ E', Good N O σ h ids E' → (∀ k ∈ mkL ms n ls ls' vs, has k.n E'.us = true ∧ E'.G k.n = k.v) → lfsRl E' (unleaves ms n ls').1 vs
  | ms, [], ls', ids, vs, n, hv, hs => by
    have : ls' = [] ∧ ids = [] := by cases ms <;> (simp only [S.leaves, Option.some.injEq, Prod.mk.injEq] at hs; exact ⟨hs.1.symm, hs.2.symm⟩)
    obtain ⟨rfl, rfl⟩ := this
    simp only [lfsRl] at hv; subst hv
    cases ms <;> exact ⟨rfl, by simp [mkL], rfl, rfl, fun E' _ _ => by simp [unleaves, lfsRl]⟩
  | [], l :: r, ls', ids, vs, n, hv, hs => by simp [S.leaves] at hs
  | m :: ms, l :: r, ls', ids, vs, n, hv, hs => by
    simp only [lfsRl] at hv
    obtain ⟨v, vs', rfl, hv, hr⟩ := hv
    simp only [S.leaves] at hs
    split at hs
    · rename_i l' i hs1
      split at hs
      · rename_i r' j hs2
        cases hs
        obtain ⟨g1, g2, g3, g4, g5⟩ := leaves_made R ms r (n + 1) hr hs2
        rcases leaf_made R hv hs1 n with ⟨u1, u2, u3⟩ | ⟨b, u1, u2, u3, u4⟩
        · refine ⟨?_, ?_, ?_, by simp [g4], fun E' g hg => ?_⟩
          · simp only [unleaves, mkL, u1, g1, List.nil_append]
          · simp only [mkL, u1]; exact g2
          · simp only [mkL, u1]; rw [g3, exs_app, u2]; rfl
          · simp only [unleaves, u1, lfsRl]
            simp only [mkL, u1] at hg
            exact ⟨v, vs', rfl, u3 E' (g.sub fun x hx => List.mem_append_left _ hx), g5 E' (g.sub fun x hx => List.mem_append_right _ hx) hg⟩
        · refine ⟨?_, ?_, ?_, by simp [g4], fun E' g hg => ?_⟩
          · simp only [unleaves, mkL, u1, g1, List.map_cons, List.singleton_append, List.cons_append, List.nil_append]
          · simp only [mkL, u1]
            intro k hk
            rcases List.mem_cons.1 hk with rfl | hk
            · exact u2
            · exact g2 k hk
          · simp only [mkL, u1]
            rw [exs_app, u3]
            cases hl : l.src <;> simp [g3]
          · simp only [unleaves, u1, lfsRl]
            simp only [mkL, u1] at hg
            refine ⟨v, vs', rfl, ?_, g5 E' (g.sub fun x hx => List.mem_append_right _ hx) fun k hk => hg k (List.mem_cons_of_mem _ hk)⟩
            obtain ⟨q1, q2⟩ := hg _ (List.mem_cons_self ..)
            obtain ⟨a, len, cap, rfl⟩ := u4
            simp only [Lf.rl]
            exact ⟨q1, q2.symm, a, len, cap, q2⟩
      · cases hs
    · cases hs
end
end Go.Ev

namespace Go.Ev
open Go
set_option linter.unusedVariables false
set_option linter.unusedSimpArgs false

/-- what moves together -/
structure Itm where
  /-- a box: its source, its new name, may it be read alone -/
  bx : Option (Nat × Nat × Bool)
  ms : List RM
  base : Nat
  ls : List Lf
  ls' : List Lf
  ids : List (Nat × Bool)
  vs : List Value
  /-- the pointer to the box -/
  pv : Value
def Itm.out (t : Itm) : List Lf := (unleaves t.ms t.base t.ls').1
def Itm.blks (t : Itm) : List (Nat × Bl) := match t.bx with
  | none => (unleaves t.ms t.base t.ls').2
  | some q => (q.2.1, .box q.2.2 t.out) :: (unleaves t.ms t.base t.ls').2
def Itm.all (t : Itm) : List (Nat × Bool) := match t.bx with
  | none => t.ids
  | some q => (q.1, true) :: t.ids
def Itm.mkl (t : Itm) : List Mk := mkL t.ms t.base t.ls t.ls' t.vs
def Itm.mks (t : Itm) : List Mk := match t.bx with
  | none => mkL t.ms t.base t.ls t.ls' t.vs
  | some q => ⟨q.2.1, .box q.2.2 t.out, t.pv, some q.1⟩ :: mkL t.ms t.base t.ls t.ls' t.vs

structure Itm.Ok (N : Ent) (G : Nat → Value) (O : Nat → Nat → Prop) (σ : S) (h : Heap) (t : Itm) : Prop where
  leaves : σ.leaves t.ms t.ls = some (t.ls', t.ids)
  rl : lfsRl (env N G O σ h) t.ls t.vs
  bx : ∀ q, t.bx = some q → ∃ ro' cs b o off c T fr, look q.1 σ.hp = some (.box ro' cs) ∧ (ro' = true → q.2.2 = true) ∧ G q.1 = .pointer (some ⟨b, o, none⟩) ∧ t.pv = .pointer (some ⟨b, o + off, none⟩) ∧ off + t.ls.length ≤ cs.length ∧
    h[b]? = some (.cells c T fr) ∧ o + cs.length ≤ c.size ∧ (ro' = false → fr = (0, 0)) ∧ t.vs = (c.toList.drop (o + off)).take t.ls.length

def lookMk (m : Nat) : List Mk → Option Mk
  | [] => none
  | k :: r => if k.n = m then some k else lookMk m r
theorem lookMk_mem {m : Nat} {k : Mk} : {l : List Mk} → lookMk m l = some k → k ∈ l ∧ k.n = m
  | [], h => by simp [lookMk] at h
  | a :: r, h => by
    simp only [lookMk] at h
    split at h
    · rename_i he; cases h; exact ⟨List.mem_cons_self .., he⟩
    · obtain ⟨h1, h2⟩ := lookMk_mem h; exact ⟨List.mem_cons_of_mem _ h1, h2⟩
theorem has_mem {n : Nat} : {l : List Nat} → (has n l = true ↔ n ∈ l)
  | [] => by simp [has]
  | k :: r => by
    rw [has_cons, List.mem_cons, Bool.or_eq_true, has_mem (l := r), decide_eq_true_eq]
    constructor
    · rintro (h | h)
      · exact .inl h.symm
      · exact .inr h
    · rintro (h | h)
      · exact .inl h.symm
      · exact .inr h
theorem lookMk_of {k : Mk} : {l : List Mk} → dis (l.map (·.n)) = true → k ∈ l → lookMk k.n l = some k
  | [], _, h => by simp at h
  | a :: r, hd, h => by
    simp only [List.map_cons, dis, Bool.and_eq_true, Bool.not_eq_true'] at hd
    simp only [lookMk]
    rcases List.mem_cons.1 h with rfl | h
    · simp
    · split
      · rename_i he
        have : has a.n (r.map (·.n)) = true := has_mem.2 (by rw [he]; exact List.mem_map_of_mem h)
        rw [hd.1] at this; cases this
      · exact lookMk_of hd.2 h
theorem look_mk {m : Nat} : (l : List Mk) → look m (l.map fun k => (k.n, k.b)) = (lookMk m l).map (·.b)
  | [] => rfl
  | a :: r => by
    simp only [List.map_cons, look_cons, lookMk]
    split
    · rfl
    · exact look_mk r
theorem nodup_src {n : Nat} {a b : Mk} : {l : List Mk} → (l.filterMap (·.s)).Nodup → a ∈ l → b ∈ l → a.s = some n → b.s = some n → a = b
  | [], _, h, _, _, _ => by simp at h
  | c :: r, hn, ha, hb, h1, h2 => by
    rw [List.filterMap_cons] at hn
    have key : ∀ x : Mk, x ∈ r → x.s = some n → n ∈ r.filterMap (·.s) := fun x hx hs => List.mem_filterMap.2 ⟨x, hx, hs⟩
    rcases List.mem_cons.1 ha with ea | ha' <;> rcases List.mem_cons.1 hb with eb | hb'
    · rw [ea, eb]
    · rw [← ea, h1] at hn
      exact absurd (key b hb' h2) (List.nodup_cons.1 hn).1
    · rw [← eb, h2] at hn
      exact absurd (key a ha' h1) (List.nodup_cons.1 hn).1
    · cases hc : c.s with
      | none => rw [hc] at hn; exact nodup_src hn ha' hb' h1 h2
      | some m => rw [hc] at hn; exact nodup_src (List.nodup_cons.1 hn).2 ha' hb' h1 h2

section
variable {N : Ent} {G : Nat → Value} {O : Nat → Nat → Prop} {σ : S} {ts : Array Value} {h : Heap}

theorem itm_made (R : Rel N G O σ ts h) {t : Itm} (ok : t.Ok N G O σ h) :
    t.blks = t.mks.map (fun k => (k.n, k.b)) ∧ (∀ k ∈ t.mks, Made G σ k) ∧ t.mks.filterMap (·.s) = exs t.all := by
  obtain ⟨g1, g2, g3, g4, g5⟩ := leaves_made R t.ms t.ls t.base ok.rl ok.leaves
  cases hb : t.bx with
  | none => simp only [Itm.blks, Itm.mks, Itm.all, hb]; exact ⟨g1, g2, g3⟩
  | some q =>
    simp only [Itm.blks, Itm.mks, Itm.all, hb]
    obtain ⟨ro', cs, b, o, off, c, T, fr, k1, k2, k3, k4, k5, k6, k7, k8, k9⟩ := ok.bx q hb
    refine ⟨by rw [g1]; rfl, ?_, by rw [List.filterMap_cons, g3]; rfl⟩
    intro k hk
    rcases List.mem_cons.1 hk with rfl | hk
    · rw [k4]
      refine .box q.2.1 q.1 q.2.2 ro' cs t.out b o off k1 k2 k3 ?_
      -- as many leaves as before
      have hlen : ∀ (ms : List RM) (n : Nat) (l : List Lf), (unleaves ms n l).1.length = l.length := by
        intro ms
        induction ms with
        | nil => intro n l; cases l <;> rfl
        | cons m ms ih =>
          intro n l
          cases l with
          | nil => rfl
          | cons l r => simp only [unleaves, List.length_cons, ih]
      unfold Itm.out; rw [hlen, g4]; exact k5
    · exact g2 k hk

theorem its_made (R : Rel N G O σ ts h) : (its : List Itm) → (∀ t ∈ its, t.Ok N G O σ h) →
    its.flatMap Itm.blks = (its.flatMap Itm.mks).map (fun k => (k.n, k.b)) ∧ (∀ k ∈ its.flatMap Itm.mks, Made G σ k) ∧ (its.flatMap Itm.mks).filterMap (·.s) = exs (its.flatMap Itm.all)
  | [], _ => ⟨rfl, by simp, rfl⟩
  | t :: r, ok => by
    obtain ⟨g1, g2, g3⟩ := itm_made R (ok t (List.mem_cons_self ..))
    obtain ⟨f1, f2, f3⟩ := its_made R r fun t ht => ok t (List.mem_cons_of_mem _ ht)
    simp only [List.flatMap_cons]
    refine ⟨by rw [g1, f1, List.map_append], ?_, by rw [List.filterMap_append, g3, f3, exs_app]⟩
    intro k hk
    rcases List.mem_append.1 hk with hk | hk
    · exact g2 k hk
    · exact f2 k hk

/-- what names stand for behind the move -/
def mvG (its : List Itm) (m : Nat) : Value := match lookMk m (its.flatMap Itm.mks) with
  | some k => k.v
  | none => undef
def mvO (O : Nat → Nat → Prop) (its : List Itm) (m j : Nat) : Prop := match lookMk m (its.flatMap Itm.mks) with
  | some k => ∃ n, k.s = some n ∧ O n j
  | none => False

structure Moved (N : Ent) (G : Nat → Value) (O : Nat → Nat → Prop) (σ : S) (h : Heap) (its : List Itm) (us' : List Nat) (V' : Nat → Prop) : Prop where
  out : ∀ t ∈ its, (∀ k ∈ t.mkl, has k.n us' = true) → lfsRl { G := mvG its, us := us', V := V', h } t.out t.vs
  made : ∀ k ∈ its.flatMap Itm.mks, mvG its k.n = k.v ∧ (∀ j, mvO O its k.n j ↔ ∃ n, k.s = some n ∧ O n j) ∧ look k.n (its.flatMap Itm.blks) = some k.b
  bl : ∀ m b, look m (its.flatMap Itm.blks) = some b → ∃ k ∈ its.flatMap Itm.mks, k.n = m ∧ k.b = b
  blk : ∀ m b, look m (its.flatMap Itm.blks) = some b → b.rl { G := mvG its, us := us', V := V', h } (mvO O its) m
  own : ∀ m b k, look m (its.flatMap Itm.blks) = some b → blkOf (mvG its m) = some k → mvO O its m k
  inj : ∀ m m' b b' k, look m (its.flatMap Itm.blks) = some b → look m' (its.flatMap Itm.blks) = some b' → mvO O its m k → mvO O its m' k → m = m'
  src : ∀ m b k, look m (its.flatMap Itm.blks) = some b → mvO O its m k → k < h.size ∧ ∃ n bn, look n σ.hp = some bn ∧ n ∈ exs (its.flatMap Itm.all) ∧ O n k ∧ ∀ o, b.rng (mvG its m) o → bn.rng (G n) o
  bx : ∀ t ∈ its, ∀ q, t.bx = some q → look q.2.1 (its.flatMap Itm.blks) = some (.box q.2.2 t.out) ∧ mvG its q.2.1 = t.pv ∧ ∀ k, mvO O its q.2.1 k ↔ O q.1 k

theorem moved (R : Rel N G O σ ts h) {its : List Itm} (ok : ∀ t ∈ its, t.Ok N G O σ h) (hfit : fitIds (its.flatMap Itm.all) = true) (hdis : dis (nms (its.flatMap Itm.blks)) = true) {us' : List Nat} {V' : Nat → Prop}
    (hus : ∀ t ∈ its, ∀ q, t.bx = some q → ∀ k ∈ t.mkl, has k.n us' = true)
    (hV : ∀ k, k < h.size → (Vis N O σ.hp h k ∨ ∃ n x b, (n, x) ∈ its.flatMap Itm.all ∧ look n σ.hp = some b ∧ O n k) → (∀ m b, look m (its.flatMap Itm.blks) = some b → ¬ mvO O its m k) → V' k) :
    Moved N G O σ h its us' V' := by
  obtain ⟨p1, p2, p3⟩ := its_made R its ok
  obtain ⟨x1, x2⟩ := fit_exs hfit
  have hdis' : dis ((its.flatMap Itm.mks).map (·.n)) = true := by
    have : nms (its.flatMap Itm.blks) = (its.flatMap Itm.mks).map (·.n) := by rw [p1]; simp [nms]
    rw [← this]; exact hdis
  have hlook : ∀ m b, look m (its.flatMap Itm.blks) = some b → ∃ k, lookMk m (its.flatMap Itm.mks) = some k ∧ k ∈ its.flatMap Itm.mks ∧ k.n = m ∧ k.b = b := by
    intro m b hm
    rw [p1, look_mk] at hm
    obtain ⟨k, hk, rfl⟩ := Option.map_eq_some_iff.1 hm
    exact ⟨k, hk, (lookMk_mem hk).1, (lookMk_mem hk).2, rfl⟩
  have hG : ∀ k ∈ its.flatMap Itm.mks, mvG its k.n = k.v := by
    intro k hk; simp only [mvG, lookMk_of hdis' hk]
  have hO : ∀ k ∈ its.flatMap Itm.mks, ∀ j, mvO O its k.n j ↔ ∃ n, k.s = some n ∧ O n j := by
    intro k hk j; simp only [mvO, lookMk_of hdis' hk]
  have hB : ∀ k ∈ its.flatMap Itm.mks, look k.n (its.flatMap Itm.blks) = some k.b := by
    intro k hk; rw [p1, look_mk, lookMk_of hdis' hk]; rfl
  have hsrc : ∀ k ∈ its.flatMap Itm.mks, ∀ n, k.s = some n → ∃ bn, look n σ.hp = some bn ∧ ∀ o, k.b.rng k.v o → bn.rng (G n) o := by
    intro k hk n hn
    cases p2 k hk with
    | nil => cases hn
    | arr _ m e d d' xs lo hi kk cap p q hl hd h1 h2 h3 hG' hp h4 h5 => cases hn; exact ⟨_, hl, fun o _ => trivial⟩
    | box _ m ro ro' cs cs' b o off hl hr hG' hn' =>
      cases hn
      refine ⟨_, hl, fun i hi => ?_⟩
      cases hro : ro with
      | true => rw [hro] at hi; exact hi.elim
      | false =>
        rw [hro] at hi hr
        have : ro' = false := by cases ro' <;> simp at hr ⊢
        rw [this, hG']
        simp only [Bl.rng] at hi ⊢
        omega
  have good : Good N O σ h (its.flatMap Itm.all) { G := mvG its, us := us', V := V', h } := by
    refine ⟨rfl, fun k hk => hV k hk.2.1 (.inl hk) fun m b hm hO' => ?_, fun n hn b hb k hk => hV k (R.wr n b k hb hk).1 (.inr ⟨n, false, b, hn, hb, hk⟩) fun m b' hm hO' => ?_⟩
    · obtain ⟨q, hq, hq1, hq2, hq3⟩ := hlook m b hm
      subst hq2
      obtain ⟨n, hn, hO''⟩ := (hO q hq1 k).1 hO'
      obtain ⟨bn, hbn, _⟩ := hsrc q hq1 n hn
      exact hk.2.2 n bn hbn hO''
    · obtain ⟨q, hq, hq1, hq2, hq3⟩ := hlook m b' hm
      subst hq2
      obtain ⟨n', hn', hO''⟩ := (hO q hq1 k).1 hO'
      obtain ⟨bn, hbn, _⟩ := hsrc q hq1 n' hn'
      have : n' = n := R.inj n' n bn b k hbn hb hO'' hk
      subst this
      exact x2 n' (by rw [← p3]; exact List.mem_filterMap.2 ⟨q, hq1, hn'⟩) hn
  have sees : Sees (env N G O σ h).V (env N G O σ h).h V' h := ⟨fun k hk => ⟨good.V k hk, fun _ => rfl⟩⟩
  have out : ∀ t ∈ its, (∀ k ∈ t.mkl, has k.n us' = true) → lfsRl { G := mvG its, us := us', V := V', h } t.out t.vs := by
    intro t ht hnm
    obtain ⟨g1, g2, g3, g4, g5⟩ := leaves_made R t.ms t.ls t.base (ok t ht).rl (ok t ht).leaves
    refine g5 _ (good.sub fun x hx => List.mem_flatMap.2 ⟨t, ht, ?_⟩) fun k hk => ?_
    · unfold Itm.all; split
      · exact hx
      · exact List.mem_cons_of_mem _ hx
    · have hk' : k ∈ its.flatMap Itm.mks := by
        refine List.mem_flatMap.2 ⟨t, ht, ?_⟩
        unfold Itm.mks; split
        · exact hk
        · exact List.mem_cons_of_mem _ hk
      exact ⟨hnm k hk, hG k hk'⟩
  refine ⟨out, fun k hk => ⟨hG k hk, hO k hk, hB k hk⟩, fun m b hm => by obtain ⟨k, _, h1, h2, h3⟩ := hlook m b hm; exact ⟨k, h1, h2, h3⟩, ?_, ?_, ?_, ?_, ?_⟩
  · intro m b hm
    obtain ⟨k, hk, hk1, rfl, rfl⟩ := hlook m b hm
    have hGk := hG k hk1
    have hOk := hO k hk1
    obtain ⟨t, ht, hkt⟩ := List.mem_flatMap.1 hk1
    have made := p2 k hk1
    cases hb : k.b with
    | arr e d xs =>
      cases made with
      | box => cases hb
      | nil n e d => cases hb; exact ⟨none, 0, hGk, Nat.le_refl _, .inl rfl⟩
      | arr n m e d d' xs lo hi kk cap p q hl hd h1 h2 h3 hG' hp h4 h5 =>
        cases hb
        have hlen : ((xs.take hi).drop lo).length = hi - lo := by simp; omega
        obtain ⟨q', cap', e1, e2, e3⟩ := (R.hp m _ hl).2
        rw [show (env N G O σ h).G m = G m from rfl, hG'] at e1; cases e1
        refine ⟨p, cap - lo, by rw [hlen]; exact hGk, by rw [hlen]; omega, ?_⟩
        rcases e3 with rfl | ⟨b, o, cc, T, rfl, f2, f3, f4⟩
        · exact .inl (by omega)
        · rcases Nat.eq_zero_or_pos (cap - lo) with hz | hz
          · exact .inl hz
          refine .inr ⟨b, o + kk * roww e, cc, T, by rw [hp]; simp [addr_add], f2, ?_, fun i hi' => ?_⟩
          · have fM := f3.2.1
            have f3 := f3.2.2
            refine ⟨hz, by omega, ?_⟩
            rcases Nat.lt_or_ge lo cap with hlt | hge
            · rw [h5 hlt]
              have : (lo + (cap - lo)) * roww e = cap * roww e := by congr 1; omega
              rw [Nat.add_mul] at this; omega
            · have h0 : cap - lo = 0 := by omega
              have : kk * roww e ≤ cap * roww e := Nat.mul_le_mul_right _ (by omega)
              rw [h0]; omega
          · rw [hlen] at hi'
            have hx : ((xs.take hi).drop lo)[i]'(by rw [hlen]; exact hi') = xs[lo + i]'(by omega) := by simp
            rw [hx]
            have hkk := h5 (by omega)
            subst hkk
            have f4' := f4 (kk + i) (by omega)
            refine rowRd_cells e _ (fun j => cc[o + (kk + i) * roww e + j]?) _ (fun j _ => ?_) (rowRd_mono (h' := h) ⟨fun j hj => ⟨hj.imp (good.V j) fun hj => ⟨hd hj.1, (hOk j).2 ⟨m, rfl, hj.2⟩⟩, fun _ => rfl⟩⟩ e _ _ f4')
            rw [Nat.add_mul]; simp only [Nat.add_assoc]
    | box ro cs =>
      -- it is an item's box
      have hbx : ∃ q, t.bx = some q ∧ k = ⟨q.2.1, .box q.2.2 t.out, t.pv, some q.1⟩ := by
        unfold Itm.mks at hkt
        have none' : ∀ x ∈ mkL t.ms t.base t.ls t.ls' t.vs, ∀ ro cs, x.b ≠ .box ro cs := by
          have key : ∀ (ms : List RM) (n : Nat) (ls ls' : List Lf) (vs : List Value) (x : Mk), x ∈ mkL ms n ls ls' vs → ∀ ro cs, x.b ≠ .box ro cs := by
            intro ms
            induction ms with
            | nil => intro n ls ls' vs x hx; simp [mkL] at hx
            | cons m ms ih =>
              intro n ls ls' vs x hx ro cs
              cases ls with
              | nil => simp [mkL] at hx
              | cons l r => cases ls' with
                | nil => simp [mkL] at hx
                | cons l' r' => cases vs with
                  | nil => simp [mkL] at hx
                  | cons v vs' =>
                    simp only [mkL] at hx
                    split at hx
                    · exact ih _ _ _ _ x hx ro cs
                    · rename_i q _ hq
                      rcases List.mem_cons.1 hx with rfl | hx
                      · cases m <;> cases l' <;> simp [unleaf] at hq
                        all_goals (rw [← hq.1]; simp)
                      · exact ih _ _ _ _ x hx ro cs
          exact fun x hx => key _ _ _ _ _ x hx
        split at hkt
        · exact absurd hb (none' k hkt _ _)
        · rename_i q hq
          rcases List.mem_cons.1 hkt with rfl | hkt
          · exact ⟨q, hq, rfl⟩
          · exact absurd hb (none' k hkt _ _)
      obtain ⟨q, hq, rfl⟩ := hbx
      cases hb
      obtain ⟨ro', cs, b, o, off, c, T, fr, k1, k2, k3, k4, k5, k6, k7, k8, k9⟩ := (ok t ht).bx q hq
      have ho := out t ht (hus t ht q hq)
      have hlo := lfs_len ho
      have hvl : t.vs.length = t.ls.length := by rw [k9]; simp; omega
      refine ⟨b, o + off, c, T, fr, hGk.trans k4, k6, by omega, fun hr => k8 (by cases hrr : ro' with | false => rfl | true => rw [k2 hrr] at hr; cases hr), ?_⟩
      rw [hlo, hvl, ← k9]; exact ho
  · intro m b k hm hb
    obtain ⟨x, _, hx1, rfl, rfl⟩ := hlook m b hm
    rw [hG x hx1] at hb
    refine (hO x hx1 k).2 ?_
    cases p2 x hx1 with
    | nil => cases hb
    | arr n m e d d' xs lo hi kk cap p q hl hd h1 h2 h3 hG' hp h4 h5 =>
      refine ⟨m, rfl, R.own m _ k hl ?_⟩
      rw [hG']
      obtain ⟨hpos, p', hp', hpb⟩ := blkOf_sl' hb
      rw [hp'] at hp
      cases q with
      | none => cases hp
      | some q =>
        rw [blkOf_sl (by omega), ← hpb]
        simp only [Option.map_some, Option.some.injEq] at hp
        rw [hp]
        unfold Addr.add
        split <;> rfl
    | box n m ro ro' cs cs' b o off hl hr hG' hn' =>
      refine ⟨m, rfl, R.own m _ k hl ?_⟩
      rw [hG']; simpa [blkOf] using hb
  · intro m m' b b' k hm hm' h1 h2
    obtain ⟨x, _, hx1, rfl, rfl⟩ := hlook m b hm
    obtain ⟨y, _, hy1, rfl, rfl⟩ := hlook m' b' hm'
    obtain ⟨n, hn, hOn⟩ := (hO x hx1 k).1 h1
    obtain ⟨n', hn', hOn'⟩ := (hO y hy1 k).1 h2
    obtain ⟨bn, hbn, _⟩ := hsrc x hx1 n hn
    obtain ⟨bn', hbn', _⟩ := hsrc y hy1 n' hn'
    have : n = n' := R.inj n n' bn bn' k hbn hbn' hOn hOn'
    subst this
    rw [nodup_src (by rw [p3]; exact x1) hx1 hy1 hn hn']
  · intro m b k hm h1
    obtain ⟨x, _, hx1, rfl, rfl⟩ := hlook m b hm
    obtain ⟨n, hn, hOn⟩ := (hO x hx1 k).1 h1
    obtain ⟨bn, hbn, hr⟩ := hsrc x hx1 n hn
    refine ⟨(R.wr n bn k hbn hOn).1, n, bn, hbn, by rw [← p3]; exact List.mem_filterMap.2 ⟨x, hx1, hn⟩, hOn, fun o ho => hr o ?_⟩
    rw [hG x hx1] at ho; exact ho
  · intro t ht q hq
    have hk : (⟨q.2.1, .box q.2.2 t.out, t.pv, some q.1⟩ : Mk) ∈ its.flatMap Itm.mks := by
      refine List.mem_flatMap.2 ⟨t, ht, ?_⟩
      simp only [Itm.mks, hq]; exact List.mem_cons_self ..
    refine ⟨hB _ hk, hG _ hk, fun k => ?_⟩
    rw [hO _ hk k]
    constructor
    · rintro ⟨n, hn, hOn⟩; cases hn; exact hOn
    · intro hOn; exact ⟨q.1, rfl, hOn⟩
end
end Go.Ev

namespace Go.Ev
open Go
set_option linter.unusedVariables false
set_option linter.unusedSimpArgs false

def Vl.ag : Vl → Bool
  | .agg _ => true
  | _ => false

/-! ### leaves that are read back -/
theorem castL_back {e' e : Row} {xs : List (rden e')} {ys : List (rden e)} (h : castL e' e xs = some ys) : Lf.sh e' xs = Lf.sh e ys := by
  obtain ⟨he, h⟩ := castL_eq h
  subst he; simp only at h; subst h; rfl
theorem col_exp : (t : LTy) → (ls : List Lf) → {y : t.den} → {rest : List Lf} → t.col ls = some (y, rest) → ls = t.exp y ++ rest
  | .i k, [], y, rest, h => by simp [LTy.col] at h
  | .i k, l :: r, y, rest, h => by
    cases l <;> simp only [LTy.col, reduceCtorEq] at h
    split at h
    · rename_i hk; cases h; subst hk; rfl
    · cases h
  | .bl, [], y, rest, h => by simp [LTy.col] at h
  | .bl, l :: r, y, rest, h => by
    cases l <;> simp only [LTy.col, reduceCtorEq] at h
    cases h; rfl
  | .st, [], y, rest, h => by simp [LTy.col] at h
  | .st, l :: r, y, rest, h => by
    cases l <;> simp only [LTy.col, reduceCtorEq] at h
    cases h; rfl
  | .er, [], y, rest, h => by simp [LTy.col] at h
  | .er, l :: r, y, rest, h => by
    cases l <;> simp only [LTy.col, reduceCtorEq] at h
    cases h; rfl
  | .sl e, [], y, rest, h => by simp [LTy.col] at h
  | .sl e, l :: r, y, rest, h => by
    cases l <;> simp only [LTy.col, reduceCtorEq] at h
    split at h
    · rename_i ys hy; cases h
      rw [castL_back hy]; rfl
    · cases h
  | .tn, ls, y, rest, h => by
    rcases ls with _ | ⟨l1, _ | ⟨l2, _ | ⟨l3, r⟩⟩⟩
    · simp [LTy.col] at h
    · simp [LTy.col] at h
    · simp [LTy.col] at h
    cases l1 <;> try simp only [LTy.col, reduceCtorEq] at h
    rename_i k1 k; cases k1 <;> try simp only [LTy.col, reduceCtorEq] at h
    cases l2 <;> try simp only [LTy.col, reduceCtorEq] at h
    rename_i k2 n; cases k2 <;> try simp only [LTy.col, reduceCtorEq] at h
    cases l3 <;> try simp only [LTy.col, reduceCtorEq] at h
    split at h
    · rename_i ys hy; cases h
      rw [castL_back hy]; rfl
    · cases h
theorem rcol_exp : (r : Row) → (ls : List Lf) → {y : rden r} → rcol r ls = some y → rexp r y = ls
  | [], [], y, h => rfl
  | [], l :: r, y, h => by simp [rcol] at h
  | [t], ls, y, h => by
    simp only [rcol] at h
    split at h
    · rename_i u hu; cases h
      have := col_exp t ls hu
      simp only [rexp]; rw [this]; simp
    · cases h
  | t :: d :: r, ls, y, h => by
    simp only [rcol] at h
    split at h
    · rename_i u ls' hu
      split at h
      · rename_i v hv; cases h
        have h1 := col_exp t ls hu
        have h2 := rcol_exp (d :: r) ls' hv
        simp only [rexp]; rw [h2]; exact h1.symm
      · cases h
    · cases h

section
variable {N : Ent} {G : Nat → Value} {O : Nat → Nat → Prop} {σ : S} {ts : Array Value} {h : Heap}

theorem get_look {t : Nat} {ms : List RM} {r : List Lf × List (Nat × Bool)} (hs : σ.leaves ms (σ.get t).ls = some r) (hn : (σ.get t).plain = true) : (∃ v, look t σ.tm = some v ∧ σ.get t = v) := by
  unfold S.get at hs hn ⊢
  cases hl : look t σ.tm with
  | none =>
    rw [hl] at hs
    simp only [Vl.ls] at hs
    cases ms with
    | nil => simp [S.leaves] at hs
    | cons m ms => simp [S.leaves, S.leaf, leafB] at hs
  | some v => exact ⟨v, rfl, rfl⟩

/-- the cells of a plain value -/
theorem vl_vs {E : Env} {v : Vl} {y : Value} (hv : v.rl E y) (hp : v.plain = true) : ∃ vs, lfsRl E v.ls vs ∧ ∀ (E' : Env) (ls : List Lf), ls.length = v.ls.length → lfsRl E' ls vs → (Vl.of v.ag ls).rl E' y := by
  cases v with
  | one l =>
    simp only [Vl.rl] at hv
    refine ⟨[y], by simp only [Vl.ls, lfsRl]; exact ⟨y, [], rfl, hv, rfl⟩, fun E' ls hl h => ?_⟩
    cases ls with
    | nil => simp [lfsRl] at h
    | cons a r => cases r with
      | nil =>
        simp only [lfsRl] at h
        obtain ⟨v, vs, he, hv, _⟩ := h
        cases he
        show (Vl.of false [a]).rl E' _
        simp only [Vl.of, Vl.rl]; exact hv
      | cons _ _ => simp [Vl.ls] at hl
  | agg ls0 =>
    simp only [Vl.rl] at hv
    obtain ⟨us, rfl, hv⟩ := hv
    exact ⟨us.toList, hv, fun E' ls _ h => by simp only [Vl.of, Vl.rl]; exact ⟨us, rfl, h⟩⟩
  | tup vs => cases hp

theorem fits_plain {ag : Bool} {v : Vl} (h : v.fits ag = true) : v.plain = true ∧ v.ag = ag := by
  cases v <;> cases ag <;> first | exact ⟨rfl, rfl⟩ | cases h

theorem unleaves_len : (ms : List RM) → (n : Nat) → (l : List Lf) → (unleaves ms n l).1.length = l.length
  | [], n, l => by cases l <;> rfl
  | m :: ms, n, [] => rfl
  | m :: ms, n, l :: r => by simp only [unleaves, List.length_cons, unleaves_len ms]
theorem leaves_len : {ms : List RM} → {ls ls' : List Lf} → {ids : List (Nat × Bool)} → σ.leaves ms ls = some (ls', ids) → ls'.length = ls.length
  | ms, [], ls', ids, h => by
    cases ms <;> (simp only [S.leaves, Option.some.injEq, Prod.mk.injEq] at h; rw [← h.1])
  | [], l :: r, ls', ids, h => by simp [S.leaves] at h
  | m :: ms, l :: r, ls', ids, h => by
    simp only [S.leaves] at h
    split at h
    · split at h
      · rename_i h2; cases h; simp [leaves_len h2]
      · cases h
    · cases h

theorem caps_pts {E E' : Env} : (ps : List (Nat × Nat)) → (caps : List (Bool × List Lf)) → (vs : List Value) → capsAre ps caps = true → capsRl E caps vs → (∀ p ∈ ps, has p.1 E'.us = true ∧ E'.G p.1 = E.G p.1) → capsRl E' (ps.map fun p => (false, [.pt p.1 p.2])) vs
  | [], [], vs, _, hc, _ => by simpa only [List.map_nil, capsRl] using hc
  | [], _ :: _, vs, h, _, _ => by simp [capsAre] at h
  | _ :: _, [], vs, h, _, _ => by simp [capsAre] at h
  | (n, off) :: r, (ag, ls) :: q, vs, h, hc, hp => by
    simp only [capsRl] at hc
    obtain ⟨v, vs', rfl, hv, hr⟩ := hc
    unfold capsAre at h
    split at h
    · rename_i h1 _; cases h1
    · rename_i n0 off0 r0 n' off' q0 h1 h2
      cases h1; cases h2
      simp only [Bool.and_eq_true] at h
      have e1 := Nat.eq_of_beq_eq_true h.1.1
      have e2 := Nat.eq_of_beq_eq_true h.1.2
      subst e1; subst e2
      simp only [List.map_cons, capsRl]
      refine ⟨v, vs', rfl, ?_, caps_pts _ _ vs' h.2 hr fun p hm => hp p (List.mem_cons_of_mem _ hm)⟩
      obtain ⟨p1, p2⟩ := hp _ (List.mem_cons_self ..)
      simp only [lfsRl, Lf.rl] at hv ⊢
      obtain ⟨v', vs'', e, ⟨_, b, o, q1, q2⟩, e3⟩ := hv
      exact ⟨v', vs'', e, ⟨p1, b, o, p2.trans q1, q2⟩, e3⟩
    · cases h

/-- temporaries as items -/
theorem packT_its (R : Rel N G O σ ts h) : (tms : List (Nat × LK)) → {a : List Lf} → {i : List (Nat × Bool)} → packT σ tms = some (a, i) →
    ∃ its : List Itm, (∀ t ∈ its, t.Ok N G O σ h ∧ t.bx = none) ∧ its.flatMap Itm.all = i ∧ ∀ rest, (unT tms (a ++ rest)).2 = (its.flatMap Itm.blks, rest) ∧
      ∀ E', (∀ t ∈ its, lfsRl E' t.out t.vs) → (∀ t k, (t, k) ∈ tms → ∀ p ∈ k.pts, has p.1 E'.us = true ∧ E'.G p.1 = G p.1) → ∀ t v, (t, v) ∈ (unT tms (a ++ rest)).1 → t < ts.size ∧ v.rl E' (ts.getD t undef)
  | [], a, i, hp => by
    simp only [packT, Option.some.injEq, Prod.mk.injEq] at hp
    obtain ⟨rfl, rfl⟩ := hp
    exact ⟨[], by simp, rfl, fun rest => ⟨rfl, fun E' _ _ t v hm => by simp [unT] at hm⟩⟩
  | (t, .val ag row ms) :: r, a, i, hp => by
    simp only [packT] at hp
    split at hp
    · rename_i hf
      simp only [Bool.and_eq_true] at hf
      obtain ⟨hf, hlen⟩ := hf
      have hlen := Nat.eq_of_beq_eq_true hlen
      split at hp
      · rename_i l i1 hl
        split at hp
        · rename_i l' j hr
          cases hp
          obtain ⟨its, k1, k2, k3⟩ := packT_its R r hr
          obtain ⟨hpl, hag⟩ := fits_plain hf
          obtain ⟨v0, hv0, _⟩ := get_look hl hpl
          obtain ⟨vs, q1, q2⟩ := vl_vs (R.get t) hpl
          have hll := leaves_len hl
          let it : Itm := ⟨none, ms, nm t 0 + 1000000, (σ.get t).ls, l, i1, vs, undef⟩
          refine ⟨it :: its, ?_, by rw [List.flatMap_cons, k2]; rfl, fun rest => ?_⟩
          · intro t' ht'
            rcases List.mem_cons.1 ht' with rfl | ht'
            · exact ⟨⟨hl, q1, fun q hq => by cases hq⟩, rfl⟩
            · exact k1 t' ht'
          · obtain ⟨f1, f2⟩ := k3 rest
            have e1 : (l ++ l' ++ rest).take (roww row) = l := by rw [List.append_assoc, ← hlen, ← hll, List.take_left']; rfl
            have e2 : (l ++ l' ++ rest).drop (roww row) = l' ++ rest := by rw [List.append_assoc, ← hlen, ← hll, List.drop_left']; rfl
            simp only [unT, e1, e2, f1]
            refine ⟨by rw [List.flatMap_cons]; rfl, fun E' ho hptr t' v hm => ?_⟩
            rcases List.mem_cons.1 hm with he | hm
            · cases he
              refine ⟨(R.tm t v0 hv0).1, ?_⟩
              have := q2 E' it.out (by show (unleaves _ _ _).1.length = _; rw [unleaves_len, hll]) (ho it (List.mem_cons_self ..))
              rw [hag] at this; exact this
            · exact f2 E' (fun t ht => ho t (List.mem_cons_of_mem _ ht)) (fun t k hm => hptr t k (List.mem_cons_of_mem _ hm)) t' v hm
        · cases hp
      · cases hp
    · cases hp
  | (t, .ptr n off) :: r, a, i, hp => by
    simp only [packT] at hp
    split at hp
    · rename_i n' off' hg
      split at hp
      · rename_i hb
        simp only [Bool.and_eq_true] at hb
        have h1 := Nat.eq_of_beq_eq_true hb.1
        have h2 := Nat.eq_of_beq_eq_true hb.2
        subst h1; subst h2
        obtain ⟨its, k1, k2, k3⟩ := packT_its R r hp
        have hlook : look t σ.tm = some (.one (.pt n off)) := by
          unfold S.get at hg
          cases hl : look t σ.tm with
          | none => rw [hl] at hg; cases hg
          | some v => rw [hl] at hg; exact congrArg some hg
        refine ⟨its, k1, k2, fun rest => ?_⟩
        obtain ⟨f1, f2⟩ := k3 rest
        simp only [unT]
        refine ⟨f1, fun E' ho hptr t' v hm => ?_⟩
        rcases List.mem_cons.1 hm with he | hm
        · cases he
          obtain ⟨g1, g2⟩ := R.tm t _ hlook
          refine ⟨g1, ?_⟩
          obtain ⟨p1, p2⟩ := hptr t (.ptr n off) (List.mem_cons_self ..) (n, off) (List.mem_cons_self ..)
          simp only [Vl.rl, Lf.rl] at g2 ⊢
          obtain ⟨_, b, o, e1, e2⟩ := g2
          exact ⟨p1, b, o, p2.trans e1, e2⟩
        · exact f2 E' ho (fun t k hm => hptr t k (List.mem_cons_of_mem _ hm)) t' v hm
      · cases hp
    · cases hp
  | (t, .fn f ps) :: r, a, i, hp => by
    simp only [packT] at hp
    split at hp
    · rename_i f' caps hg
      split at hp
      · rename_i hb
        simp only [Bool.and_eq_true] at hb
        have h1 := Nat.eq_of_beq_eq_true hb.1
        subst h1
        obtain ⟨its, k1, k2, k3⟩ := packT_its R r hp
        have hlook : look t σ.tm = some (.one (.fn f caps)) := by
          unfold S.get at hg
          cases hl : look t σ.tm with
          | none => rw [hl] at hg; cases hg
          | some v => rw [hl] at hg; exact congrArg some hg
        refine ⟨its, k1, k2, fun rest => ?_⟩
        obtain ⟨f1, f2⟩ := k3 rest
        simp only [unT]
        refine ⟨f1, fun E' ho hptr t' v hm => ?_⟩
        rcases List.mem_cons.1 hm with he | hm
        · cases he
          obtain ⟨g1, g2⟩ := R.tm t _ hlook
          refine ⟨g1, ?_⟩
          simp only [Vl.rl, Lf.rl] at g2 ⊢
          obtain ⟨us, e1, e2⟩ := g2
          exact ⟨us, e1, caps_pts ps caps us.toList hb.2 e2 (hptr t (.fn f ps) (List.mem_cons_self ..))⟩
        · exact f2 E' ho (fun t k hm => hptr t k (List.mem_cons_of_mem _ hm)) t' v hm
      · cases hp
    · cases hp

/-- boxes as items -/
theorem packB_its (R : Rel N G O σ ts h) : (bxs : List (Nat × Bool × Row × List RM)) → {b : List Lf} → {i : List (Nat × Bool)} → packB σ bxs = some (b, i) →
    ∃ its : List Itm, (∀ t ∈ its, t.Ok N G O σ h ∧ ∃ n ro, t.bx = some (n, n, ro) ∧ t.pv = G n) ∧ its.flatMap Itm.all = i ∧ unB bxs b = its.flatMap Itm.blks ∧ ∀ n, n ∈ bxs.map (·.1) → ∃ t ∈ its, ∃ ro, t.bx = some (n, n, ro)
  | [], b, i, hp => by
    simp only [packB, Option.some.injEq, Prod.mk.injEq] at hp
    obtain ⟨rfl, rfl⟩ := hp
    exact ⟨[], by simp, rfl, rfl, by simp⟩
  | (n, ro, row, ms) :: r, b, i, hp => by
    simp only [packB] at hp
    split at hp
    · rename_i ro' cs hl
      split at hp
      · rename_i hb
        simp only [Bool.and_eq_true] at hb
        have hlen := Nat.eq_of_beq_eq_true hb.2
        have hro : ro = ro' := by simpa using hb.1
        subst hro
        split at hp
        · rename_i l i1 hls
          split at hp
          · rename_i l' j hr
            cases hp
            obtain ⟨its, k1, k2, k3, k4⟩ := packB_its R r hr
            obtain ⟨_, blk, o, c, T, fr, e1, e2, e3, e4, e5⟩ := R.hp n _ hl
            have hll := leaves_len hls
            let it : Itm := ⟨some (n, n, ro), ms, bnm n, cs, l, i1, (c.toList.drop o).take cs.length, G n⟩
            refine ⟨it :: its, ?_, by rw [List.flatMap_cons, k2]; rfl, ?_, ?_⟩
            · intro t' ht'
              rcases List.mem_cons.1 ht' with rfl | ht'
              · refine ⟨⟨hls, e5, fun q hq => ?_⟩, n, ro, rfl, rfl⟩
                cases hq
                exact ⟨ro, cs, blk, o, 0, c, T, fr, hl, fun h => h, e1, e1, (by show 0 + cs.length ≤ cs.length; omega), e2, e3, e4, (by show List.take cs.length (List.drop o c.toList) = List.take cs.length (List.drop (o + 0) c.toList); rw [Nat.add_zero])⟩
              · exact k1 t' ht'
            · have e1' : (l ++ l').take (roww row) = l := by rw [← hlen, ← hll, List.take_left']; rfl
              have e2' : (l ++ l').drop (roww row) = l' := by rw [← hlen, ← hll, List.drop_left']; rfl
              simp only [unB, e1', e2', k3, List.flatMap_cons]
              rfl
            · intro n' hn'
              rcases List.mem_cons.1 hn' with rfl | hn'
              · exact ⟨it, List.mem_cons_self .., ro, rfl⟩
              · obtain ⟨t, ht, ro, he⟩ := k4 n' hn'
                exact ⟨t, List.mem_cons_of_mem _ ht, ro, he⟩
          · cases hp
        · cases hp
      · cases hp
    · cases hp

theorem look_mem {α : Type} {n : Nat} {v : α} : {l : List (Nat × α)} → look n l = some v → (n, v) ∈ l
  | [], h => by cases h
  | (m, x) :: r, h => by
    rw [look_cons] at h
    split at h
    · rename_i he; cases h; subst he; exact List.mem_cons_self ..
    · exact List.mem_cons_of_mem _ (look_mem h)
theorem ptrsOk_mem {ns : List Nat} : {l : List (Nat × LK)} → ptrsOk ns l = true → ∀ t k, (t, k) ∈ l → ∀ p ∈ k.pts, p.1 ∈ ns
  | [], _, t, k, h => by simp at h
  | (t', k') :: r, hp, t, k, h => by
    simp only [ptrsOk, Bool.and_eq_true] at hp
    rcases List.mem_cons.1 h with h | h
    · cases h
      intro p hm
      exact has_mem.1 (List.all_eq_true.1 hp.1 p hm)
    · exact ptrsOk_mem hp.2 t k h
theorem lows_mem {n : Nat} {e : Row} {d : Bool} {xs : List (rden e)} : {l : List (Nat × Bl)} → lows l = true → (n, Bl.arr e d xs) ∈ l → low n = true
  | [], _, h => by simp at h
  | (m, .arr e' d' xs') :: r, hl, h => by
    simp only [lows, Bool.and_eq_true] at hl
    rcases List.mem_cons.1 h with h | h
    · cases h; exact hl.1
    · exact lows_mem hl.2 h
  | (m, .box ro cs) :: r, hl, h => by
    simp only [lows] at hl
    rcases List.mem_cons.1 h with h | h
    · cases h
    · exact lows_mem hl h

theorem its_blk {its : List Itm} {m : Nat} {b : Bl} (h : (m, b) ∈ its.flatMap Itm.blks) : (∃ e d xs, b = .arr e d xs) ∨ ∃ t ∈ its, ∃ q, t.bx = some q ∧ q.2.1 = m := by
  obtain ⟨t, ht, hm⟩ := List.mem_flatMap.1 h
  have un : ∀ (ms : List RM) (n : Nat) (ls : List Lf), (m, b) ∈ (unleaves ms n ls).2 → ∃ e d xs, b = .arr e d xs := by
    intro ms
    induction ms with
    | nil => intro n ls hm; cases ls <;> simp [unleaves] at hm
    | cons x ms ih =>
      intro n ls hm
      cases ls with
      | nil => simp [unleaves] at hm
      | cons l r =>
        simp only [unleaves] at hm
        rcases List.mem_append.1 hm with hm | hm
        · cases x <;> cases l <;> simp [unleaf] at hm
          · exact ⟨_, _, _, hm.2⟩
          · exact ⟨_, _, _, hm.2⟩
        · exact ih _ _ hm
  unfold Itm.blks at hm
  split at hm
  · exact .inl (un _ _ _ hm)
  · rename_i q hq
    rcases List.mem_cons.1 hm with he | hm
    · cases he; exact .inr ⟨t, ht, q, hq, rfl⟩
    · exact .inl (un _ _ _ hm)

theorem vis_of (R : Rel N G O σ ts h) {ids : List (Nat × Bool)} {k : Nat} (hk : Vis N O σ.hp h k ∨ ∃ n x b, (n, x) ∈ ids ∧ look n σ.hp = some b ∧ O n k) : N.Al k ∨ N.h0.size ≤ k := by
  rcases hk with hk | ⟨n, x, b, _, hb, hO⟩
  · exact hk.1
  · rcases (R.wr n b k hb hO).2 with h | h
    · exact .inr h
    · exact .inl (N.owAl k h.1)

/-- what lives on stands for the same -/
theorem pack_rel (R : Rel N G O σ ts h) {l : Live} {d : rden l.row} (hp : pack l σ = some d) (hok : unOk l (unpack l d) = true) : ∃ G' O', Rel N G' O' (unpack l d) ts h := by
  unfold pack at hp
  split at hp
  · rename_i a i b j ha hb
    split at hp
    · rename_i hfit
      have he := rcol_exp _ _ hp
      obtain ⟨it1, k1, k2, k3⟩ := packT_its R l.tms ha
      obtain ⟨it2, m1, m2, m3, m4⟩ := packB_its R l.bxs hb
      obtain ⟨f1, f2⟩ := k3 b
      have hhp : (unpack l d).hp = (it1 ++ it2).flatMap Itm.blks := by
        simp only [unpack, he, f1, m3, List.flatMap_append]
      have htm : (unpack l d).tm = (unT l.tms (a ++ b)).1 := by simp only [unpack, he]
      have hus : (unpack l d).us = nms ((it1 ++ it2).flatMap Itm.blks) := by
        rw [← hhp]; simp only [unpack]
      simp only [unOk, Bool.and_eq_true] at hok
      obtain ⟨hdis, hlow, hptr⟩ := hok
      rw [hhp] at hdis hlow
      have hits : ∀ t ∈ it1 ++ it2, t.Ok N G O σ h := by
        intro t ht
        rcases List.mem_append.1 ht with ht | ht
        · exact (k1 t ht).1
        · exact (m1 t ht).1
      have hall : (it1 ++ it2).flatMap Itm.all = i ++ j := by rw [List.flatMap_append, k2, m2]
      have hhas : ∀ m b, look m ((it1 ++ it2).flatMap Itm.blks) = some b → has m (unpack l d).us = true := by
        intro m b hm; rw [hus]; exact look_has hm
      have hmkl : ∀ t ∈ it1 ++ it2, ∀ k ∈ t.mkl, has k.n (unpack l d).us = true := by
        intro t ht k hk
        obtain ⟨p1, _, _⟩ := its_made R _ hits
        have hk' : k ∈ (it1 ++ it2).flatMap Itm.mks := by
          refine List.mem_flatMap.2 ⟨t, ht, ?_⟩
          unfold Itm.mks; split
          · exact hk
          · exact List.mem_cons_of_mem _ hk
        rw [hus, p1]
        exact has_mem.2 (by simp only [nms, List.map_map]; exact List.mem_map.2 ⟨k, hk', rfl⟩)
      have M := moved R hits (by rw [hall]; exact hfit) hdis (us' := (unpack l d).us) (V' := Vis N (mvO O (it1 ++ it2)) (unpack l d).hp h) (fun t ht q _ => hmkl t ht) (fun k hk hv hn => ⟨vis_of R hv, hk, by rw [hhp]; exact hn⟩)
      refine ⟨mvG (it1 ++ it2), mvO O (it1 ++ it2), ?_, ?_, ?_, ?_, ?_, R.kp, ?_⟩
      · intro t v hl
        rw [htm] at hl
        refine f2 (env N (mvG (it1 ++ it2)) (mvO O (it1 ++ it2)) (unpack l d) h) (fun t ht => M.out t (List.mem_append_left _ ht) (hmkl t (List.mem_append_left _ ht))) (fun t k hm p hp => ?_) t v (look_mem hl)
        obtain ⟨t2, ht2, ro, hbx⟩ := m4 p.1 (ptrsOk_mem hptr t k hm p hp)
        obtain ⟨q1, q2, q3⟩ := M.bx t2 (List.mem_append_right _ ht2) _ hbx
        obtain ⟨_, n2, ro2, hbx2, hpv⟩ := m1 t2 ht2
        rw [hbx] at hbx2; cases hbx2
        exact ⟨hhas _ _ q1, q2.trans hpv⟩
      · intro n b hl
        rw [hhp] at hl
        exact ⟨hhas n b hl, M.blk n b hl⟩
      · intro n b k hl; rw [hhp] at hl; exact M.own n b k hl
      · intro n m b b' k hl hl'; rw [hhp] at hl hl'; exact M.inj n m b b' k hl hl'
      · intro n b k hl hO
        rw [hhp] at hl
        obtain ⟨q1, n', bn, q2, q3, q4, q5⟩ := M.src n b k hl hO
        exact ⟨q1, (R.wr n' bn k q2 q4).2.imp id fun hw => ⟨hw.1, fun o ho => hw.2 o (q5 o ho)⟩⟩
      · intro m b v K hl hf
        rw [hhp] at hl
        rcases its_blk (look_mem hl) with ⟨e, dd, xs, rfl⟩ | ⟨t, ht, q, hq, hqm⟩
        · rw [N.hi m (lows_mem hlow (look_mem hl))] at hf; cases hf
        · obtain ⟨q1, q2, q3⟩ := M.bx t ht q hq
          rcases List.mem_append.1 ht with ht | ht
          · rw [(k1 t ht).2] at hq; cases hq
          · obtain ⟨ok, n, ro, hbx, hpv⟩ := m1 t ht
            rw [hq] at hbx; cases hbx
            simp only at hqm q2 q3; subst hqm
            obtain ⟨ro', cs, b', o, off, c, T, fr, g1, _⟩ := ok.bx _ hq
            obtain ⟨r1, r2⟩ := R.fx n _ v K g1 hf
            exact ⟨by rw [q2, hpv]; exact r1, fun k => (q3 k).trans (r2 k)⟩
    · cases hp
  · cases hp
end
end Go.Ev

namespace Go.Ev
open Go
set_option linter.unusedVariables false
set_option linter.constructorNameAsVariable false
set_option linter.unusedSimpArgs false

section
variable {N : Ent} {G : Nat → Value} {O : Nat → Nat → Prop} {σ : S} {ts : Array Value} {h : Heap}

theorem mkl_names (R : Rel N G O σ ts h) {x : Itm} (ok : x.Ok N G O σ h) : ∀ k ∈ x.mkl, k.n ∈ nms (unleaves x.ms x.base x.ls').2 := by
  intro k hk
  obtain ⟨g1, _⟩ := leaves_made R x.ms x.ls x.base ok.rl ok.leaves
  rw [g1]
  simp only [nms, List.map_map]
  exact List.mem_map.2 ⟨k, hk, rfl⟩

theorem outR_its (R : Rel N G O σ ts h) : (rs : List RS) → (vs : List Vl) → (ys : List Value) → {a : List Lf} → {i : List (Nat × Bool)} → vlsRl (env N G O σ h) vs ys → outR σ rs vs = some (a, i) → ∀ (t j : Nat) (rest : List Lf),
    ∃ its : List Itm, (∀ x ∈ its, x.Ok N G O σ h) ∧ its.flatMap Itm.all = i ∧ (resL t rs j (a ++ rest)).2.1 = its.flatMap Itm.blks ∧ (resL t rs j (a ++ rest)).2.2.2 = rest ∧
      ∀ E' : Env, (∀ x ∈ its, lfsRl E' x.out x.vs) → (∀ x ∈ its, ∀ q, x.bx = some q → has q.2.1 E'.us = true ∧ E'.G q.2.1 = x.pv) → vlsRl E' (resL t rs j (a ++ rest)).1 ys
  | [], [], ys, a, i, hv, ho, t, j, rest => by
    simp only [outR, Option.some.injEq, Prod.mk.injEq] at ho
    obtain ⟨rfl, rfl⟩ := ho
    exact ⟨[], by simp, rfl, rfl, rfl, fun E' _ _ => by simpa only [resL, vlsRl] using hv⟩
  | [], _ :: _, ys, a, i, hv, ho, t, j, rest => by simp [outR] at ho
  | .val .. :: _, [], ys, a, i, hv, ho, t, j, rest => by simp [outR] at ho
  | .ptr .. :: _, [], ys, a, i, hv, ho, t, j, rest => by simp [outR] at ho
  | .val ag row ms :: r, v :: vs, ys, a, i, hv, ho, t, j, rest => by
    simp only [vlsRl] at hv
    obtain ⟨y, ys', rfl, hv, hvs⟩ := hv
    simp only [outR] at ho
    split at ho
    · rename_i hf
      simp only [Bool.and_eq_true] at hf
      obtain ⟨hf, hlen⟩ := hf
      have hlen := Nat.eq_of_beq_eq_true hlen
      split at ho
      · rename_i l i1 hl
        split at ho
        · rename_i l' i2 hr
          cases ho
          obtain ⟨its, k1, k2, k3, k4, k5⟩ := outR_its R r vs ys' hvs hr t (j + roww row) rest
          obtain ⟨hpl, hag⟩ := fits_plain hf
          obtain ⟨us, q1, q2⟩ := vl_vs hv hpl
          have hll := leaves_len hl
          let it : Itm := ⟨none, ms, nm t j, v.ls, l, i1, us, undef⟩
          have e1 : (l ++ l' ++ rest).take (roww row) = l := by rw [List.append_assoc, ← hlen, ← hll, List.take_left']; rfl
          have e2 : (l ++ l' ++ rest).drop (roww row) = l' ++ rest := by rw [List.append_assoc, ← hlen, ← hll, List.drop_left']; rfl
          refine ⟨it :: its, ?_, by rw [List.flatMap_cons, k2]; rfl, ?_, ?_, fun E' ho hb => ?_⟩
          · intro x hx
            rcases List.mem_cons.1 hx with rfl | hx
            · exact ⟨hl, q1, fun q hq => by cases hq⟩
            · exact k1 x hx
          · simp only [resL, e1, e2, k3, List.flatMap_cons]; rfl
          · simp only [resL, e1, e2, k4]
          · simp only [resL, e1, e2, vlsRl]
            refine ⟨y, ys', rfl, ?_, k5 E' (fun x hx => ho x (List.mem_cons_of_mem _ hx)) (fun x hx => hb x (List.mem_cons_of_mem _ hx))⟩
            have := q2 E' it.out (by show (unleaves _ _ _).1.length = _; rw [unleaves_len, hll]) (ho it (List.mem_cons_self ..))
            rw [hag] at this; exact this
        · cases ho
      · cases ho
    · cases ho
  | .ptr row ms :: r, v :: vs, ys, a, i, hv, ho, t, j, rest => by
    simp only [vlsRl] at hv
    obtain ⟨y, ys', rfl, hv, hvs⟩ := hv
    simp only [outR] at ho
    split at ho
    · rename_i n
      split at ho
      · rename_i cs hbox
        split at ho
        · rename_i hlen
          have hlen := Nat.eq_of_beq_eq_true hlen
          split at ho
          · rename_i l i1 hl
            split at ho
            · rename_i l' i2 hr
              cases ho
              obtain ⟨its, k1, k2, k3, k4, k5⟩ := outR_its R r vs ys' hvs hr t (j + 1 + roww row) rest
              obtain ⟨_, blk, o, c, T, fr, b1, b2, b3, b4, b5⟩ := R.hp n _ hbox
              have hll := leaves_len hl
              let it : Itm := ⟨some (n, nm t j, false), ms, nm t (j + 1), cs, l, i1, (c.toList.drop o).take cs.length, G n⟩
              have e1 : (l ++ l' ++ rest).take (roww row) = l := by rw [List.append_assoc, ← hlen, ← hll, List.take_left']; rfl
              have e2 : (l ++ l' ++ rest).drop (roww row) = l' ++ rest := by rw [List.append_assoc, ← hlen, ← hll, List.drop_left']; rfl
              refine ⟨it :: its, ?_, by rw [List.flatMap_cons, k2]; rfl, ?_, ?_, fun E' ho hb => ?_⟩
              · intro x hx
                rcases List.mem_cons.1 hx with rfl | hx
                · refine ⟨hl, b5, fun q hq => ?_⟩
                  cases hq
                  exact ⟨false, cs, blk, o, 0, c, T, fr, hbox, fun h => h, b1, b1, (by show 0 + cs.length ≤ cs.length; omega), b2, b3, b4, (by show List.take cs.length (List.drop o c.toList) = List.take cs.length (List.drop (o + 0) c.toList); rw [Nat.add_zero])⟩
                · exact k1 x hx
              · simp only [resL, e1, e2, k3, List.flatMap_cons]; rfl
              · simp only [resL, e1, e2, k4]
              · simp only [resL, e1, e2, vlsRl]
                refine ⟨y, ys', rfl, ?_, k5 E' (fun x hx => ho x (List.mem_cons_of_mem _ hx)) (fun x hx => hb x (List.mem_cons_of_mem _ hx))⟩
                obtain ⟨p1, p2⟩ := hb it (List.mem_cons_self ..) _ rfl
                simp only [Vl.rl, Lf.rl] at hv ⊢
                obtain ⟨_, b', o', g1, g2⟩ := hv
                exact ⟨p1, b', o', p2.trans g1, g2⟩
            · cases ho
          · cases ho
        · cases ho
      · cases ho
    · cases ho

/-- an array that was written, as an item -/
def arrItm (G : Nat → Value) (n : Nat) (e : Row) (xs : List (rden e)) : Itm := ⟨none, [.o], n, [.os n], [.sh e xs], [(n, true)], [G n], undef⟩
theorem arrItm_ok (R : Rel N G O σ ts h) {n : Nat} {e : Row} {xs : List (rden e)} (hl : look n σ.hp = some (.arr e false xs)) : (arrItm G n e xs).Ok N G O σ h := by
  refine ⟨?_, ?_, fun q hq => by cases hq⟩
  · simp [arrItm, S.leaves, S.leaf, Lf.src, leafB, hl, RM.ok, RM.ex]
  · obtain ⟨q, cap, e1, _⟩ := arr_len (R.hp n _ hl).2
    simp only [arrItm, lfsRl, Lf.rl]
    exact ⟨_, _, rfl, ⟨(R.hp n _ hl).1, rfl, _, _, _, e1⟩, rfl⟩

theorem outM_its (R : Rel N G O σ ts h) : (ks : List (Option Row)) → (ms : List Md) → (i : Nat) → {l : List Lf} → {ids : List (Nat × Bool)} → outM σ i ks ms = some (l, ids) →
    ∃ its : List Itm, (∀ x ∈ its, x.Ok N G O σ h) ∧ its.flatMap Itm.all = ids ∧ (∀ rest, retM i ks ms (l ++ rest) = (its.flatMap Itm.blks, rest)) ∧ ∀ x ∈ its, x.bx = none ∧ ∀ k ∈ x.mkl, k.v = G k.n ∧ k.s = some k.n := by
  intro ks
  induction ks with
  | nil =>
    intro ms i l ids ho
    have : l = [] ∧ ids = [] := by cases ms <;> (simp only [outM, Option.some.injEq, Prod.mk.injEq] at ho; exact ⟨ho.1.symm, ho.2.symm⟩)
    obtain ⟨rfl, rfl⟩ := this
    exact ⟨[], by simp, rfl, fun rest => by cases ms <;> simp [retM], by simp⟩
  | cons k ks ih =>
    intro ms i l ids ho
    cases ms with
    | nil =>
      have : l = [] ∧ ids = [] := by cases k <;> (simp only [outM, Option.some.injEq, Prod.mk.injEq] at ho; exact ⟨ho.1.symm, ho.2.symm⟩)
      obtain ⟨rfl, rfl⟩ := this
      exact ⟨[], by simp, rfl, fun rest => by cases k <;> simp [retM], by simp⟩
    | cons m ms =>
      have skip : outM σ (i + 1) ks ms = some (l, ids) → (∀ l, retM i (k :: ks) (m :: ms) l = retM (i + 1) ks ms l) → ∃ its : List Itm, (∀ x ∈ its, x.Ok N G O σ h) ∧ its.flatMap Itm.all = ids ∧ (∀ rest, retM i (k :: ks) (m :: ms) (l ++ rest) = (its.flatMap Itm.blks, rest)) ∧ ∀ x ∈ its, x.bx = none ∧ ∀ k ∈ x.mkl, k.v = G k.n ∧ k.s = some k.n := by
        intro ho hr
        obtain ⟨its, k1, k2, k3, k4⟩ := ih ms (i + 1) ho
        exact ⟨its, k1, k2, fun rest => by rw [hr]; exact k3 rest, k4⟩
      cases k with
      | none => exact skip (by simpa only [outM] using ho) (fun l => by cases m <;> simp [retM])
      | some e0 =>
        cases m with
        | s => exact skip (by simpa only [outM] using ho) (fun l => by simp [retM])
        | o => exact skip (by simpa only [outM] using ho) (fun l => by simp [retM])
        | m =>
          simp only [outM] at ho
          split at ho
          · rename_i e xs hl
            split at ho
            · rename_i l' i' hr
              cases ho
              obtain ⟨its, k1, k2, k3, k4⟩ := ih ms (i + 1) hr
              refine ⟨arrItm G (pnm i) e xs :: its, ?_, by rw [List.flatMap_cons, k2]; rfl, fun rest => ?_, ?_⟩
              · intro x hx
                rcases List.mem_cons.1 hx with rfl | hx
                · exact arrItm_ok R hl
                · exact k1 x hx
              · simp only [List.cons_append, retM, k3 rest, List.flatMap_cons]; rfl
              · intro x hx
                rcases List.mem_cons.1 hx with rfl | hx
                · refine ⟨rfl, fun k hk => ?_⟩
                  simp only [Itm.mkl, arrItm, mkL, unleaf, List.mem_singleton] at hk
                  subst hk; exact ⟨rfl, rfl⟩
                · exact k4 x hx
            · cases ho
          · cases ho

theorem outB_its (R : Rel N G O σ ts h) : (ps : List PS) → (i : Nat) → {b : List Lf} → {ids : List (Nat × Bool)} → outB σ i ps = some (b, ids) → ∀ (t j : Nat),
    ∃ its : List Itm, (∀ x ∈ its, x.Ok N G O σ h) ∧ its.flatMap Itm.all = ids ∧ (retB t i j ps b).1 = its.flatMap Itm.blks ∧
      ∀ x ∈ its, (∃ q, x.bx = some q ∧ q.1 = q.2.1 ∧ x.pv = G q.1 ∧ ∀ k ∈ x.mkl, k.n ∈ (retB t i j ps b).2) ∨ (x.bx = none ∧ ∀ k ∈ x.mkl, k.v = G k.n ∧ k.s = some k.n)
  | [], i, b, ids, ho, t, j => by
    simp only [outB, Option.some.injEq, Prod.mk.injEq] at ho
    obtain ⟨rfl, rfl⟩ := ho
    exact ⟨[], by simp, rfl, rfl, by simp⟩
  | .fnv .. :: r, i, b, ids, ho, t, j => by simp [outB] at ho
  | .val ag row ms :: r, i, b, ids, ho, t, j => by
    simp only [outB] at ho
    split at ho
    · rename_i l i1 hl
      split at ho
      · rename_i l' i2 hr
        cases ho
        obtain ⟨it1, k1, k2, k3, k4⟩ := outM_its R _ _ _ hl
        obtain ⟨it2, m1, m2, m3, m4⟩ := outB_its R r _ hr t j
        refine ⟨it1 ++ it2, ?_, by rw [List.flatMap_append, k2, m2], ?_, ?_⟩
        · intro x hx
          rcases List.mem_append.1 hx with hx | hx
          · exact k1 x hx
          · exact m1 x hx
        · simp only [retB, k3 l', m3, List.flatMap_append]
        · intro x hx
          rcases List.mem_append.1 hx with hx | hx
          · exact .inr (k4 x hx)
          · simp only [retB, k3 l']; exact m4 x hx
      · cases ho
    · cases ho
  | .ptr row ms ro :: r, i, b, ids, ho, t, j => by
    cases ro with
    | true =>
      simp only [outB] at ho
      split at ho
      · rename_i cs hbox
        split at ho
        · rename_i l' i2 hr
          cases ho
          obtain ⟨its, k1, k2, k3, k4⟩ := outB_its R r _ hr t j
          obtain ⟨_, blk, o, c, T, fr, b1, b2, b3, b4, b5⟩ := R.hp _ _ hbox
          let it : Itm := ⟨some (pnm i, pnm i, true), [], 0, [], [], [], [], G (pnm i)⟩
          have ok : it.Ok N G O σ h := by
            refine ⟨rfl, (show lfsRl _ [] [] by simp only [lfsRl]), fun q hq => ?_⟩
            cases hq
            exact ⟨true, cs, blk, o, 0, c, T, fr, hbox, fun h => h, b1, b1, (by show 0 + 0 ≤ cs.length; omega), b2, b3, b4, (by show [] = List.take 0 _; simp)⟩
          refine ⟨it :: its, ?_, by rw [List.flatMap_cons, k2]; rfl, ?_, ?_⟩
          · intro x hx
            rcases List.mem_cons.1 hx with rfl | hx
            · exact ok
            · exact k1 x hx
          · simp only [retB, k3, List.flatMap_cons]; rfl
          · intro x hx
            simp only [retB]
            rcases List.mem_cons.1 hx with rfl | hx
            · exact .inl ⟨_, rfl, rfl, rfl, fun k hk => by simp [Itm.mkl, mkL, it] at hk⟩
            · exact k4 x hx
        · cases ho
      · cases ho
    | false =>
      simp only [outB] at ho
      split at ho
      · rename_i cs hbox
        split at ho
        · rename_i hlen
          have hlen := Nat.eq_of_beq_eq_true hlen
          split at ho
          · rename_i l i1 hl
            split at ho
            · rename_i l' i2 hr
              cases ho
              obtain ⟨its, k1, k2, k3, k4⟩ := outB_its R r _ hr t (j + roww row)
              obtain ⟨_, blk, o, c, T, fr, b1, b2, b3, b4, b5⟩ := R.hp _ _ hbox
              have hll := leaves_len hl
              let it : Itm := ⟨some (pnm i, pnm i, false), ms.map Md.rm, nm t j, cs, l, i1, (c.toList.drop o).take cs.length, G (pnm i)⟩
              have ok : it.Ok N G O σ h := by
                refine ⟨hl, b5, fun q hq => ?_⟩
                cases hq
                exact ⟨false, cs, blk, o, 0, c, T, fr, hbox, fun h => h, b1, b1, (by show 0 + cs.length ≤ cs.length; omega), b2, b3, b4, (by show List.take cs.length (List.drop o c.toList) = List.take cs.length (List.drop (o + 0) c.toList); rw [Nat.add_zero])⟩
              have e1 : (l ++ l').take (roww row) = l := by rw [← hlen, ← hll, List.take_left']; rfl
              have e2 : (l ++ l').drop (roww row) = l' := by rw [← hlen, ← hll, List.drop_left']; rfl
              refine ⟨it :: its, ?_, by rw [List.flatMap_cons, k2]; rfl, ?_, ?_⟩
              · intro x hx
                rcases List.mem_cons.1 hx with rfl | hx
                · exact ok
                · exact k1 x hx
              · simp only [retB, e1, e2, k3, List.flatMap_cons]; rfl
              · intro x hx
                simp only [retB, e1, e2]
                rcases List.mem_cons.1 hx with rfl | hx
                · exact .inl ⟨_, rfl, rfl, rfl, fun k hk => List.mem_append_left _ (mkl_names R ok k hk)⟩
                · rcases k4 x hx with ⟨q, g1, g2, g3, g4⟩ | g
                  · exact .inl ⟨q, g1, g2, g3, fun k hk => List.mem_append_right _ (g4 k hk)⟩
                  · exact .inr g
            · cases ho
          · cases ho
        · cases ho
      · cases ho
end
end Go.Ev

namespace Go.Ev
open Go
set_option linter.unusedVariables false
set_option linter.unusedSimpArgs false

/-- the state behind a call tells of the result and of memory -/
structure RetOk (N : Ent) (G1 : Nat → Value) (O1 : Nat → Nat → Prop) (ρ : S) (y : Value) (h' : Heap) : Prop where
  kp : Kp N.W N.h0 h'
  val : ∀ v, ρ.tm = [(0, v)] → v.rl (env N G1 O1 ρ h') y
  blk : ∀ m b, look m ρ.hp = some b → b.rl (env N G1 O1 ρ h') O1 m
  own : ∀ m b k, look m ρ.hp = some b → blkOf (G1 m) = some k → O1 m k
  inj : ∀ n m b b' k, look n ρ.hp = some b → look m ρ.hp = some b' → O1 n k → O1 m k → n = m
  wr : ∀ n b k, look n ρ.hp = some b → O1 n k → k < h'.size ∧ (N.h0.size ≤ k ∨ (N.Ow k ∧ ∀ o, b.rng (G1 n) o → N.W k o))
  fx : ∀ m b v K, look m ρ.hp = some b → N.fix m = some (v, K) → G1 m = v ∧ ∀ k, O1 m k ↔ K k

/-- several results -/
def packV : List Value → Value
  | [y] => y
  | ys => .tuple ys.toArray
theorem packV_rl {E : Env} : {vs : List Vl} → {ys : List Value} → vlsRl E vs ys → (match vs with | [x] => x | xs => Vl.tup xs).rl E (packV ys)
  | [], ys, h => by
    simp only [vlsRl] at h; subst h
    simp only [packV, Vl.rl]; exact ⟨#[], rfl, by simp [vlsRl]⟩
  | [x], ys, h => by
    simp only [vlsRl] at h
    obtain ⟨v, vs, rfl, hv, rfl⟩ := h
    exact hv
  | a :: b :: r, ys, h => by
    have h' := h
    simp only [vlsRl] at h
    obtain ⟨v, vs, rfl, hv, v', vs', rfl, hv', hr⟩ := h
    simp only [packV, Vl.rl]; exact ⟨_, rfl, h'⟩

section
variable {N : Ent} {G : Nat → Value} {O : Nat → Nat → Prop} {σ : S} {ts : Array Value} {h : Heap}

theorem all_low {l : List Nat} (h : l.all low = true) {n : Nat} (hn : n ∈ l) : low n = true := List.all_eq_true.1 h n hn

theorem outs_ret (R : Rel N G O σ ts h) {ti : Nat → TI} {s : Sig} {rv : List ResultVar} {ys : List Value} {r : rden s.res} (hy : vlsRl (env N G O σ h) (rv.map (resV σ ti)) ys) (ho : outs ti s rv σ = some r) (t : Nat) (hk : retOk s t r = true) :
    ∃ G1 O1, RetOk N G1 O1 (retS s t r) (packV ys) h := by
  unfold outs at ho
  split at ho
  · rename_i a i b j ha hb
    split at ho
    · rename_i hfit
      have he := rcol_exp _ _ ho
      obtain ⟨it1, k1, k2, k3, k4, k5⟩ := outR_its R _ _ ys hy ha t 0 b
      obtain ⟨it2, m1, m2, m3, m4⟩ := outB_its R _ 0 hb t (resL t s.rs 0 (a ++ b)).2.2.1
      simp only [retOk, Bool.and_eq_true] at hk
      obtain ⟨hdis, hlow⟩ := hk
      have hhp : (retS s t r).hp = (it1 ++ it2).flatMap Itm.blks := by
        simp only [retS, he, k3, k4, m3, List.flatMap_append]
      have hus : (retS s t r).us = nms (it1.flatMap Itm.blks) ++ (retB t 0 (resL t s.rs 0 (a ++ b)).2.2.1 (PS.flats s.ps) b).2 := by
        simp only [retS, he, k3, k4]
      rw [hhp] at hdis
      have hits : ∀ x ∈ it1 ++ it2, x.Ok N G O σ h := by
        intro x hx
        rcases List.mem_append.1 hx with hx | hx
        · exact k1 x hx
        · exact m1 x hx
      have hall : (it1 ++ it2).flatMap Itm.all = i ++ j := by rw [List.flatMap_append, k2, m2]
      obtain ⟨p1, p2, p3⟩ := its_made R it1 k1
      have inMks : ∀ (x : Itm), ∀ k ∈ x.mkl, k ∈ x.mks := by
        intro x k hk
        unfold Itm.mks; split
        · exact hk
        · exact List.mem_cons_of_mem _ hk
      have hn1 : ∀ x ∈ it1, ∀ k ∈ x.mks, k.n ∈ (retS s t r).us := by
        intro x hx k hk
        rw [hus, p1]
        refine List.mem_append_left _ ?_
        simp only [nms, List.map_map]
        exact List.mem_map.2 ⟨k, List.mem_flatMap.2 ⟨x, hx, hk⟩, rfl⟩
      have hn2 : ∀ x ∈ it2, ∀ q, x.bx = some q → ∀ k ∈ x.mkl, k.n ∈ (retS s t r).us := by
        intro x hx q hq k hk
        rw [hus]
        refine List.mem_append_right _ ?_
        rcases m4 x hx with ⟨q', g1, g2, g3, g4⟩ | ⟨g1, _⟩
        · exact g4 k hk
        · rw [g1] at hq; cases hq
      have M := moved R hits (by rw [hall]; exact hfit) hdis (us' := (retS s t r).us) (V' := Vis N (mvO O (it1 ++ it2)) (retS s t r).hp h) (fun x hx q hq k hk => by
        rcases List.mem_append.1 hx with hx | hx
        · exact has_mem.2 (hn1 x hx k (inMks x k hk))
        · exact has_mem.2 (hn2 x hx q hq k hk)) (fun k hk hv hn => ⟨vis_of R hv, hk, by rw [hhp]; exact hn⟩)
      refine ⟨mvG (it1 ++ it2), mvO O (it1 ++ it2), R.kp, ?_, ?_, ?_, ?_, ?_, ?_⟩
      · intro v hv
        have hv' : v = (match (resL t s.rs 0 (a ++ b)).1 with | [x] => x | xs => Vl.tup xs) := by
          simp only [retS, he] at hv
          injection hv with hv _
          injection hv with _ hv
          exact hv.symm
        rw [hv']
        refine packV_rl (k5 _ (fun x hx => M.out x (List.mem_append_left _ hx) fun k hk => has_mem.2 (hn1 x hx k (inMks x k hk))) fun x hx q hq => ?_)
        obtain ⟨q1, q2, q3⟩ := M.bx x (List.mem_append_left _ hx) q hq
        refine ⟨has_mem.2 (hn1 x hx ⟨q.2.1, .box q.2.2 x.out, x.pv, some q.1⟩ ?_), q2⟩
        unfold Itm.mks; rw [hq]; exact List.mem_cons_self ..
      · intro m b hl; rw [hhp] at hl; exact M.blk m b hl
      · intro m b k hl; rw [hhp] at hl; exact M.own m b k hl
      · intro n m b b' k hl hl'; rw [hhp] at hl hl'; exact M.inj n m b b' k hl hl'
      · intro n b k hl hO
        rw [hhp] at hl
        obtain ⟨q1, n', bn, q2, q3, q4, q5⟩ := M.src n b k hl hO
        exact ⟨q1, (R.wr n' bn k q2 q4).2.imp id fun hw => ⟨hw.1, fun o ho => hw.2 o (q5 o ho)⟩⟩
      · intro m b v K hl hf
        rw [hhp] at hl
        obtain ⟨k, hk, rfl, rfl⟩ := M.bl m b hl
        obtain ⟨f1, f2, f3⟩ := M.made k hk
        obtain ⟨x, hx, hkx⟩ := List.mem_flatMap.1 hk
        have notlow : k.n ∉ (retS s t r).us := by
          intro hn
          rw [N.hi _ (all_low hlow hn)] at hf; cases hf
        have keep : k.v = G k.n ∧ k.s = some k.n := by
          rcases List.mem_append.1 hx with hx | hx
          · exact absurd (hn1 x hx k hkx) notlow
          · rcases m4 x hx with ⟨q, g1, g2, g3, g4⟩ | ⟨g1, g2⟩
            · unfold Itm.mks at hkx; rw [g1] at hkx
              rcases List.mem_cons.1 hkx with rfl | hkx
              · exact ⟨by show x.pv = G q.2.1; rw [g3, g2], by show some q.1 = some q.2.1; rw [g2]⟩
              · exact absurd (hn2 x hx q g1 k hkx) notlow
            · unfold Itm.mks at hkx; rw [g1] at hkx
              exact g2 k hkx
        obtain ⟨obtained, hw⟩ : ∃ bn, look k.n σ.hp = some bn := by
          have made := (its_made R _ hits).2.1 k hk
          have hs := keep.2
          cases made with
          | nil => cases hs
          | arr n m e d d' xs lo hi kk cap p q hl0 => exact ⟨_, (Option.some.inj hs) ▸ hl0⟩
          | box n m ro ro' cs cs' b o off hl0 => exact ⟨_, (Option.some.inj hs) ▸ hl0⟩
        obtain ⟨r1, r2⟩ := R.fx k.n _ v K hw hf
        refine ⟨by rw [f1, keep.1]; exact r1, fun j => ?_⟩
        rw [f2 j, ← r2 j]
        constructor
        · rintro ⟨n, hn, hOn⟩; rw [keep.2] at hn; cases hn; exact hOn
        · intro hOn; exact ⟨k.n, keep.2, hOn⟩
    · cases ho
  · cases ho
end
end Go.Ev

namespace Go.Ev
open Go
set_option linter.unusedVariables false
set_option linter.constructorNameAsVariable false
set_option linter.unusedSimpArgs false

section
variable {c : Ctx} {x : X c} {N : Ent} {G : Nat → Value} {O : Nat → Nat → Prop} {σ : S} {ts : Array Value} {h : Heap} {u : List Upd} {l : List Loc}

/-- what is given up, what comes back -/
structure Fate (ss : Bool) (d : List Upd) (bk : List Bk) (ids : List (Nat × Bool)) : Prop where
  dels : dels d = true
  del : ∀ n, Upd.del n ∈ d → ∃ y, (n, y) ∈ ids
  lent : ss = true → ∀ n, (n, false) ∈ ids → Upd.del n ∈ d
  own : ∀ n, (n, true) ∈ ids → Upd.del n ∈ d ∨ (∃ j, Bk.arr n j ∈ bk) ∨ (∃ off j, Bk.box n off j ∈ bk) ∨ ∃ j, Bk.ro n j ∈ bk
  bk : ∀ b ∈ bk, match b with | .arr n _ => (n, true) ∈ ids | .box n _ _ => (n, true) ∈ ids | .ro n _ => (n, true) ∈ ids
theorem Fate.nil {ss : Bool} : Fate ss [] [] [] := ⟨rfl, by simp, by simp, by simp, by simp⟩
theorem Fate.app {ss : Bool} {d d' : List Upd} {bk bk' : List Bk} {i i' : List (Nat × Bool)} (f : Fate ss d bk i) (g : Fate ss d' bk' i') : Fate ss (d ++ d') (bk ++ bk') (i ++ i') := by
  refine ⟨dels_app f.dels g.dels, ?_, ?_, ?_, ?_⟩
  · intro n hn
    rcases List.mem_append.1 hn with hn | hn
    · obtain ⟨y, hy⟩ := f.del n hn; exact ⟨y, List.mem_append_left _ hy⟩
    · obtain ⟨y, hy⟩ := g.del n hn; exact ⟨y, List.mem_append_right _ hy⟩
  · intro hs n hn
    rcases List.mem_append.1 hn with hn | hn
    · exact List.mem_append_left _ (f.lent hs n hn)
    · exact List.mem_append_right _ (g.lent hs n hn)
  · intro n hn
    rcases List.mem_append.1 hn with hn | hn
    · rcases f.own n hn with h | ⟨j, h⟩ | ⟨o, j, h⟩ | ⟨j, h⟩
      · exact .inl (List.mem_append_left _ h)
      · exact .inr (.inl ⟨j, List.mem_append_left _ h⟩)
      · exact .inr (.inr (.inl ⟨o, j, List.mem_append_left _ h⟩))
      · exact .inr (.inr (.inr ⟨j, List.mem_append_left _ h⟩))
    · rcases g.own n hn with h | ⟨j, h⟩ | ⟨o, j, h⟩ | ⟨j, h⟩
      · exact .inl (List.mem_append_right _ h)
      · exact .inr (.inl ⟨j, List.mem_append_right _ h⟩)
      · exact .inr (.inr (.inl ⟨o, j, List.mem_append_right _ h⟩))
      · exact .inr (.inr (.inr ⟨j, List.mem_append_right _ h⟩))
  · intro b hb
    rcases List.mem_append.1 hb with hb | hb
    · have := f.bk b hb; cases b <;> exact List.mem_append_left _ this
    · have := g.bk b hb; cases b <;> exact List.mem_append_right _ this

theorem leafB_ids {m : RM} {lf lf' : Lf} {b : Option Bl} {ids : List (Nat × Bool)} (h : leafB m lf b = some (lf', ids)) : ids = (match lf.src with | some n => [(n, m.ex)] | none => []) := by
  cases lf <;> simp only [leafB] at h
  case os n =>
    split at h
    · split at h
      · cases h; rfl
      · cases h
    · cases h
  case cut n z lo hi =>
    split at h
    · split at h
      · cases h; rfl
      · cases h
    · cases h
  case sh e xs => cases m <;> simp only [reduceCtorEq, Option.some.injEq, Prod.mk.injEq] at h; rw [← h.2]; rfl
  all_goals first | (cases h; done) | (cases h; rfl)

theorem leafQ_go {ss : Bool} {ix : Nat} {m : Md} {lf : Lf} {k : Lf → List Upd → List Bk → List (Nat × Bool) → RQ c} (hg : (leafQ ss ix m lf k).Go x σ u l) :
    ∃ lf' d bk i l', (k lf' d bk i).Go x σ u l' ∧ σ.leaf m.rm lf = some (lf', i) ∧ Fate ss d bk i ∧ ∀ b ∈ bk, ∃ n, b = .arr n ix ∧ lf = .os n ∧ m = .m := by
  unfold leafQ at hg
  unfold S.leaf
  split at hg
  · rename_i n hn
    obtain ⟨l', rfl, hg⟩ := hg
    dsimp only at hg
    split at hg
    · rename_i lf' i hl
      have hids := leafB_ids hl
      rw [hn] at hids
      simp only at hids
      cases m with
      | s =>
        simp only at hg
        refine ⟨lf', _, _, i, l', hg, (by first | exact hl | (rw [hn]; exact hl)), ?_, by simp⟩
        subst hids
        cases ss with
        | true => exact ⟨rfl, fun k hk => ⟨false, by simp at hk; simp [hk, Md.rm, RM.ex]⟩, fun _ k hk => by simp [Md.rm, RM.ex] at hk; simp [hk], fun k hk => by simp [Md.rm, RM.ex] at hk, by simp⟩
        | false => exact ⟨rfl, by simp, by simp, fun k hk => by simp [Md.rm, RM.ex] at hk, by simp⟩
      | o =>
        simp only at hg
        refine ⟨lf', _, _, i, l', hg, (by first | exact hl | (rw [hn]; exact hl)), ?_, by simp⟩
        subst hids
        exact ⟨rfl, fun k hk => ⟨true, by simp at hk; simp [hk, Md.rm, RM.ex]⟩, fun _ k hk => by simp [Md.rm, RM.ex] at hk, fun k hk => .inl (by simp [Md.rm, RM.ex] at hk; simp [hk]), by simp⟩
      | m =>
        simp only at hg
        split at hg
        · rename_i q
          simp only [Lf.src, Option.some.injEq] at hn; subst hn
          refine ⟨lf', _, _, i, l', hg, hl, ?_, by simp⟩
          subst hids
          exact ⟨rfl, by simp, fun _ k hk => by simp [Md.rm, RM.ex] at hk, fun k hk => .inr (.inl ⟨ix, by simp [Md.rm, RM.ex] at hk; simp [hk]⟩), by simp [Md.rm, RM.ex]⟩
        · cases hg
    · cases hg
  · rename_i hn
    split at hg
    · rename_i lf' i hl
      have hids := leafB_ids hl
      rw [hn] at hids
      simp only at hids; subst hids
      exact ⟨lf', [], [], [], l, hg, (by first | exact hl | (rw [hn]; exact hl)), Fate.nil, by simp⟩
    · cases hg

/-- leaves that are handed over: as they are there; backs: where in the row -/
theorem leavesQ_go {ss : Bool} : (ms : List Md) → (ls : List Lf) → {g : Got} → {k : Got → RQ c} → {l : List Loc} → (leavesQ ss ms ls g k).Go x σ u l →
    ∃ ls' d bk i l', (k { ls := g.ls ++ ls', ups := g.ups ++ d, bks := g.bks ++ bk, ids := g.ids ++ i, idx := g.idx + ls.length }).Go x σ u l' ∧ σ.leaves (ms.map Md.rm) ls = some (ls', i) ∧ Fate ss d bk i ∧
      ∀ b ∈ bk, ∃ n p, b = .arr n (g.idx + p) ∧ ls[p]? = some (.os n) ∧ ms[p]? = some .m
  | ms, [], g, k, l, hg => by
    have : (k g).Go x σ u l := by cases ms <;> simpa only [leavesQ] using hg
    exact ⟨[], [], [], [], l, by simpa using this, by cases ms <;> rfl, Fate.nil, by simp⟩
  | [], _ :: _, g, k, l, hg => by simp only [leavesQ, RQ.Go] at hg
  | m :: ms, lf :: r, g, k, l, hg => by
    simp only [leavesQ] at hg
    obtain ⟨lf', d, bk, i, l1, hg, h1, h2, h3⟩ := leafQ_go hg
    obtain ⟨ls', d', bk', i', l2, hg, g1, g2, g3⟩ := leavesQ_go ms r hg
    refine ⟨lf' :: ls', d ++ d', bk ++ bk', i ++ i', l2, ?_, ?_, h2.app g2, ?_⟩
    · have e : g.idx + 1 + r.length = g.idx + (r.length + 1) := by omega
      simp only [List.append_assoc, List.singleton_append] at hg
      simpa only [List.length_cons, e] using hg
    · simp only [List.map_cons, S.leaves, h1, g1]
    · intro b hb
      rcases List.mem_append.1 hb with hb | hb
      · obtain ⟨n, e1, e2, e3⟩ := h3 b hb
        exact ⟨n, 0, by rw [Nat.add_zero]; exact e1, by rw [e2]; rfl, by rw [e3]; rfl⟩
      · obtain ⟨n, p, e1, e2, e3⟩ := g3 b hb
        exact ⟨n, p + 1, by rw [e1]; simp only; congr 1; omega, by simpa using e2, by simpa using e3⟩
end
end Go.Ev

namespace Go.Ev
open Go
set_option linter.unusedVariables false
set_option linter.unusedSimpArgs false

section
variable {c : Ctx} {x : X c} {N : Ent} {G : Nat → Value} {O : Nat → Nat → Prop} {σ : S} {ts : Array Value} {h : Heap} {u : List Upd} {l : List Loc}

theorem caps_vls {E : Env} : (cs : List (Bool × List Lf)) → (ys : List Value) → capsRl E cs ys → vlsRl E (cs.map fun q => Vl.of q.1 q.2) ys
  | [], ys, hc => by simpa only [capsRl, List.map_nil, vlsRl] using hc
  | (ag, ls) :: r, ys, hc => by
    simp only [capsRl] at hc
    obtain ⟨v, vs, rfl, hv, hr⟩ := hc
    simp only [List.map_cons, vlsRl]
    refine ⟨v, vs, rfl, ?_, caps_vls r vs hr⟩
    cases ag with
    | true => simp only [Vl.of, Vl.rl]; exact hv
    | false =>
      cases ls with
      | nil => simp [lfsRl] at hv
      | cons a q => cases q with
        | nil =>
          simp only [lfsRl] at hv
          obtain ⟨_, _, he, hv, _⟩ := hv
          cases he
          simp only [Vl.of, Vl.rl]; exact hv
        | cons b q =>
          have := lfs_len hv; simp at this
theorem vls_caps {E : Env} : (vs : List Vl) → (ys : List Value) → (∀ v ∈ vs, v.plain = true) → vlsRl E vs ys → capsRl E (vs.map Vl.cap) ys
  | [], ys, _, hc => by simpa only [capsRl, List.map_nil, vlsRl] using hc
  | v :: r, ys, hp, hc => by
    simp only [vlsRl] at hc
    obtain ⟨y, ys', rfl, hv, hr⟩ := hc
    have ih := vls_caps r ys' (fun v hv => hp v (List.mem_cons_of_mem _ hv)) hr
    cases v with
    | one lf =>
      simp only [List.map_cons, Vl.cap, capsRl]
      refine ⟨y, ys', rfl, ?_, ih⟩
      simp only [Vl.ls, lfsRl]; exact ⟨y, [], rfl, by simpa only [Vl.rl] using hv, rfl⟩
    | agg ls =>
      simp only [List.map_cons, Vl.cap, capsRl]
      exact ⟨y, ys', rfl, by simpa only [Vl.rl] using hv, ih⟩
    | tup vs => have := hp _ (List.mem_cons_self ..); cases this

theorem of_plain (ag : Bool) (ls : List Lf) : (Vl.of ag ls).plain = true := by
  unfold Vl.of
  split
  · rfl
  · split <;> rfl

/-- what comes back of what is handed over -/
def BackOk (G : Nat → Value) (σ : S) (its : List Itm) : Bk → Prop
  | .box n off i => ∃ y ∈ its, y.bx = some (n, pnm i, false) ∧ ∃ b o cs, G n = .pointer (some ⟨b, o, none⟩) ∧ y.pv = .pointer (some ⟨b, o + off.1, none⟩) ∧ look n σ.hp = some (.box false cs) ∧ off.1 + y.ls.length ≤ cs.length ∧ off.2 = y.ls.length
  | .ro n i => ∃ y ∈ its, y.bx = some (n, pnm i, true)
  | .arr n i => ∃ k ∈ its.flatMap Itm.mks, k.n = pnm i ∧ k.s = some n ∧ k.v = G n ∧ ∃ e xs, look n σ.hp = some (.arr e false xs)
theorem BackOk.mono {its its' : List Itm} (hs : ∀ y ∈ its, y ∈ its') {b : Bk} (hb : BackOk G σ its b) : BackOk G σ its' b := by
  cases b with
  | box n off i => obtain ⟨y, hy, hr⟩ := hb; exact ⟨y, hs y hy, hr⟩
  | ro n i => obtain ⟨y, hy, hr⟩ := hb; exact ⟨y, hs y hy, hr⟩
  | arr n i =>
    obtain ⟨k, hk, hr⟩ := hb
    obtain ⟨y, hy, hky⟩ := List.mem_flatMap.1 hk
    exact ⟨k, List.mem_flatMap.2 ⟨y, hs y hy, hky⟩, hr⟩

/-- arguments as items -/
structure Args (N : Ent) (G : Nat → Value) (O : Nat → Nat → Prop) (σ : S) (h : Heap) (ss : Bool) (its : List Itm) (d : List Upd) (bk : List Bk) (ids : List (Nat × Bool)) : Prop where
  ok : ∀ y ∈ its, y.Ok N G O σ h
  all : its.flatMap Itm.all = ids
  fate : Fate ss d bk ids
  back : ∀ b ∈ bk, BackOk G σ its b
theorem Args.app {ss : Bool} {its its' : List Itm} {d d' : List Upd} {bk bk' : List Bk} {i i' : List (Nat × Bool)} (f : Args N G O σ h ss its d bk i) (g : Args N G O σ h ss its' d' bk' i') :
    Args N G O σ h ss (its ++ its') (d ++ d') (bk ++ bk') (i ++ i') := by
  refine ⟨?_, by rw [List.flatMap_append, f.all, g.all], f.fate.app g.fate, ?_⟩
  · intro y hy
    rcases List.mem_append.1 hy with hy | hy
    · exact f.ok y hy
    · exact g.ok y hy
  · intro b hb
    rcases List.mem_append.1 hb with hb | hb
    · exact (f.back b hb).mono fun y hy => List.mem_append_left _ hy
    · exact (g.back b hb).mono fun y hy => List.mem_append_right _ hy

/-- an array that is handed over to be written -/
theorem arr_back (R : Rel N G O σ ts h) : (ms : List RM) → (ls : List Lf) → {ls' : List Lf} → {ids : List (Nat × Bool)} → {vs : List Value} → (b p : Nat) → {n : Nat} → lfsRl (env N G O σ h) ls vs → σ.leaves ms ls = some (ls', ids) → ls[p]? = some (.os n) → ms[p]? = some .o →
    ∃ k ∈ mkL ms b ls ls' vs, k.n = b + p ∧ k.s = some n ∧ k.v = G n ∧ ∃ e xs, look n σ.hp = some (.arr e false xs)
  | [], ls, ls', ids, vs, b, p, n, hv, hs, h1, h2 => by simp at h2
  | m :: ms, [], ls', ids, vs, b, p, n, hv, hs, h1, h2 => by simp at h1
  | m :: ms, lf :: r, ls', ids, vs, b, p, n, hv, hs, h1, h2 => by
    simp only [lfsRl] at hv
    obtain ⟨v, vs', rfl, hv, hr⟩ := hv
    simp only [S.leaves] at hs
    split at hs
    · rename_i l' i hs1
      split at hs
      · rename_i r' j hs2
        cases hs
        cases p with
        | zero =>
          simp at h1 h2
          subst h1; subst h2
          unfold S.leaf at hs1
          simp only [Lf.src, leafB] at hs1
          split at hs1
          · rename_i e d xs hl
            split at hs1
            · rename_i hok
              cases hs1
              have hd : d = false := by cases d <;> simp [RM.ok] at hok ⊢
              subst hd
              simp only [Lf.rl] at hv
              refine ⟨⟨b, .arr e false xs, v, some n⟩, ?_, rfl, rfl, hv.2.1, e, xs, hl⟩
              simp [mkL, unleaf, Lf.src]
            · cases hs1
          · cases hs1
        | succ p =>
          simp at h1 h2
          obtain ⟨k, hk, g1, g2⟩ := arr_back R ms r (b + 1) p hr hs2 h1 h2
          refine ⟨k, ?_, by rw [g1]; omega, g2⟩
          simp only [mkL]
          split
          · exact hk
          · exact List.mem_cons_of_mem _ hk
      · cases hs
    · cases hs
end
end Go.Ev

namespace Go.Ev
open Go
set_option linter.unusedVariables false
set_option linter.unusedSimpArgs false

section
variable {c : Ctx} {x : X c} {N : Ent} {G : Nat → Value} {O : Nat → Nat → Prop} {σ : S} {ts : Array Value} {h : Heap} {u : List Upd}

/-- new names stand for what was handed over -/
def Outs (E' : Env) (its : List Itm) : Prop := (∀ y ∈ its, lfsRl E' y.out y.vs) ∧ ∀ y ∈ its, ∀ q, y.bx = some q → has q.2.1 E'.us = true ∧ E'.G q.2.1 = y.pv
theorem Outs.left {E' : Env} {a b : List Itm} (o : Outs E' (a ++ b)) : Outs E' a := ⟨fun y hy => o.1 y (List.mem_append_left _ hy), fun y hy => o.2 y (List.mem_append_left _ hy)⟩
theorem Outs.right {E' : Env} {a b : List Itm} (o : Outs E' (a ++ b)) : Outs E' b := ⟨fun y hy => o.1 y (List.mem_append_right _ hy), fun y hy => o.2 y (List.mem_append_right _ hy)⟩

mutual
theorem argQ_go (R : Rel N G O σ ts h) {ss : Bool} : (p : PS) → (v : Vl) → {y : Value} → {g : Got} → {k : Got → RQ c} → {l : List Loc} → v.rl (env N G O σ h) y → (argQ ss p v g k).Go x σ u l →
    ∃ its ls' d bk i l' j', (k { ls := g.ls ++ ls', ups := g.ups ++ d, bks := g.bks ++ bk, ids := g.ids ++ i, idx := j' }).Go x σ u l' ∧ Args N G O σ h ss its d bk i ∧
      ∀ rest, ∃ v', inP g.idx p (ls' ++ rest) = (v', its.flatMap Itm.blks, j', rest) ∧ v'.plain = true ∧ ∀ E', Outs E' its → v'.rl E' y
  | .val ag row ms, v, y, g, k, l, hv, hg => by
    simp only [argQ] at hg
    obtain ⟨hc, hg⟩ := hg
    simp only [Bool.and_eq_true] at hc
    obtain ⟨hlen, hf⟩ := hc
    have hlen := Nat.eq_of_beq_eq_true hlen
    have hpl : v.plain = true ∧ v.ag = ag := by cases v <;> cases ag <;> first | exact ⟨rfl, rfl⟩ | cases hf
    obtain ⟨hpl, hag⟩ := hpl
    obtain ⟨ls', d, bk, i, l', hg, h1, h2, h3⟩ := leavesQ_go ms v.ls hg
    obtain ⟨vs, q1, q2⟩ := vl_vs hv hpl
    have hll := leaves_len h1
    let it : Itm := ⟨none, ms.map Md.rm, pnm g.idx, v.ls, ls', i, vs, undef⟩
    refine ⟨[it], ls', d, bk, i, l', _, hg, ⟨?_, by simp [Itm.all, it], h2, ?_⟩, fun rest => ?_⟩
    · intro y hy
      obtain rfl : y = it := by simpa using hy
      exact ⟨h1, q1, fun q hq => by cases hq⟩
    · intro b hb
      obtain ⟨n, p, rfl, e2, e3⟩ := h3 b hb
      obtain ⟨kk, hk, g1, g2, g3, g4⟩ := arr_back R (ms.map Md.rm) v.ls (pnm g.idx) p q1 h1 e2 (by rw [List.getElem?_map, e3]; rfl)
      refine ⟨kk, List.mem_flatMap.2 ⟨it, by simp, hk⟩, by rw [g1]; simp [pnm, Nat.add_assoc], g2, g3, g4⟩
    · have e1 : (ls' ++ rest).take (roww row) = ls' := by rw [← hlen, ← hll, List.take_left']; rfl
      have e2 : (ls' ++ rest).drop (roww row) = rest := by rw [← hlen, ← hll, List.drop_left']; rfl
      refine ⟨Vl.of ag it.out, ?_, of_plain _ _, fun E' o => ?_⟩
      · simp only [inP, e1, e2, hlen, List.flatMap_cons, List.flatMap_nil, List.append_nil]; rfl
      · have := q2 E' it.out (by show (unleaves _ _ _).1.length = _; rw [unleaves_len, hll]) (o.1 it (by simp))
        rw [hag] at this; exact this
  | .ptr row ms ro, v, y, g, k, l, hv, hg => by
    simp only [argQ] at hg
    split at hg
    · rename_i n off
      obtain ⟨l0, rfl, hg⟩ := hg
      dsimp only at hg
      split at hg
      · rename_i r cs hbox
        obtain ⟨hc, hg⟩ := hg
        simp only [Bool.and_eq_true] at hc
        obtain ⟨hro, hle⟩ := hc
        have hle := Nat.le_of_ble_eq_true hle
        obtain ⟨ls', d, bk, i, l', hg, h1, h2, h3⟩ := leavesQ_go ms _ hg
        obtain ⟨_, blk, o, C, T, fr, b1, b2, b3, b4, b5⟩ := R.hp n _ hbox
        have hll := leaves_len h1
        have hlen : ((cs.drop off).take (roww row)).length = roww row := by simp; omega
        have hcut : lfsRl (env N G O σ h) ((cs.drop off).take (roww row)) ((((C.toList.drop o).take cs.length).drop off).take (roww row)) := lfs_take (lfs_drop b5 off) _
        have hcells : (((C.toList.drop o).take cs.length).drop off).take (roww row) = (C.toList.drop (o + off)).take (roww row) := by
          rw [List.drop_take, List.drop_drop, List.take_take]
          congr 1; omega
        rw [hcells] at hcut
        simp only [Vl.rl, Lf.rl] at hv
        obtain ⟨hn, b', o', e1', e2'⟩ := hv
        rw [b1] at e1'; cases e1'
        let it : Itm := ⟨some (n, pnm g.idx, ro), ms.map Md.rm, pnm (g.idx + 1), (cs.drop off).take (roww row), ls', i, (C.toList.drop (o + off)).take (roww row), y⟩
        have ok : it.Ok N G O σ h := by
          refine ⟨h1, hcut, fun q hq => ?_⟩
          cases hq
          refine ⟨r, cs, blk, o, off, C, T, fr, hbox, fun hr => ?_, b1, e2', (by show off + ((cs.drop off).take (roww row)).length ≤ cs.length; rw [hlen]; exact hle), b2, b3, b4, (by show _ = List.take ((cs.drop off).take (roww row)).length _; rw [hlen])⟩
          cases ro with
          | true => rfl
          | false => rw [hr] at hro; cases hro
        refine ⟨[it], ls', d, roBk ro n (off, roww row) g.idx ++ bk, (n, true) :: i, l', g.idx + 1 + roww row, ?_, ⟨?_, by simp [Itm.all, it], ?_, ?_⟩, fun rest => ?_⟩
        · rw [hlen] at hg
          simpa only [List.append_assoc, List.singleton_append] using hg
        · intro y' hy'
          obtain rfl : y' = it := by simpa using hy'
          exact ok
        · have f0 : Fate ss [] (roBk ro n (off, roww row) g.idx) [(n, true)] := by
            cases ro with
            | true => exact ⟨rfl, by simp, by simp, fun m hm => .inr (.inr (.inr ⟨g.idx, by simp at hm; simp [hm, roBk]⟩)), by simp [roBk]⟩
            | false => exact ⟨rfl, by simp, by simp, fun m hm => .inr (.inr (.inl ⟨(off, roww row), g.idx, by simp at hm; simp [hm, roBk]⟩)), by simp [roBk]⟩
          have := f0.app h2
          simpa using this
        · intro b hb
          rcases List.mem_append.1 hb with hb | hb
          · cases ro with
            | true =>
              have : b = .ro n g.idx := by simpa [roBk] using hb
              subst this
              exact ⟨it, by simp, rfl⟩
            | false =>
              have : b = .box n (off, roww row) g.idx := by simpa [roBk] using hb
              subst this
              have hr : r = false := by cases r <;> simp at hro ⊢
              subst hr
              exact ⟨it, by simp, rfl, blk, o, cs, b1, e2', hbox, (by show off + ((cs.drop off).take (roww row)).length ≤ cs.length; rw [hlen]; exact hle), hlen.symm⟩
          · obtain ⟨m, p, rfl, e2, e3⟩ := h3 b hb
            obtain ⟨kk, hk, g1, g2, g3, g4⟩ := arr_back R (ms.map Md.rm) _ (pnm (g.idx + 1)) p hcut h1 e2 (by rw [List.getElem?_map, e3]; rfl)
            refine ⟨kk, List.mem_flatMap.2 ⟨it, by simp, List.mem_cons_of_mem _ hk⟩, by rw [g1]; simp [pnm, Nat.add_assoc], g2, g3, g4⟩
        · have e1 : (ls' ++ rest).take (roww row) = ls' := by rw [← hlen, ← hll, List.take_left']; rfl
          have e2 : (ls' ++ rest).drop (roww row) = rest := by rw [← hlen, ← hll, List.drop_left']; rfl
          refine ⟨.one (.pt (pnm g.idx) 0), ?_, rfl, fun E' o => ?_⟩
          · simp only [inP, e1, e2, List.flatMap_cons, List.flatMap_nil, List.append_nil]; rfl
          · obtain ⟨p1, p2⟩ := o.2 it (by simp) _ rfl
            simp only [Vl.rl, Lf.rl]
            exact ⟨p1, _, _, p2.trans e2', by rw [Nat.add_zero]; exact e2'⟩
      · cases hg
    · cases hg
  | .fnv f ps, v, y, g, k, l, hv, hg => by
    simp only [argQ] at hg
    split at hg
    · rename_i f' caps
      obtain ⟨hf, hg⟩ := hg
      have hf := Nat.eq_of_beq_eq_true hf
      subst hf
      simp only [Vl.rl, Lf.rl] at hv
      obtain ⟨us, rfl, hc⟩ := hv
      obtain ⟨its, ls', d, bk, i, l', j', hg, ha, hr⟩ := argsQ_go R ps _ (caps_vls caps _ hc) hg
      refine ⟨its, ls', d, bk, i, l', j', hg, ha, fun rest => ?_⟩
      obtain ⟨vs', e1, e2, e3⟩ := hr rest
      refine ⟨.one (.fn f (vs'.map Vl.cap)), by simp only [inP, e1], rfl, fun E' o => ?_⟩
      simp only [Vl.rl, Lf.rl]
      exact ⟨us, rfl, vls_caps vs' _ e2 (e3 E' o)⟩
    · cases hg
theorem argsQ_go (R : Rel N G O σ ts h) {ss : Bool} : (ps : List PS) → (vs : List Vl) → {ys : List Value} → {g : Got} → {k : Got → RQ c} → {l : List Loc} → vlsRl (env N G O σ h) vs ys → (argsQ ss ps vs g k).Go x σ u l →
    ∃ its ls' d bk i l' j', (k { ls := g.ls ++ ls', ups := g.ups ++ d, bks := g.bks ++ bk, ids := g.ids ++ i, idx := j' }).Go x σ u l' ∧ Args N G O σ h ss its d bk i ∧
      ∀ rest, ∃ vs', inPs g.idx ps (ls' ++ rest) = (vs', its.flatMap Itm.blks, j', rest) ∧ (∀ v ∈ vs', v.plain = true) ∧ ∀ E', Outs E' its → vlsRl E' vs' ys
  | [], [], ys, g, k, l, hv, hg => by
    simp only [argsQ] at hg
    refine ⟨[], [], [], [], [], l, g.idx, by simpa using hg, ⟨by simp, rfl, Fate.nil, by simp⟩, fun rest => ⟨[], rfl, by simp, fun E' _ => by simpa only [vlsRl] using hv⟩⟩
  | [], _ :: _, ys, g, k, l, hv, hg => by simp only [argsQ, RQ.Go] at hg
  | _ :: _, [], ys, g, k, l, hv, hg => by simp only [argsQ, RQ.Go] at hg
  | p :: ps, v :: vs, ys, g, k, l, hv, hg => by
    simp only [vlsRl] at hv
    obtain ⟨y, ys', rfl, hv, hvs⟩ := hv
    simp only [argsQ] at hg
    obtain ⟨it1, ls1, d1, bk1, i1, l1, j1, hg, a1, r1⟩ := argQ_go R p v hv hg
    obtain ⟨it2, ls2, d2, bk2, i2, l2, j2, hg, a2, r2⟩ := argsQ_go R ps vs hvs hg
    refine ⟨it1 ++ it2, ls1 ++ ls2, d1 ++ d2, bk1 ++ bk2, i1 ++ i2, l2, j2, by simpa only [List.append_assoc] using hg, a1.app a2, fun rest => ?_⟩
    obtain ⟨v', e1, e2, e3⟩ := r1 (ls2 ++ rest)
    obtain ⟨vs', f1, f2, f3⟩ := r2 rest
    refine ⟨v' :: vs', ?_, ?_, fun E' o => ?_⟩
    · simp only [inPs, List.append_assoc, e1, f1, List.flatMap_append]
    · intro w hw
      rcases List.mem_cons.1 hw with rfl | hw
      · exact e2
      · exact f2 w hw
    · simp only [vlsRl]
      exact ⟨y, ys', rfl, e3 E' o.left, f3 E' o.right⟩
end
end
end Go.Ev

/- FnKeys returns true for every input, on the conditions that the row itself states, and on no other (part 'EvReg') -/
import Derived.Test.YtbkgalecdbmkaaaEvCallOp
import Derived.Orders

namespace Go.Ev
open Go
set_option linter.unusedVariables false
set_option linter.unusedSimpArgs false

/-! ### places -/
inductive At where
  | t (v : Option Vl)
  | h (b : Option Bl)
  | u (b : Bool)
def S.at (σ : S) : Loc → At
  | .t n => .t (look n σ.tm)
  | .h n => .h (look n σ.hp)
  | .u n => .u (has n σ.us)
def Upd.val : Upd → At
  | .tm _ v => .t (some v)
  | .hp _ b => .h (some b)
  | .del _ => .h none
  | .us _ => .u true
theorem beq_loc {a b : Loc} : a.beq b = true ↔ a = b := by
  cases a <;> cases b <;> simp [Loc.beq] <;> exact ⟨Nat.eq_of_beq_eq_true, fun h => by rw [h]; exact nbeq_self _⟩
instance : DecidableEq Loc := fun a b => decidable_of_iff (a.beq b = true) beq_loc
theorem hasL_mem {l : Loc} : {ls : List Loc} → (hasL l ls = true ↔ l ∈ ls)
  | [] => by simp [hasL]
  | x :: r => by
    simp only [hasL, List.mem_cons]
    split
    · rename_i h; simp [beq_loc.1 h]
    · rename_i h
      rw [hasL_mem (ls := r)]
      constructor
      · exact .inr
      · rintro (rfl | h')
        · exact absurd (beq_loc.2 rfl) h
        · exact h'
theorem meet_no {a b : List Loc} (h : meet a b = false) {l : Loc} (ha : l ∈ a) (hb : l ∈ b) : False := by
  have : meet a b = true := List.any_eq_true.2 ⟨l, ha, hasL_mem.2 hb⟩
  rw [h] at this; cases this
theorem at_upd (σ : S) (u : Upd) (l : Loc) : S.at (σ.upd u) l = if u.loc = l then u.val else S.at σ l := by
  cases u with
  | tm t v => cases l <;> simp only [S.upd, S.at, Upd.loc, Upd.val, Loc.t.injEq, reduceCtorEq, if_false]; rw [look_put]; split <;> rfl
  | hp n b => cases l <;> simp only [S.upd, S.at, Upd.loc, Upd.val, Loc.h.injEq, reduceCtorEq, if_false]; rw [look_put]; split <;> rfl
  | del n => cases l <;> simp only [S.upd, S.at, Upd.loc, Upd.val, Loc.h.injEq, reduceCtorEq, if_false]; rw [look_erase]; split <;> rfl
  | us n =>
    cases l <;> simp only [S.upd, S.at, Upd.loc, Upd.val, Loc.u.injEq, reduceCtorEq, if_false]
    rw [has_cons]
    split
    · rename_i h; simp [h]
    · rename_i h; simp [h]
def locs (us : List Upd) : List Loc := us.map Upd.loc
theorem at_no : (us : List Upd) → {σ : S} → {l : Loc} → l ∉ locs us → S.at (σ.upds us) l = S.at σ l
  | [], σ, l, _ => rfl
  | u :: r, σ, l, h => by
    simp only [locs, List.map_cons, List.mem_cons, not_or] at h
    show S.at ((σ.upd u).upds r) l = _
    rw [at_no r h.2, at_upd, if_neg (fun e => h.1 e.symm)]
theorem at_yes : (us : List Upd) → {σ σ' : S} → {l : Loc} → (l ∈ locs us ∨ S.at σ l = S.at σ' l) → S.at (σ.upds us) l = S.at (σ'.upds us) l
  | [], σ, σ', l, h => h.elim (fun h => by simp [locs] at h) id
  | u :: r, σ, σ', l, h => by
    show S.at ((σ.upd u).upds r) l = S.at ((σ'.upd u).upds r) l
    refine at_yes r ?_
    by_cases hu : u.loc = l
    · exact .inr (by rw [at_upd, at_upd, if_pos hu, if_pos hu])
    · rcases h with h | h
      · rcases List.mem_cons.1 h with h | h
        · exact absurd h.symm hu
        · exact .inl h
      · exact .inr (by rw [at_upd, at_upd, if_neg hu, if_neg hu]; exact h)

/-- alike in all places -/
def S.eqv (σ σ' : S) : Prop := ∀ l, S.at σ l = S.at σ' l
theorem S.eqv.rfl' {σ : S} : σ.eqv σ := fun _ => rfl
theorem S.eqv.symm {a b : S} (h : a.eqv b) : b.eqv a := fun l => (h l).symm
theorem S.eqv.trans {a b c : S} (h : a.eqv b) (h' : b.eqv c) : a.eqv c := fun l => (h l).trans (h' l)
theorem S.eqv.upds {a b : S} (h : a.eqv b) (us : List Upd) : (a.upds us).eqv (b.upds us) := fun l => at_yes us (.inr (h l))
theorem at_get {σ σ' : S} {t : Nat} (h : S.at σ (.t t) = S.at σ' (.t t)) : σ.get t = σ'.get t := by
  simp only [S.at, At.t.injEq] at h
  unfold S.get; rw [h]

section
variable {c : Ctx} {x : X c} {P : Program} {N : Ent} {G : Nat → Value} {O : Nat → Nat → Prop} {σ σ' : S} {a : Act} {w : World} {u : List Upd} {l : List Loc}
variable {next : Act → World → Prop} {Q : Exit → Act → World → Prop}

theorem RQ.Go_congr : (q : RQ c) → {l : List Loc} → q.Go x σ u l → (∀ p ∈ l, S.at σ p = S.at σ' p) → q.Go x σ' u l
  | .ret u', l, h, _ => h
  | .fail, l, h, _ => h
  | .get t k, l, h, ha => by
    obtain ⟨l', rfl, h⟩ := h
    have := at_get (ha _ (List.mem_cons_self ..))
    refine ⟨l', rfl, ?_⟩
    rw [← this]
    exact RQ.Go_congr _ h fun p hp => ha p (List.mem_cons_of_mem _ hp)
  | .blk n k, l, h, ha => by
    obtain ⟨l', rfl, h⟩ := h
    have := ha _ (List.mem_cons_self ..)
    simp only [S.at, At.h.injEq] at this
    refine ⟨l', rfl, ?_⟩
    rw [← this]
    exact RQ.Go_congr _ h fun p hp => ha p (List.mem_cons_of_mem _ hp)
  | .use n k, l, h, ha => by
    obtain ⟨l', rfl, h1, h2, h⟩ := h
    have := ha _ (List.mem_cons_self ..)
    simp only [S.at, At.u.injEq] at this
    exact ⟨l', rfl, by rw [← this]; exact h1, h2, RQ.Go_congr _ h fun p hp => ha p (List.mem_cons_of_mem _ hp)⟩
  | .chk b k, l, h, ha => ⟨h.1, RQ.Go_congr _ h.2 ha⟩
  | .ele e xs n k, l, h, ha => by obtain ⟨y, h1, h⟩ := h; exact ⟨y, h1, RQ.Go_congr _ h ha⟩
  | .nth e xs n k, l, h, ha => by obtain ⟨y, h1, h⟩ := h; exact ⟨y, h1, RQ.Go_congr _ h ha⟩
  | .byt s n k, l, h, ha => by obtain ⟨y, h1, h⟩ := h; exact ⟨y, h1, RQ.Go_congr _ h ha⟩
  | .call v d k, l, h, ha => by obtain ⟨y, h1, h⟩ := h; exact ⟨y, h1, RQ.Go_congr _ h ha⟩

theorem Rel.eqv {ts : Array Value} {h : Heap} (R : Rel N G O σ ts h) (e : σ.eqv σ') : Rel N G O σ' ts h := by
  have et : ∀ t, look t σ.tm = look t σ'.tm := fun t => by have := e (.t t); simpa [S.at] using this
  have eh : ∀ n, look n σ.hp = look n σ'.hp := fun t => by have := e (.h t); simpa [S.at] using this
  have eu : ∀ n, has n σ.us = has n σ'.us := fun t => by have := e (.u t); simpa [S.at] using this
  refine R.step ⟨⟨fun k hk => ⟨⟨hk.1, hk.2.1, fun m b hm => hk.2.2 m b ((eh m).trans hm)⟩, fun _ => rfl⟩⟩, fun m hm => ⟨(eu m).symm.trans hm, rfl⟩⟩ ?_ ?_ ?_ ?_ ?_ R.kp ?_
  · intro t v hl; exact .inl ⟨(et t).trans hl, rfl, (R.tm t v ((et t).trans hl)).1⟩
  · intro n b hl; exact .inl ⟨(eh n).trans hl, fun k hk => ⟨hk, rfl⟩⟩
  · intro n b k hl; exact R.own n b k ((eh n).trans hl)
  · intro n m b b' k hl hl'; exact R.inj n m b b' k ((eh n).trans hl) ((eh m).trans hl')
  · intro n b k hl; exact R.wr n b k ((eh n).trans hl)
  · intro n b v K hl; exact R.fx n b v K ((eh n).trans hl)

/-- each operation -/
theorem wp_op (ty : ∀ t, TyOk P c.ti t) (FO : ∀ v, FnOk P (c.sig v) (x.callee v)) (R : Rel N G O σ a.tmps w.heap) {o : Oper}
    (hd : ∀ d, o.dst = some d → d < a.tmps.size) (hg : (opQ (c := c) o).Go x σ u l) (hK : After N σ u a w next) : o.wp P a w next Q := by
  cases ho : o.op with
  | move y => exact wp_move R (.inl ho) hd hg hK
  | assign y => exact wp_move R (.inr ho) hd hg hK
  | pick q y z => exact wp_pick R ho hd hg hK
  | binOp op xt xo yo yt => exact wp_bin ty R ho hd hg hK
  | unOp op t y => exact wp_un R ho hd hg hK
  | convert s t y => exact wp_convert ty R ho hd hg hK
  | alloc t => exact wp_alloc ty R ho hd hg hK
  | box t y => exact wp_box R ho hd hg hK
  | load t y => exact wp_load ty R ho hd hg hK
  | store t y z => exact wp_store ty R ho hd hg hK
  | nilCheck y => exact wp_nil R ho hd hg hK
  | fieldAddr t y f => exact wp_fieldAddr ty R ho hd hg hK
  | field t y f => exact wp_field ty R ho hd hg hK
  | indexAddr t y i => exact wp_indexAddr ty R ho hd hg hK
  | index t y i => exact wp_index ty R ho hd hg hK
  | build t ps => exact wp_build' ty R ho hd hg hK
  | buildSlice t n ps => exact wp_buildSlice' ty R ho hd hg hK
  | makeSlice t n m => exact wp_makeSlice' ty R ho hd hg hK
  | slice t y lo hi mx =>
    cases mx with
    | none => exact wp_slice ty R ho hd hg hK
    | some m => simp only [opQ, ho] at hg; cases hg
  | extract y j => exact wp_extract R ho hd hg hK
  | makeFunc f first caps =>
    cases f with
    | func f => exact wp_makeFunc R ho hd hg hK
    | _ => simp only [opQ, ho] at hg; cases hg
  | call cl =>
    obtain ⟨callee, as, ts⟩ := cl
    cases callee with
    | value f => exact wp_call FO R ho hd hg hK
    | invoke r m => simp only [opQ, ho] at hg; cases hg
    | builtin b =>
      cases b with
      | len => exact wp_len ty R ho hd hg hK
      | append => exact wp_append ty R ho hd hg hK
      | max => exact wp_minmax R (.inl rfl) ho hd hg hK
      | min => exact wp_minmax R (.inr rfl) ho hd hg hK
      | clear => exact wp_clear ty R ho hd hg hK
      | copy => exact wp_copy ty R ho hd hg hK
      | _ => simp only [opQ, ho] at hg; cases hg
  | _ => simp only [opQ, ho] at hg; cases hg

/-! ### steps -/
/-- a step, from a state -/
inductive StepAt (x : X c) (nt : Nat) (all : List Oper) (σ : S) (s : Stp) : Prop where
  | go (o : Oper) (l : List Loc) (ho : all[s.i]? = some o) (hd : dstOk nt o = true) (hg : o.guard = none) (h : (opQ (c := c) o).Go x σ s.wr l) (hl : ∀ p ∈ l, p ∈ s.rd)
  | yes (o : Oper) (l : List Loc) (j : Nat) (want : Bool) (t : Nat) (ho : all[s.i]? = some o) (hd : dstOk nt o = true) (hg : o.guard = some (j, want)) (ht : (all[j]?).bind (·.dst) = some t) (hr : .t t ∈ s.rd)
      (hb : σ.get t = .one (.bool want)) (h : (opQ (c := c) o).Go x σ s.wr l) (hl : ∀ p ∈ l, p ∈ s.rd)
  | no (o : Oper) (j : Nat) (want : Bool) (t : Nat) (ho : all[s.i]? = some o) (hd : dstOk nt o = true) (hg : o.guard = some (j, want)) (ht : (all[j]?).bind (·.dst) = some t) (hr : .t t ∈ s.rd)
      (hb : σ.get t = .one (.bool (!want)) ∨ σ.get t = .tup []) (hw : s.wr = skipped o)
inductive Tr (x : X c) (nt : Nat) (all : List Oper) : S → List Stp → S → Prop where
  | nil {σ σ' : S} (h : σ.eqv σ') : Tr x nt all σ [] σ'
  | cons {σ σ1 σ' : S} {s : Stp} {T : List Stp} (h : StepAt x nt all σ s) (e : (σ.upds s.wr).eqv σ1) (r : Tr x nt all σ1 T σ') : Tr x nt all σ (s :: T) σ'

theorem StepAt.congr {nt : Nat} {all : List Oper} {s : Stp} (h : StepAt x nt all σ s) (ha : ∀ p ∈ s.rd, S.at σ p = S.at σ' p) : StepAt x nt all σ' s := by
  cases h with
  | go o l ho hd hg h hl => exact .go o l ho hd hg (RQ.Go_congr _ h fun p hp => ha p (hl p hp)) hl
  | yes o l j want t ho hd hg ht hr hb h hl => exact .yes o l j want t ho hd hg ht hr (by rw [← at_get (ha _ hr)]; exact hb) (RQ.Go_congr _ h fun p hp => ha p (hl p hp)) hl
  | no o j want t ho hd hg ht hr hb hw => exact .no o j want t ho hd hg ht hr (by rw [← at_get (ha _ hr)]; exact hb) hw
theorem Tr.congr {nt : Nat} {all : List Oper} {T : List Stp} {σ2 : S} (h : Tr x nt all σ T σ2) (e : σ.eqv σ') : Tr x nt all σ' T σ2 := by
  cases h with
  | nil h => exact .nil (e.symm.trans h)
  | cons h e1 r => exact .cons (h.congr fun p _ => e p) ((e.symm.upds _).trans e1) r

/-- a step that stands apart is taken first -/
theorem Tr.pull {nt : Nat} {all : List Oper} {s : Stp} {B : List Stp} {σ2 : S} : (A : List Stp) → {σ : S} → Tr x nt all σ (A ++ s :: B) σ2 → (∀ q ∈ A, apart q s = true) →
    StepAt x nt all σ s ∧ Tr x nt all (σ.upds s.wr) (A ++ B) σ2
  | [], σ, h, _ => by
    cases h with
    | cons h e r => exact ⟨h, r.congr e.symm⟩
  | q :: A, σ, h, hap => by
    cases h with
    | cons h e r =>
      obtain ⟨h1, h2⟩ := Tr.pull A r fun q hq => hap q (List.mem_cons_of_mem _ hq)
      have hq := hap q (List.mem_cons_self ..)
      simp only [apart, Bool.and_eq_true, Bool.not_eq_true'] at hq
      obtain ⟨m1, m2⟩ := hq
      have hs : StepAt x nt all σ s := h1.congr fun p hp => by
        rw [← e p]
        exact at_no _ fun hm => meet_no m1 hm (List.mem_append_left _ hp)
      refine ⟨hs, .cons (h.congr fun p hp => (at_no _ fun hm => meet_no m2 hm hp).symm) (fun p => ?_) h2⟩
      rw [at_yes s.wr (σ' := σ.upds q.wr) (.inr (e p).symm)]
      by_cases hp : p ∈ locs q.wr
      · have hn : p ∉ locs s.wr := fun hm => meet_no m1 hp (List.mem_append_right _ hm)
        rw [at_no s.wr hn]
        exact at_yes _ (.inl hp)
      · rw [at_no q.wr hp]
        exact at_yes _ (.inr (at_no _ hp).symm)

/-- what the evaluator does is a trace -/
theorem evOps_tr {nt : Nat} {all : List Oper} {A : Type} {K : S → List Stp → Option A} {r : A} : (rest : List Nat) → {σ : S} → {tr : List Stp} → evOps x nt all rest σ tr K = some r →
    ∃ σ' T, K σ' (T.reverse ++ tr) = some r ∧ Tr x nt all σ T σ' ∧ T.map (·.i) = rest
  | [], σ, tr, h => ⟨σ, [], by simpa [evOps] using h, .nil .rfl', rfl⟩
  | i :: rest, σ, tr, h => by
    simp only [evOps] at h
    split at h
    · cases h
    rename_i o hoi
    split at h
    · cases h
    · rename_i hd
      have fin : ∀ (σ1 : S) (s : Stp), s.i = i → evOps x nt all rest σ1 (s :: tr) K = some r → StepAt x nt all σ s → (σ.upds s.wr).eqv σ1 → ∃ σ' T, K σ' (T.reverse ++ tr) = some r ∧ Tr x nt all σ T σ' ∧ T.map (·.i) = i :: rest := by
        intro σ1 s hs h hst he
        obtain ⟨σ', T, h1, h2, h3⟩ := evOps_tr rest h
        refine ⟨σ', s :: T, by simpa using h1, .cons hst he h2, ?_⟩
        simp only [List.map_cons, hs, h3]
      split at h
      · rename_i hgd
        obtain ⟨u, l, hg, h⟩ := RQ.go_of_run _ _ h
        refine fin _ _ rfl h ?_ .rfl'
        exact .go o l hoi hd hgd hg fun p hp => by simpa using hp
      · rename_i j want hgd
        split at h
        · cases h
        · rename_i t ht
          have same : ∀ b, σ.get t = .one (.bool b) → σ.eqv (σ.upd (.tm t (.one (.bool b)))) := by
            intro b hb p
            rw [at_upd]
            split
            · rename_i he
              subst he
              unfold S.get at hb
              simp only [Upd.loc, S.at, Upd.val]
              cases hl : look t σ.tm with
              | none => rw [hl] at hb; cases hb
              | some v => rw [hl] at hb; simp only at hb; rw [hb]
            · rfl
          split at h
          · rename_i b hb
            cases b with
            | true =>
              simp only at h
              cases want with
              | true =>
                simp only at h
                obtain ⟨u, l, hg, h⟩ := RQ.go_of_run _ _ h
                refine fin _ _ rfl h ?_ ((same _ hb).upds _)
                exact .yes o l j true t hoi hd hgd ht (List.mem_cons_self ..) hb (RQ.Go_congr _ hg fun p _ => (same _ hb p).symm) fun p hp => by simp [hp]
              | false =>
                simp only at h
                exact fin _ _ rfl h (.no o j false t hoi hd hgd ht (List.mem_cons_self ..) (.inl hb) rfl) ((same _ hb).upds _)
            | false =>
              simp only at h
              cases want with
              | false =>
                simp only at h
                obtain ⟨u, l, hg, h⟩ := RQ.go_of_run _ _ h
                refine fin _ _ rfl h ?_ ((same _ hb).upds _)
                exact .yes o l j false t hoi hd hgd ht (List.mem_cons_self ..) hb (RQ.Go_congr _ hg fun p _ => (same _ hb p).symm) fun p hp => by simp [hp]
              | true =>
                simp only at h
                exact fin _ _ rfl h (.no o j true t hoi hd hgd ht (List.mem_cons_self ..) (.inl hb) rfl) ((same _ hb).upds _)
          · rename_i hb
            exact fin _ _ rfl h (.no o j want t hoi hd hgd ht (List.mem_cons_self ..) (.inr hb) rfl) .rfl'
          · cases h

/-- a step is taken -/
theorem step_wp (ty : ∀ t, TyOk P c.ti t) (FO : ∀ v, FnOk P (c.sig v) (x.callee v)) {ops : Array Oper} {nt : Nat} (hnt : nt ≤ a.tmps.size) (R : Rel N G O σ a.tmps w.heap) {s : Stp} (h : StepAt x nt ops.toList σ s) {K : Act → World → Prop}
    (hK : After N σ s.wr a w K) : wpOp P ops Q s.i K a w := by
  have dst : ∀ o : Oper, dstOk nt o = true → ∀ d, o.dst = some d → d < a.tmps.size := by
    intro o ho d hd
    simp only [dstOk, hd] at ho
    exact Nat.lt_of_lt_of_le (Nat.le_of_ble_eq_true ho) hnt
  have skip : ∀ o : Oper, dstOk nt o = true → s.wr = skipped o → K (a.put o.dst undef) w := by
    intro o hd hw
    refine hK G O _ w ?_ .rfl' (put_size _ _ _) (put_defers _ _ _)
    rw [hw]
    unfold skipped
    cases hdst : o.dst with
    | none => simpa [S.upds, Act.put] using R
    | some d =>
      simp only [S.upds, put_tmps]
      refine R.put (dst o hd d hdst) ?_
      simp only [Vl.rl]; exact ⟨#[], rfl, by simp [vlsRl]⟩
  have yield : ∀ (j : Nat) (t : Nat) (v : Vl), (ops.toList[j]?).bind (·.dst) = some t → σ.get t = v → v.plain = true ∨ v = .tup [] → (∀ b, v = .one (.bool b) → yielded ops a.tmps j = some b) ∧ (v = .tup [] → yielded ops a.tmps j = none) := by
    intro j t v ht hv _
    have hj : (ops[j]?).bind (·.dst) = some t := by simpa using ht
    have hr := R.get t
    rw [hv] at hr
    constructor
    · rintro b rfl
      have hy := rl_bool hr
      have hin : t < a.tmps.size := by
        rcases Nat.lt_or_ge t a.tmps.size with h | h
        · exact h
        · simp [Array.getD, Nat.not_lt.2 h, undef] at hy
      simp only [yielded, hj, Option.bind_some]
      rw [Array.getElem?_eq_getElem hin]
      simp only [Array.getD, hin, dif_pos] at hy
      rw [show a.tmps[t] = .bool b from hy]
    · rintro rfl
      simp only [Vl.rl, vlsRl] at hr
      obtain ⟨us, hy, hus⟩ := hr
      simp only [yielded, hj, Option.bind_some]
      split
      · rename_i b hb
        rw [Array.getD_eq_getD_getElem?, hb] at hy; cases hy
      · rfl
  cases h with
  | go o l ho hd hg h hl =>
    have ho' : ops[s.i]? = some o := by simpa using ho
    simp only [wpOp, ho', Region.wanted, hg, if_true]
    exact .inl (wp_op ty FO R (dst o hd) h hK)
  | yes o l j want t ho hd hg ht hr hb h hl =>
    have ho' : ops[s.i]? = some o := by simpa using ho
    have hy := (yield j t _ ht hb (.inl rfl)).1 want rfl
    simp only [wpOp, ho', Region.wanted, hg, hy, beq_self_eq_true, if_true]
    exact .inl (wp_op ty FO R (dst o hd) h hK)
  | no o j want t ho hd hg ht hr hb hw =>
    have ho' : ops[s.i]? = some o := by simpa using ho
    have hy : (yielded ops a.tmps j == some want) = false := by
      rcases hb with hb | hb
      · rw [(yield j t _ ht hb (.inl rfl)).1 _ rfl]; cases want <;> rfl
      · rw [(yield j t _ ht hb (.inr rfl)).2 rfl]; rfl
    simp only [wpOp, ho', Region.wanted, hg, hy, Bool.false_eq_true, if_false]
    exact skip o hd hw
end
end Go.Ev

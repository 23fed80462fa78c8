/- FnKeys returns true for every input, on the conditions that the row itself states, and on no other (part 'EvLim') -/
import Derived.Test.YtbkgalecdbmkaaaEvTypes

namespace Go.Ev
open Go
set_option linter.unusedVariables false
set_option linter.unusedSimpArgs false

section
variable {c : Ctx}

/-- what holds near y -/
structure Near (y : X c) (E : (X c → Prop) → Prop) : Prop where
  mono : ∀ {p q : X c → Prop}, (∀ x, p x → q x) → E p → E q
  and : ∀ {p q : X c → Prop}, E p → E q → E fun x => p x ∧ q x
  all : ∀ {p : X c → Prop}, (∀ x, p x) → E p
  call : ∀ {v d r}, y.callee v d = some r → E fun x => x.callee v d = some r
  loop : ∀ {v key d r}, y.loop v key d = some r → E fun x => x.loop v key d = some r

variable {y : X c} {E : (X c → Prop) → Prop}

theorem near_run (H : Near y E) {σ : S} {A : Type} {r : A} : (q : RQ c) → {l : List Loc} → {K : X c → List Upd → List Loc → Option A} → (∀ u l, K y u l = some r → E fun x => K x u l = some r) → q.run y σ l (K y) = some r → E fun x => q.run x σ l (K x) = some r
  | .ret u, l, K, hK, h => hK _ _ h
  | .fail, l, K, hK, h => by simp [RQ.run] at h
  | .get t k, l, K, hK, h => near_run H (k (σ.get t)) hK h
  | .blk n k, l, K, hK, h => near_run H (k (look n σ.hp)) hK h
  | .use n k, l, K, hK, h => by
    simp only [RQ.run] at h ⊢
    cases hb : (low n && !has n σ.us)
    · rw [hb] at h; cases h
    · rw [hb] at h; exact near_run H k hK h
  | .chk b k, l, K, hK, h => by
    cases b with
    | false => simp [RQ.run] at h
    | true => simp only [RQ.run] at h ⊢; exact near_run H k hK h
  | .ele e xs n k, l, K, hK, h => by
    simp only [RQ.run] at h ⊢
    obtain ⟨u, h1, h2⟩ := Option.bind_eq_some_iff.1 h
    rw [h1]; exact near_run H (k u) hK h2
  | .nth e xs n k, l, K, hK, h => by
    simp only [RQ.run] at h ⊢
    obtain ⟨u, h1, h2⟩ := Option.bind_eq_some_iff.1 h
    rw [h1]; exact near_run H (k u) hK h2
  | .byt s n k, l, K, hK, h => by
    simp only [RQ.run] at h ⊢
    obtain ⟨u, h1, h2⟩ := Option.bind_eq_some_iff.1 h
    rw [h1]; exact near_run H (k u) hK h2
  | .call v d k, l, K, hK, h => by
    simp only [RQ.run] at h ⊢
    obtain ⟨u, h1, h2⟩ := Option.bind_eq_some_iff.1 h
    refine H.mono (fun x hx => ?_) (H.and (H.call h1) (near_run H (k u) hK h2))
    rw [hx.1]; exact hx.2

theorem near_ops (H : Near y E) {nt : Nat} {all : List Oper} {A : Type} {r : A} {K : X c → S → List Stp → Option A} (hK : ∀ σ t, K y σ t = some r → E fun x => K x σ t = some r) : (rest : List Nat) → {σ : S} → {tr : List Stp} →
    evOps y nt all rest σ tr (K y) = some r → E fun x => evOps x nt all rest σ tr (K x) = some r
  | [], σ, tr, h => hK _ _ h
  | i :: rest, σ, tr, h => by
    simp only [evOps] at h ⊢
    split at h
    · cases h
    rename_i o ho
    cases hd : dstOk nt o
    · rw [hd] at h; cases h
    · rw [hd] at h
      simp only at h ⊢
      split at h
      · exact near_run H (K := fun x u l => evOps x nt all rest (σ.upds u) (⟨i, l, u⟩ :: tr) (K x)) _ (fun u l h => near_ops H hK rest h) h
      · rename_i j want hg
        split at h
        · cases h
        · rename_i t ht
          split at h
          · rename_i b hb
            cases b <;> cases want <;> simp only at h ⊢
            · exact near_run H (K := fun x u l => evOps x nt all rest ((σ.upd (.tm t (.one (.bool false)))).upds u) (⟨i, .t t :: l, u⟩ :: tr) (K x)) _ (fun u l h => near_ops H hK rest h) h
            · exact near_ops H hK rest h
            · exact near_ops H hK rest h
            · exact near_run H (K := fun x u l => evOps x nt all rest ((σ.upd (.tm t (.one (.bool true)))).upds u) (⟨i, .t t :: l, u⟩ :: tr) (K x)) _ (fun u l h => near_ops H hK rest h) h
          · exact near_ops H hK rest h
          · cases h

theorem near_reg (H : Near y E) {nt : Nat} {ops : Array Oper} {draw : Bool} {ord : List Nat} {σ : S} {A : Type} {r : A} {K : X c → S → Option A} (hK : ∀ σ, K y σ = some r → E fun x => K x σ = some r) (h : evReg y nt ops draw ord σ (K y) = some r) :
    E fun x => evReg x nt ops draw ord σ (K x) = some r := by
  unfold evReg at h ⊢
  cases draw with
  | false => exact near_ops H (K := fun x σ' _ => K x σ') (fun σ' t h => hK _ h) _ h
  | true =>
    simp only at h ⊢
    split at h
    · refine near_ops H (K := fun x σ' tr => match calm (Region.before ops) tr.reverse with
        | true => K x σ'
        | false => none) (fun σ' t h => ?_) _ h
      cases hc : calm (Region.before ops) t.reverse
      · rw [hc] at h; cases h
      · rw [hc] at h; exact hK _ h
    · cases h

theorem near_un (H : Near y E) {A : Type} {r : A} {l : Live} {d : rden l.row} {K : X c → S → Option A} (hK : ∀ σ, K y σ = some r → E fun x => K x σ = some r) (h : unQ l d (K y) = some r) : E fun x => unQ l d (K x) = some r := by
  unfold unQ at h ⊢
  split at h
  · exact hK _ h
  · cases h
theorem near_unE (H : Near y E) {A : Type} {r : A} : (t : Ext) → (d : eden t) → {K : X c → Ex → S → Option A} → (∀ e σ, K y e σ = some r → E fun x => K x e σ = some r) → unpackE t d (K y) = some r → E fun x => unpackE t d (K x) = some r
  | [], d, K, hK, h => by simp [unpackE] at h
  | [(k, l)], d, K, hK, h => near_un H (K := fun x => K x k) (hK k) h
  | (k, l) :: q :: r', d, K, hK, h => by
    cases d with
    | inl u => exact near_un H (K := fun x => K x k) (hK k) h
    | inr u => exact near_unE H (q :: r') u hK h

theorem near_bind (H : Near y E) {A B : Type} {r : B} {g : X c → Option A} {f : X c → A → Option B} (hg : ∀ a, g y = some a → E fun x => g x = some a) (hf : ∀ a, f y a = some r → E fun x => f x a = some r)
    (h : (g y).bind (f y) = some r) : E fun x => (g x).bind (f x) = some r := by
  obtain ⟨a, h1, h2⟩ := Option.bind_eq_some_iff.1 h
  refine H.mono (fun x hx => ?_) (H.and (hg a h1) (hf a h2))
  rw [hx.1]; exact hx.2

theorem near_code (H : Near y E) {v nt : Nat} : (code : Code) → {A : Type} → {r : A} → {K : X c → Ex → S → Option A} → {σ : S} → (∀ e σ, K y e σ = some r → E fun x => K x e σ = some r) → evCode y v nt code (K y) σ = some r → E fun x => evCode x v nt code (K x) σ = some r
  | .skip, A, r, K, σ, hK, h => by simp only [evCode] at h ⊢; exact hK _ _ h
  | .region id ops draw, A, r, K, σ, hK, h => by
    simp only [evCode] at h ⊢
    split at h
    · exact near_reg H (K := fun x => K x .normal) (hK .normal) h
    · rename_i l hl
      exact near_bind H (g := fun x => evReg x nt ops draw (ordOf (c.hint v).ords id ops.size) σ (pack l)) (f := fun x d => unQ l d (K x .normal)) (fun a h => near_reg H (K := fun _ => pack l) (fun σ h => H.all fun _ => h) h) (fun d h => near_un H (K := fun x => K x .normal) (hK .normal) h) h
  | .seq p q, A, r, K, σ, hK, h => by
    simp only [evCode] at h ⊢
    refine near_code H p (K := fun x e σ' => match e with | .normal => evCode x v nt q (K x) σ' | e => K x e σ') (fun e σ' h => ?_) h
    cases e with
    | normal => exact near_code H q hK h
    | exit id => exact hK _ _ h
    | ret => exact hK _ _ h
  | .cond (.tmp t) p q, A, r, K, σ, hK, h => by
    simp only [evCode] at h ⊢
    split at h
    · rename_i b hb
      split at h
      · cases b with
        | true => exact near_code H p hK h
        | false => exact near_code H q hK h
      · rename_i ext _
        refine near_bind H (g := fun x => match b with | true => evCode x v nt p (packE ext) σ | false => evCode x v nt q (packE ext) σ) (f := fun x d => unpackE ext d (K x)) (fun a h => ?_) (fun d h => near_unE H ext d hK h) h
        cases b with
        | true => exact near_code H p (K := fun _ => packE ext) (fun e σ h => H.all fun _ => h) h
        | false => exact near_code H q (K := fun _ => packE ext) (fun e σ h => H.all fun _ => h) h
    · cases h
  | .block id p, A, r, K, σ, hK, h => by
    simp only [evCode] at h ⊢
    have out : ∀ e σ', Ex.out id (K y) e σ' = some r → E fun x => Ex.out id (K x) e σ' = some r := by
      intro e σ' h
      cases e with
      | normal => exact hK _ _ h
      | exit j =>
        simp only [Ex.out] at h ⊢
        split at h
        · exact hK _ _ h
        · exact hK _ _ h
      | ret => exact hK _ _ h
    split at h
    · exact near_code H p (K := fun x => Ex.out id (K x)) out h
    · rename_i ext _
      exact near_bind H (g := fun x => evCode x v nt p (packE ext) σ) (f := fun x d => unpackE ext d (Ex.out id (K x))) (fun a h => near_code H p (K := fun _ => packE ext) (fun e σ h => H.all fun _ => h) h) (fun d h => near_unE H ext d (K := fun x => Ex.out id (K x)) out h) h
  | .loop p, A, r, K, σ, hK, h => by
    simp only [evCode] at h ⊢
    refine near_bind H (g := fun _ => pack (c.lp v (firstReg p)).1 σ) (f := fun x d => (x.loop v (firstReg p) d).bind fun r => unpackE (c.lp v (firstReg p)).2 r (K x)) (fun a h => H.all fun _ => h) (fun d h => ?_) h
    exact near_bind H (g := fun x => x.loop v (firstReg p) d) (f := fun x r => unpackE (c.lp v (firstReg p)).2 r (K x)) (fun a h => H.loop h) (fun d h => near_unE H _ d hK h) h
  | .exit id, A, r, K, σ, hK, h => by simp only [evCode] at h ⊢; exact hK _ _ h
  | .ret, A, r, K, σ, hK, h => by simp only [evCode] at h ⊢; exact hK _ _ h
  | .cond (.const _) p q, A, r, K, σ, hK, h => by simp [evCode] at h
  | .cond (.global _) p q, A, r, K, σ, hK, h => by simp [evCode] at h
  | .cond (.func _) p q, A, r, K, σ, hK, h => by simp [evCode] at h
  | .rangeFunc .., A, r, K, σ, hK, h => by simp [evCode] at h
  | .goto _, A, r, K, σ, hK, h => by simp [evCode] at h
  | .label _, A, r, K, σ, hK, h => by simp [evCode] at h
  | .refuse .., A, r, K, σ, hK, h => by simp [evCode] at h

theorem near_round (H : Near y E) {v nt key : Nat} {body : Code} {d : rden (c.lp v key).1.row} {r : eden (c.lp v key).2} (h : evRound y v nt key body d = some r) : E fun x => evRound x v nt key body d = some r := by
  unfold evRound at h ⊢
  refine near_un H (K := fun x => evCode x v nt body (fun e σ' => match e with
    | .normal => (pack (c.lp v key).1 σ').bind (x.loop v key)
    | e => packE (c.lp v key).2 e σ')) (fun σ h => ?_) h
  refine near_code H body (K := fun x e σ' => match e with
    | .normal => (pack (c.lp v key).1 σ').bind (x.loop v key)
    | e => packE (c.lp v key).2 e σ') (fun e σ h => ?_) h
  cases e with
  | normal => exact near_bind H (g := fun _ => pack (c.lp v key).1 σ) (f := fun x => x.loop v key) (fun a h => H.all fun _ => h) (fun d h => H.loop h) h
  | exit id => exact H.all fun _ => h
  | ret => exact H.all fun _ => h
theorem near_fun (H : Near y E) {v : Nat} {d : rden (c.sig v).args} {r : rden (c.sig v).res} (h : evFun y v d = some r) : E fun x => evFun x v d = some r := by
  unfold evFun at h ⊢
  split at h
  · rename_i b hb
    split at h
    · exact near_code H b (K := fun x e σ => match e with
      | .exit _ => none
      | _ => match (c.fn (c.sig v).f).results.toList.all (resOk σ c.ti) with
        | true => outs c.ti (c.sig v) (c.fn (c.sig v).f).results.toList σ
        | false => none) (fun e σ h => H.all fun _ => h) h
    · cases h
  · cases h

variable (c)
/-- the functions that are told -/
abbrev Prims := (v : Nat) → Option (rden (c.sig v).args → Option (rden (c.sig v).res))
variable {c} {prim : Prims c}

/-- what y knows, z knows -/
structure X.Le (y z : X c) : Prop where
  call : ∀ {v d r}, y.callee v d = some r → z.callee v d = some r
  loop : ∀ {v key d r}, y.loop v key d = some r → z.loop v key d = some r
theorem X.Le.near {y z : X c} (h : y.Le z) : Near y fun p => p z := ⟨fun h p => h z p, fun a b => ⟨a, b⟩, fun h => h z, h.call, h.loop⟩

theorem evX_step (k : Nat) : (evX c prim k).Le (evX c prim (k + 1)) := by
  induction k with
  | zero => exact ⟨fun h => (by cases h), fun h => (by cases h)⟩
  | succ k ih =>
    have ih := ih.near
    refine ⟨fun {v d r} h => ?_, fun {v key d r} h => ?_⟩
    · rw [evX] at h ⊢
      simp only at h ⊢
      split at h
      · exact h
      · exact near_fun ih h
    · rw [evX] at h ⊢
      simp only at h ⊢
      split at h
      · split at h
        · exact near_round ih h
        · cases h
      · cases h
theorem evX_le {k m : Nat} (h : k ≤ m) : (evX c prim k).Le (evX c prim m) := by
  induction h with
  | refl => exact ⟨id, id⟩
  | step _ ih => exact ⟨fun h => (evX_step _).call (ih.call h), fun h => (evX_step _).loop (ih.loop h)⟩

open Classical in
/-- as many rounds and calls as it takes -/
noncomputable def lim (c : Ctx) (prim : Prims c) : X c where
  callee v d := if h : ∃ r k, (evX c prim k).callee v d = some r then some h.choose else none
  loop v key d := if h : ∃ r k, (evX c prim k).loop v key d = some r then some h.choose else none

theorem lim_callee {v : Nat} {d : rden (c.sig v).args} {r : rden (c.sig v).res} : (lim c prim).callee v d = some r ↔ ∃ k, (evX c prim k).callee v d = some r := by
  simp only [lim]
  constructor
  · intro h
    split at h
    · rename_i hx
      cases h; exact hx.choose_spec
    · cases h
  · rintro ⟨k, h⟩
    have hx : ∃ r k, (evX c prim k).callee v d = some r := ⟨r, k, h⟩
    rw [dif_pos hx]
    obtain ⟨m, hm⟩ := hx.choose_spec
    have h1 := (evX_le (prim := prim) (Nat.le_max_left k m)).call h
    have h2 := (evX_le (prim := prim) (Nat.le_max_right k m)).call hm
    rw [h1] at h2
    exact h2.symm
theorem lim_loop {v key : Nat} {d : rden (c.lp v key).1.row} {r : eden (c.lp v key).2} : (lim c prim).loop v key d = some r ↔ ∃ k, (evX c prim k).loop v key d = some r := by
  simp only [lim]
  constructor
  · intro h
    split at h
    · rename_i hx
      cases h; exact hx.choose_spec
    · cases h
  · rintro ⟨k, h⟩
    have hx : ∃ r k, (evX c prim k).loop v key d = some r := ⟨r, k, h⟩
    rw [dif_pos hx]
    obtain ⟨m, hm⟩ := hx.choose_spec
    have h1 := (evX_le (prim := prim) (Nat.le_max_left k m)).loop h
    have h2 := (evX_le (prim := prim) (Nat.le_max_right k m)).loop hm
    rw [h1] at h2
    exact h2.symm
theorem lim_near : Near (lim c prim) fun p => ∃ k, ∀ m, k ≤ m → p (evX c prim m) := by
  refine ⟨fun h ⟨k, hk⟩ => ⟨k, fun m hm => h _ (hk m hm)⟩, fun ⟨k, hk⟩ ⟨k', hk'⟩ => ⟨max k k', fun m hm => ⟨hk m (by omega), hk' m (by omega)⟩⟩, fun h => ⟨0, fun m _ => h _⟩, fun h => ?_, fun h => ?_⟩
  · obtain ⟨k, hk⟩ := lim_callee.1 h
    exact ⟨k, fun m hm => (evX_le hm).call hk⟩
  · obtain ⟨k, hk⟩ := lim_loop.1 h
    exact ⟨k, fun m hm => (evX_le hm).loop hk⟩
theorem evX_lim (k : Nat) : (evX c prim k).Le (lim c prim) := ⟨fun h => lim_callee.2 ⟨k, h⟩, fun h => lim_loop.2 ⟨k, h⟩⟩

theorem opt_ext {A : Type} {p q : Option A} (h : ∀ r, p = some r ↔ q = some r) : p = q := by
  cases p with
  | none =>
    cases q with
    | none => rfl
    | some b => exact (h b).2 rfl
  | some a => exact ((h a).1 rfl).symm

/-- a function's equation -/
theorem lim_fun {v : Nat} (hp : prim v = none) (d : rden (c.sig v).args) : (lim c prim).callee v d = evFun (lim c prim) v d := by
  refine opt_ext fun r => ⟨fun h => ?_, fun h => ?_⟩
  · obtain ⟨k, hk⟩ := lim_callee.1 h
    cases k with
    | zero => cases hk
    | succ k =>
      rw [evX] at hk
      simp only [hp] at hk
      exact near_fun (evX_lim k).near hk
  · obtain ⟨k, hk⟩ := near_fun lim_near h
    refine lim_callee.2 ⟨k + 1, ?_⟩
    rw [evX]
    simp only [hp]
    exact hk k (Nat.le_refl k)
theorem lim_prim {v : Nat} {f : rden (c.sig v).args → Option (rden (c.sig v).res)} (hp : prim v = some f) (d : rden (c.sig v).args) : (lim c prim).callee v d = f d := by
  refine opt_ext fun r => ⟨fun h => ?_, fun h => ?_⟩
  · obtain ⟨k, hk⟩ := lim_callee.1 h
    cases k with
    | zero => cases hk
    | succ k =>
      rw [evX] at hk
      simp only [hp] at hk
      exact hk
  · refine lim_callee.2 ⟨1, ?_⟩
    rw [evX]
    simp only [hp]
    exact h
/-- a loop's equation -/
theorem lim_round {v key : Nat} {b a : Code} (hb : (c.fn (c.sig v).f).body = some b) (ha : look key (loopsIn b) = some a) (d : rden (c.lp v key).1.row) :
    (lim c prim).loop v key d = evRound (lim c prim) v (c.fn (c.sig v).f).ntmps key a d := by
  refine opt_ext fun r => ⟨fun h => ?_, fun h => ?_⟩
  · obtain ⟨k, hk⟩ := lim_loop.1 h
    cases k with
    | zero => cases hk
    | succ k =>
      rw [evX] at hk
      simp only [hb, ha] at hk
      exact near_round (evX_lim k).near hk
  · obtain ⟨k, hk⟩ := near_round lim_near h
    refine lim_loop.2 ⟨k + 1, ?_⟩
    rw [evX]
    simp only [hb, ha]
    exact hk k (Nat.le_refl k)

theorem lim_ok {P : Program} (S : Setup P c prim) (v : Nat) : FnOk P (c.sig v) ((lim c prim).callee v) := by
  intro d r h
  obtain ⟨k, hk⟩ := lim_callee.1 h
  exact (sound S k).1 v d r hk
end
end Go.Ev

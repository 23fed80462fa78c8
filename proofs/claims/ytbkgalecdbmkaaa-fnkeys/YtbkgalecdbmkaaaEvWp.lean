/- FnKeys returns true for every input, on the conditions that the row itself states, and on no other (part 'EvWp') -/
import Derived.Test.YtbkgalecdbmkaaaEvReg2
import Derived.Deep.LoopGhost

namespace Go.Ev
open Go
set_option linter.unusedVariables false
set_option linter.unusedSimpArgs false

def Ex.ex : Ex → Exit
  | .normal => .normal
  | .exit id => .exit id
  | .ret => .ret
theorem beq_ex {a b : Ex} (h : a.beq b = true) : a = b := by
  cases a <;> cases b <;> simp [Ex.beq] at h ⊢
  exact h

/-- where one goes on, and how -/
def unE (t : Ext) (d : eden t) : Option (Ex × S) := unpackE t d fun e σ => some (e, σ)

section
variable {c : Ctx} {x : X c} {P : Program} {N : Ent} {G : Nat → Value} {O : Nat → Nat → Prop} {σ σ' : S} {a : Act} {w : World} {u : List Upd} {l : List Loc}
variable {Q : Exit → Act → World → Prop}

theorem unQ_some {A : Type} {l : Live} {d : rden l.row} {K : S → Option A} {r : A} (h : unQ l d K = some r) : unOk l (unpack l d) = true ∧ K (unpack l d) = some r := by
  unfold unQ at h
  split at h
  · rename_i hb; exact ⟨hb, h⟩
  · cases h
theorem unpackE_some {A : Type} : (t : Ext) → (d : eden t) → {K : Ex → S → Option A} → {r : A} → unpackE t d K = some r → ∃ e σ, unE t d = some (e, σ) ∧ K e σ = some r
  | [], d, K, r, h => by simp [unpackE] at h
  | [(k, l)], d, K, r, h => by
    simp only [unpackE] at h
    obtain ⟨h1, h2⟩ := unQ_some h
    exact ⟨k, _, by simp only [unE, unpackE, unQ, h1], h2⟩
  | (k, l) :: q :: r', d, K, r, h => by
    cases d with
    | inl u =>
      simp only [unpackE] at h
      obtain ⟨h1, h2⟩ := unQ_some h
      exact ⟨k, _, by simp only [unE, unpackE, unQ, h1], h2⟩
    | inr u =>
      simp only [unpackE] at h
      obtain ⟨e, σ, h1, h2⟩ := unpackE_some (q :: r') u h
      exact ⟨e, σ, by simpa only [unE, unpackE] using h1, h2⟩
theorem packE_rel {ts : Array Value} {h : Heap} : (t : Ext) → {e e' : Ex} → {σ σ' : S} → {d : eden t} → packE t e σ = some d → unE t d = some (e', σ') → Rel N G O σ ts h → e' = e ∧ ∃ G' O', Rel N G' O' σ' ts h
  | [], e, e', σ, σ', d, h, _, _ => by simp [packE] at h
  | [(k, l)], e, e', σ, σ', d, h, hu, R => by
    simp only [packE] at h
    split at h
    · rename_i hk
      simp only [unE, unpackE] at hu
      obtain ⟨h1, h2⟩ := unQ_some hu
      cases h2
      exact ⟨beq_ex hk, pack_rel R h h1⟩
    · cases h
  | (k, l) :: q :: r, e, e', σ, σ', d, h, hu, R => by
    simp only [packE] at h
    split at h
    · rename_i hk
      split at h
      · rename_i u hp
        cases h
        simp only [unE, unpackE] at hu
        obtain ⟨h1, h2⟩ := unQ_some hu
        cases h2
        exact ⟨beq_ex hk, pack_rel R hp h1⟩
      · cases h
    · split at h
      · rename_i u hp
        cases h
        simp only [unE, unpackE] at hu
        exact packE_rel (q :: r) hp hu R
      · cases h

theorem Owe.mono {q q' : Act → World → Prop} (h : Owe N σ a w q) (hq : ∀ a w, q a w → q' a w) : Owe N σ a w q' := fun G' O' a' w' R hs h1 h2 => hq _ _ (h G' O' a' w' R hs h1 h2)
/-- from further on -/
theorem Owe.later {q : Act → World → Prop} {a' : Act} {w' : World} (h : Owe N σ a w q) (hs : Same w w') (h1 : a'.tmps.size = a.tmps.size) (h2 : a'.defers = a.defers) : Owe N σ a' w' q :=
  fun G' O' a2 w2 R hs2 g1 g2 => h G' O' a2 w2 R (hs.trans hs2) (g1.trans h1) (g2.trans h2)
theorem Owe.packed {q : Act → World → Prop} {l : Live} {d : rden l.row} (hp : pack l σ = some d) (hok : unOk l (unpack l d) = true) (h : Owe N (unpack l d) a w q) : Owe N σ a w q := by
  intro G' O' a' w' R hs h1 h2
  obtain ⟨G2, O2, R2⟩ := pack_rel R hp hok
  exact h G2 O2 a' w' R2 hs h1 h2
theorem Owe.packedE {t : Ext} {e e' : Ex} {d : eden t} {q : Ex → Act → World → Prop} (hp : packE t e σ = some d) (hu : unE t d = some (e', σ')) (h : Owe N σ' a w (q e')) : Owe N σ a w (q e) := by
  intro G' O' a' w' R hs h1 h2
  obtain ⟨rfl, G2, O2, R2⟩ := packE_rel t hp hu R
  exact h G2 O2 a' w' R2 hs h1 h2

/-- a loop, by what is told of it -/
def LoopWp (P : Program) (c : Ctx) (x : X c) (v nt key : Nat) (body : Code) : Prop :=
  ∀ (N : Ent) (G : Nat → Value) (O : Nat → Nat → Prop) (σ : S) (a : Act) (w : World) (Q : Exit → Act → World → Prop) (d : rden (c.lp v key).1.row) (r : eden (c.lp v key).2) (e : Ex) (σ' : S),
    nt ≤ a.tmps.size → pack (c.lp v key).1 σ = some d → Rel N G O σ a.tmps w.heap → x.loop v key d = some r → unE (c.lp v key).2 r = some (e, σ') → Owe N σ' a w (Q e.ex) → (Code.loop body).wp P Q a w

theorem code_wp (ty : ∀ t, TyOk P c.ti t) (FO : ∀ v, FnOk P (c.sig v) (x.callee v)) (hmix : P.follows .mixedOrders = true) {v nt : Nat} : (code : Code) → (∀ p ∈ loopsIn code, LoopWp P c x v nt p.1 p.2) →
    {A : Type} → {K : Ex → S → Option A} → {r : A} → {σ : S} → {G : Nat → Value} → {O : Nat → Nat → Prop} → {a : Act} → {w : World} → {Q : Exit → Act → World → Prop} →
    evCode x v nt code K σ = some r → nt ≤ a.tmps.size → Rel N G O σ a.tmps w.heap → (∀ e σ', K e σ' = some r → Owe N σ' a w (Q e.ex)) → code.wp P Q a w
  | .skip, _, A, K, r, σ, G, O, a, w, Q, h, hn, R, hK => by
    simp only [evCode] at h
    exact wp_skip (hK .normal σ h G O a w R .rfl' rfl rfl)
  | .region id ops draw, _, A, K, r, σ, G, O, a, w, Q, h, hn, R, hK => by
    simp only [evCode] at h
    split at h
    · exact reg_wp ty FO hmix hn R h fun σ' h' => hK .normal σ' h'
    · rename_i l hl
      obtain ⟨d, h1, h2⟩ := Option.bind_eq_some_iff.1 h
      obtain ⟨h3, h4⟩ := unQ_some h2
      exact reg_wp ty FO hmix hn R h1 fun σ' h' => Owe.packed h' h3 (hK .normal _ h4)
  | .seq p q, hl, A, K, r, σ, G, O, a, w, Q, h, hn, R, hK => by
    simp only [evCode] at h
    simp only [loopsIn, List.mem_append] at hl
    refine wp_seq (code_wp ty FO hmix p (fun y hy => hl y (.inl hy)) h hn R fun e σ' he => ?_)
    cases e with
    | normal =>
      intro G' O' a' w' R' hs h1 h2
      exact code_wp ty FO hmix q (fun y hy => hl y (.inr hy)) he (by rw [h1]; exact hn) R' fun e σ2 he2 => (hK e σ2 he2).later hs h1 h2
    | exit id => exact hK _ _ he
    | ret => exact hK _ _ he
  | .cond (.tmp t) p q, hl, A, K, r, σ, G, O, a, w, Q, h, hn, R, hK => by
    simp only [evCode] at h
    simp only [loopsIn, List.mem_append] at hl
    split at h
    · rename_i b hb
      have hr := R.get t
      rw [hb] at hr
      have hev : a.eval (.tmp t) = .bool b := rl_bool hr
      refine wp_cond hev ?_
      split at h
      · cases b with
        | true => exact code_wp ty FO hmix p (fun y hy => hl y (.inl hy)) h hn R hK
        | false => exact code_wp ty FO hmix q (fun y hy => hl y (.inr hy)) h hn R hK
      · rename_i ext _
        obtain ⟨d, h1, h2⟩ := Option.bind_eq_some_iff.1 h
        obtain ⟨e0, σ0, h3, h4⟩ := unpackE_some _ _ h2
        have hK' : ∀ e σ', packE ext e σ' = some d → Owe N σ' a w (Q e.ex) := fun e σ' he => Owe.packedE (q := fun e => Q e.ex) he h3 (hK e0 σ0 h4)
        cases b with
        | true => exact code_wp ty FO hmix p (fun y hy => hl y (.inl hy)) h1 hn R hK'
        | false => exact code_wp ty FO hmix q (fun y hy => hl y (.inr hy)) h1 hn R hK'
    · cases h
  | .block id p, hl, A, K, r, σ, G, O, a, w, Q, h, hn, R, hK => by
    simp only [evCode] at h
    simp only [loopsIn] at hl
    have out : ∀ e σ', Ex.out id K e σ' = some r → Owe N σ' a w ((Exit.inBlock id Q) e.ex) := by
      intro e σ' he
      cases e with
      | normal => exact hK _ _ he
      | exit j =>
        simp only [Ex.out] at he
        split at he
        · rename_i hj
          have := Nat.eq_of_beq_eq_true hj
          subst this
          exact (hK _ _ he).mono fun a w hq => by simp only [Ex.ex, Exit.inBlock, if_true]; exact hq
        · rename_i hj
          have : j ≠ id := fun e => by subst e; rw [nbeq_self] at hj; cases hj
          exact (hK _ _ he).mono fun a w hq => by simp only [Ex.ex, Exit.inBlock, this, if_false]; exact hq
      | ret => exact hK _ _ he
    split at h
    · exact wp_block (code_wp ty FO hmix p hl h hn R out)
    · rename_i ext _
      obtain ⟨d, h1, h2⟩ := Option.bind_eq_some_iff.1 h
      obtain ⟨e0, σ0, h3, h4⟩ := unpackE_some _ _ h2
      exact wp_block (code_wp ty FO hmix p hl h1 hn R fun e σ' he => Owe.packedE (q := fun e => (Exit.inBlock id Q) e.ex) he h3 (out e0 σ0 h4))
  | .loop p, hl, A, K, r, σ, G, O, a, w, Q, h, hn, R, hK => by
    simp only [evCode] at h
    obtain ⟨d, h1, h2⟩ := Option.bind_eq_some_iff.1 h
    obtain ⟨r', h3, h4⟩ := Option.bind_eq_some_iff.1 h2
    obtain ⟨e0, σ0, h5, h6⟩ := unpackE_some _ _ h4
    exact hl (firstReg p, p) (List.mem_cons_self ..) N G O σ a w Q d r' e0 σ0 hn h1 R h3 h5 (hK e0 σ0 h6)
  | .exit id, _, A, K, r, σ, G, O, a, w, Q, h, hn, R, hK => by
    simp only [evCode] at h
    exact wp_exit (hK (.exit id) σ h G O a w R .rfl' rfl rfl)
  | .ret, _, A, K, r, σ, G, O, a, w, Q, h, hn, R, hK => by
    simp only [evCode] at h
    exact wp_ret (hK .ret σ h G O a w R .rfl' rfl rfl)
  | .cond (.const _) p q, _, A, K, r, σ, G, O, a, w, Q, h, hn, R, hK => by simp [evCode] at h
  | .cond (.global _) p q, _, A, K, r, σ, G, O, a, w, Q, h, hn, R, hK => by simp [evCode] at h
  | .cond (.func _) p q, _, A, K, r, σ, G, O, a, w, Q, h, hn, R, hK => by simp [evCode] at h
  | .rangeFunc .., _, A, K, r, σ, G, O, a, w, Q, h, hn, R, hK => by simp [evCode] at h
  | .goto _, _, A, K, r, σ, G, O, a, w, Q, h, hn, R, hK => by simp [evCode] at h
  | .label _, _, A, K, r, σ, G, O, a, w, Q, h, hn, R, hK => by simp [evCode] at h
  | .refuse .., _, A, K, r, σ, G, O, a, w, Q, h, hn, R, hK => by simp [evCode] at h
end
end Go.Ev

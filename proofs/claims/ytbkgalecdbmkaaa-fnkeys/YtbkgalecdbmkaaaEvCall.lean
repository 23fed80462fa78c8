/- FnKeys returns true for every input, on the conditions that the row itself states, and on no other (part 'EvCall') -/
import Derived.Test.YtbkgalecdbmkaaaEvFlat

namespace Go.Ev
open Go
set_option linter.unusedVariables false
set_option linter.unusedSimpArgs false

section
variable {N : Ent} {G : Nat → Value} {O : Nat → Nat → Prop} {σ : S} {ts : Array Value} {h : Heap}

/-- a block that could not be written is as it was -/
theorem Kp.same {W : Nat → Nat → Prop} {h0 h : Heap} (K : Kp W h0 h) {k : Nat} (hk : k < h0.size) (hw : ∀ i, ¬ W k i) : h[k]? = h0[k]? := by
  have hx : h0[k]? = some h0[k] := Array.getElem?_eq_getElem hk
  have := K.old k _ hx
  rw [hx]
  generalize h0[k] = x at this
  cases x with
  | cells c T fr =>
    obtain ⟨c', h1, h2, h3⟩ := this
    have : c' = c := by
      apply Array.ext_getElem?
      intro i
      exact h3 i (hw i)
    rw [h1, this]
  | _ => exact this

/-- what comes back of a name that was handed over for a while -/
structure Came (N : Ent) (G : Nat → Value) (O : Nat → Nat → Prop) (σ : S) (h : Heap) (its : List Itm) (ids : List (Nat × Bool)) (G1 : Nat → Value) (O1 : Nat → Nat → Prop) (ρ : S) (n i : Nat) : Prop where
  ids : (n, true) ∈ ids
  own : ∀ b, look (pnm i) ρ.hp = some b → ∀ k, O1 (pnm i) k ↔ O n k
  mv : ∀ k, mvO O its (pnm i) k ↔ O n k

theorem came {its : List Itm} {us' : List Nat} {V' : Nat → Prop} (M : Moved N G O σ h its us' V') {ids : List (Nat × Bool)} (hall : its.flatMap Itm.all = ids) {G1 : Nat → Value} {O1 : Nat → Nat → Prop} {ρ : S}
    (fx : ∀ m b v K, look m ρ.hp = some b → (callN N O σ h its).fix m = some (v, K) → G1 m = v ∧ ∀ k, O1 m k ↔ K k) {i : Nat} {b0 : Bl} (hb : look (pnm i) (its.flatMap Itm.blks) = some b0) {n : Nat}
    (hm : ∀ k, mvO O its (pnm i) k ↔ O n k) (hi : (n, true) ∈ ids) : Came N G O σ h its ids G1 O1 ρ n i ∧ ∀ b, look (pnm i) ρ.hp = some b → G1 (pnm i) = mvG its (pnm i) := by
  have hf : (callN N O σ h its).fix (pnm i) = some (mvG its (pnm i), mvO O its (pnm i)) := by
    simp only [callN, pnm_high, Bool.false_eq_true, if_false, hb]
  exact ⟨⟨hi, fun b hl k => ((fx _ b _ _ hl hf).2 k).trans (hm k), hm⟩, fun b hl => (fx _ b _ _ hl hf).1⟩

def Bk.nm : Bk → Nat
  | .box n _ _ => n
  | .arr n _ => n
  | .ro n _ => n
def Bk.ix : Bk → Nat
  | .box _ _ i => i
  | .arr _ i => i
  | .ro _ i => i

theorem back_rel (R : Rel N G O σ ts h) {ss : Bool} {its : List Itm} {d : List Upd} {bk : List Bk} {ids : List (Nat × Bool)} (A : Args N G O σ h ss its d bk ids) (hfit : fitIds ids = true)
    {us' : List Nat} {V' : Nat → Prop} (M : Moved N G O σ h its us' V') {s : Sig} {t : Nat} {r : rden s.res} {G1 : Nat → Value} {O1 : Nat → Nat → Prop} {y : Value} {h' : Heap}
    (K : RetOk (callN N O σ h its) G1 O1 (retS s t r) y h') (hk : retOk s t r = true) (hss : (ss || (retS s t r).flat) = true) {ps : List (Nat × Bl)}
    (p1 : ∀ p ∈ ps, ∃ b ∈ bk, Put σ (retS s t r).hp b p) (p2 : ∀ b ∈ bk, (∃ p ∈ ps, Put σ (retS s t r).hp b p) ∨ ∃ n i cs, b = .ro n i ∧ look (pnm i) (retS s t r).hp = some (.box true cs))
    (hnew : ∀ n ∈ nms (news (retS s t r).hp), has n σ.us = false) :
    ∃ G' O', Rel N G' O' (σ.upds (d ++ (newUps (news (retS s t r).hp) ++ hpUps ps))) ts h' ∧
      ∀ v, (retS s t r).tm = [(0, v)] → v.rl (env N G' O' (σ.upds (d ++ (newUps (news (retS s t r).hp) ++ hpUps ps))) h') y := by
  have hus0 : ∀ n ∈ (retS s t r).us, n ∈ nms (retS s t r).hp := by
    intro n hn
    simp only [retS] at hn ⊢
    simp only [nms, List.map_append]
    rcases List.mem_append.1 hn with hn | hn
    · exact List.mem_append_left _ hn
    · refine List.mem_append_right _ ?_
      have key : ∀ (ps : List PS) (i j : Nat) (ls : List Lf) (n : Nat), n ∈ (retB t i j ps ls).2 → n ∈ (retB t i j ps ls).1.map (·.1) := by
        intro ps
        induction ps with
        | nil => intro i j ls n hn; simp [retB] at hn
        | cons p r ih =>
          intro i j ls n hn
          cases p with
          | val ag row ms =>
            simp only [retB] at hn ⊢
            rw [List.map_append]; exact List.mem_append_right _ (ih _ _ _ _ hn)
          | ptr row ms ro =>
            cases ro with
            | true => simp only [retB] at hn ⊢; exact List.mem_cons_of_mem _ (ih _ _ _ _ hn)
            | false =>
              simp only [retB] at hn ⊢
              rw [List.map_append]
              rcases List.mem_append.1 hn with hn | hn
              · exact List.mem_append_left _ (List.mem_cons_of_mem _ hn)
              · exact List.mem_append_right _ (ih _ _ _ _ hn)
          | fnv f l => simp [retB] at hn
      exact key _ _ _ _ _ hn
  generalize hρ : retS s t r = ρ at *
  simp only [retOk, hρ, Bool.and_eq_true] at hk
  obtain ⟨hdis, hlow⟩ := hk
  have hsz : h.size ≤ h'.size := K.kp.size
  have hfitx := fit_exs hfit
  have hexs : ∀ n, n ∈ exs (its.flatMap Itm.all) → (n, true) ∈ ids := fun n hn => by rw [A.all] at hn; exact mem_exs.1 hn
  -- new names
  have nwlow : ∀ m b, (m, b) ∈ news ρ.hp → low m = true ∧ look m ρ.hp = some b := fun m b hm => ⟨(news_mem.1 hm).2, look_of_mem hdis (news_mem.1 hm).1⟩
  have nwmem : ∀ m, m ∈ nms (news ρ.hp) → ∃ b, (m, b) ∈ news ρ.hp := fun m hm => by
    obtain ⟨q, hq, rfl⟩ := List.mem_map.1 hm; exact ⟨q.2, hq⟩
  have oldnew : ∀ m b, look m σ.hp = some b → m ∉ nms (news ρ.hp) := fun m b hm hn => by
    have := hnew m hn; rw [(R.hp m b hm).1] at this; cases this
  have usnew : ∀ m, has m ρ.us = true → m ∈ nms (news ρ.hp) := fun m hm => by
    have hm := has_mem.1 hm
    obtain ⟨q, hq, rfl⟩ := List.mem_map.1 (hus0 m hm)
    exact List.mem_map.2 ⟨q, news_mem.2 ⟨hq, all_low hlow hm⟩, rfl⟩
  -- names that come back
  have cm : ∀ b ∈ bk, Came N G O σ h its ids G1 O1 ρ b.nm b.ix ∧ (∀ bb, look (pnm b.ix) ρ.hp = some bb → G1 (pnm b.ix) = mvG its (pnm b.ix)) ∧
      (match b with | .box n off i => ∃ y ∈ its, y.bx = some (n, pnm i, false) | .ro n i => look (pnm i) (its.flatMap Itm.blks) = none ∨ ∃ cs, look (pnm i) (its.flatMap Itm.blks) = some (.box true cs) | .arr n i => mvG its (pnm i) = G n) := by
    intro b hb
    have hB := A.back b hb
    have hI := A.fate.bk b hb
    cases b with
    | box n off i =>
      obtain ⟨y, hy, hbx, _⟩ := hB
      obtain ⟨q1, q2, q3⟩ := M.bx y hy _ hbx
      obtain ⟨c1, c2⟩ := came M A.all K.fx q1 q3 hI
      exact ⟨c1, c2, y, hy, hbx⟩
    | ro n i =>
      obtain ⟨y, hy, hbx⟩ := hB
      obtain ⟨q1, q2, q3⟩ := M.bx y hy _ hbx
      obtain ⟨c1, c2⟩ := came M A.all K.fx q1 q3 hI
      exact ⟨c1, c2, .inr ⟨_, q1⟩⟩
    | arr n i =>
      obtain ⟨k, hk, e1, e2, e3, _⟩ := hB
      obtain ⟨f1, f2, f3⟩ := M.made k hk
      rw [e1] at f1 f2 f3
      obtain ⟨c1, c2⟩ := came M A.all K.fx f3 (fun j => by
        rw [f2 j, e2]
        constructor
        · rintro ⟨n', hn', ho⟩; cases hn'; exact ho
        · intro ho; exact ⟨n, rfl, ho⟩) hI
      exact ⟨c1, c2, f1.trans e3⟩
  have putnm : ∀ b p, Put σ ρ.hp b p → b.nm = p.1 ∧ (∃ bb, look (pnm b.ix) ρ.hp = some bb) ∧ ((∃ n off i cs, b = .box n off i ∧ look n σ.hp = some (.box false cs)) ∨ ∃ n i, b = .arr n i) := by
    intro b p hp
    cases hp with
    | box n off i cs cs' h1 h2 h3 => exact ⟨rfl, ⟨_, h1⟩, .inl ⟨_, _, _, _, rfl, h2⟩⟩
    | arr n i e xs h1 => exact ⟨rfl, ⟨_, h1⟩, .inr ⟨_, _, rfl⟩⟩
  have psold : ∀ m, m ∈ nms ps → (∃ b, look m σ.hp = some b) ∧ ∃ i b, look (pnm i) ρ.hp = some b ∧ (∀ k, O1 (pnm i) k ↔ O m k) ∧ (m, true) ∈ ids := by
    intro m hm
    obtain ⟨p, hp, rfl⟩ := List.mem_map.1 hm
    obtain ⟨b, hb, hP⟩ := p1 p hp
    obtain ⟨e1, ⟨bb, e2⟩, e3⟩ := putnm b p hP
    obtain ⟨c1, c2, c3⟩ := cm b hb
    rw [e1] at c1
    refine ⟨?_, b.ix, bb, e2, c1.own bb e2, c1.ids⟩
    rcases e3 with ⟨n, off, i, cs, rfl, hl⟩ | ⟨n, i, rfl⟩
    · cases e1; exact ⟨_, hl⟩
    · obtain ⟨_, _, _, _, _, e, xs, hl⟩ := A.back _ hb
      cases e1; exact ⟨_, hl⟩
  -- names of the state behind
  have hlook : ∀ m b, look m (σ.upds (d ++ (newUps (news ρ.hp) ++ hpUps ps))).hp = some b → (m, b) ∈ ps ∨ ((m, b) ∈ news ρ.hp ∧ m ∉ nms ps) ∨ (look m σ.hp = some b ∧ Upd.del m ∉ d ∧ m ∉ nms (news ρ.hp) ∧ m ∉ nms ps) := by
    intro m b hm
    rw [upds_app, upds_app] at hm
    rcases hpUps_look ps hm with h1 | ⟨h1, h2⟩
    · exact .inl h1
    · rcases newUps_look _ h1 with h3 | ⟨h3, h4⟩
      · exact .inr (.inl ⟨h3, h2⟩)
      · obtain ⟨h5, h6⟩ := dels_look d A.fate.dels h3
        exact .inr (.inr ⟨h5, h6, h4, h2⟩)
  have hus : ∀ m, has m (σ.upds (d ++ (newUps (news ρ.hp) ++ hpUps ps))).us = true ↔ has m σ.us = true ∨ m ∈ nms (news ρ.hp) := by
    intro m
    rw [upds_app, upds_app, hpUps_us, newUps_us, dels_us d A.fate.dels]
  have htm : (σ.upds (d ++ (newUps (news ρ.hp) ++ hpUps ps))).tm = σ.tm := by
    rw [upds_app, upds_app, hpUps_tm, newUps_tm, dels_tm d A.fate.dels]
  generalize hσ' : σ.upds (d ++ (newUps (news ρ.hp) ++ hpUps ps)) = σ' at *
  -- letters
  let G' : Nat → Value := fun m => if has m (nms (news ρ.hp)) = true then G1 m else G m
  let O' : Nat → Nat → Prop := fun m k => if has m (nms (news ρ.hp)) = true then O1 m k else O m k
  have Gn : ∀ m, m ∈ nms (news ρ.hp) → G' m = G1 m := fun m hm => if_pos (has_mem.2 hm)
  have Go' : ∀ m, m ∉ nms (news ρ.hp) → G' m = G m := fun m hm => if_neg (fun hh => hm (has_mem.1 hh))
  have On : ∀ m, m ∈ nms (news ρ.hp) → O' m = O1 m := fun m hm => funext fun k => if_pos (has_mem.2 hm)
  have Oo : ∀ m, m ∉ nms (news ρ.hp) → O' m = O m := fun m hm => funext fun k => if_neg (fun hh => hm (has_mem.1 hh))
  -- what the callee owned
  have owned : ∀ k, (callN N O σ h its).Ow k → ∃ n bn, look n σ.hp = some bn ∧ (n, true) ∈ ids ∧ O n k ∧ k < h.size ∧ ∀ i, (callN N O σ h its).W k i → bn.rng (G n) i := by
    rintro k ⟨q, b, hq, hO⟩
    obtain ⟨g1, n, bn, g2, g3, g4, g5⟩ := M.src q b k hq hO
    refine ⟨n, bn, g2, hexs n g3, g4, g1, ?_⟩
    rintro i ⟨q', b', hq', hO', hr⟩
    have := M.inj q' q b' b k hq' hq hO' hO
    subst this
    rw [hq] at hq'; cases hq'
    exact g5 i hr
  have wOw : ∀ k i, (callN N O σ h its).W k i → (callN N O σ h its).Ow k := by
    rintro k i ⟨q, b, hq, hO, _⟩; exact ⟨q, b, hq, hO⟩
  -- names that were lent and are still there
  have still : ∀ n bn, look n σ.hp = some bn → (n, true) ∈ ids → (Upd.del n ∉ d ∨ n ∈ nms ps) → ∃ i b, look (pnm i) ρ.hp = some b ∧ ∀ k, O1 (pnm i) k ↔ O n k := by
    intro n bn hl hi hs
    by_cases hp : n ∈ nms ps
    · obtain ⟨_, i, b, h1, h2, _⟩ := psold n hp; exact ⟨i, b, h1, h2⟩
    · have hd := hs.resolve_right hp
      have go : ∀ b ∈ bk, b.nm = n → ∃ i b, look (pnm i) ρ.hp = some b ∧ ∀ k, O1 (pnm i) k ↔ O n k := by
        intro b hb hn
        obtain ⟨c1, c2, c3⟩ := cm b hb
        rw [hn] at c1
        rcases p2 b hb with ⟨p, hpp, hP⟩ | ⟨n', i', cs, rfl, h1⟩
        · obtain ⟨e1, ⟨bb, e2⟩, _⟩ := putnm b p hP
          exact ⟨b.ix, bb, e2, c1.own bb e2⟩
        · exact ⟨i', _, h1, c1.own _ h1⟩
      rcases A.fate.own n hi with h1 | ⟨j, h1⟩ | ⟨o, j, h1⟩ | ⟨j, h1⟩
      · exact absurd h1 hd
      · exact go _ h1 rfl
      · exact go _ h1 rfl
      · exact go _ h1 rfl
  -- old names of the state behind
  have oldk : ∀ m b, look m σ'.hp = some b → m ∉ nms (news ρ.hp) → (∃ b0, look m σ.hp = some b0) ∧ (Upd.del m ∉ d ∨ m ∈ nms ps) := by
    intro m b hm hn
    rcases hlook m b hm with h1 | ⟨h1, _⟩ | ⟨h1, h2, _⟩
    · have : m ∈ nms ps := List.mem_map.2 ⟨_, h1, rfl⟩
      exact ⟨(psold m this).1, .inr this⟩
    · exact absurd (List.mem_map.2 ⟨_, h1, rfl⟩) hn
    · exact ⟨⟨_, h1⟩, .inl h2⟩
  have newk : ∀ m b, look m σ'.hp = some b → m ∈ nms (news ρ.hp) → (m, b) ∈ news ρ.hp ∧ look m ρ.hp = some b := by
    intro m b hm hn
    rcases hlook m b hm with h1 | ⟨h1, _⟩ | ⟨_, _, h3, _⟩
    · obtain ⟨b0, hb0⟩ := (psold m (List.mem_map.2 ⟨_, h1, rfl⟩)).1
      exact absurd hn (oldnew m b0 hb0)
    · exact ⟨h1, (nwlow m b h1).2⟩
    · exact absurd hn h3
  -- an old name and a new one own nothing together
  have apart : ∀ n m bn bm k, look n σ'.hp = some bn → look m σ'.hp = some bm → n ∉ nms (news ρ.hp) → m ∈ nms (news ρ.hp) → O n k → O1 m k → False := by
    intro n m bn bm k hn hm h1 h2 ho ho1
    obtain ⟨⟨b0, hb0⟩, hs⟩ := oldk n bn hn h1
    obtain ⟨q1, q2⟩ := newk m bm hm h2
    have hkl := (R.wr n b0 k hb0 ho).1
    rcases (K.wr m bm k q2 ho1).2 with hh | ⟨hh, _⟩
    · have : (callN N O σ h its).h0.size = h.size := rfl
      omega
    · obtain ⟨n', bn', g1, g2, g3, _⟩ := owned k hh
      have := R.inj n n' b0 bn' k hb0 g1 ho g3
      subst this
      obtain ⟨i, b, e1, e2⟩ := still n b0 hb0 g2 hs
      have := K.inj m (pnm i) bm b k q2 e1 ho1 ((e2 k).2 ho)
      have hl := (nwlow m bm q1).1
      rw [this, pnm_high] at hl; cases hl
  -- memory of what was not lent
  have keep : ∀ n bn k, look n σ.hp = some bn → O n k → ((n, true) ∈ ids → ∃ i, Bk.ro n i ∈ bk) → h'[k]? = h[k]? := by
    intro n bn k hl ho hro
    refine K.kp.same (R.wr n bn k hl ho).1 fun i hw => ?_
    obtain ⟨q, b, hq, hO, hr⟩ := hw
    obtain ⟨g1, n', bn', g2, g3, g4, g5⟩ := M.src q b k hq hO
    have := R.inj n n' bn bn' k hl g2 ho g4
    subst this
    obtain ⟨j, hj⟩ := hro (hexs n g3)
    obtain ⟨c1, c2, c3⟩ := cm _ hj
    have hmv := (c1.mv k).2 ho
    rcases c3 with c3 | ⟨cs, c3⟩
    · obtain ⟨y, hy, hbx⟩ := A.back _ hj
      rw [(M.bx y hy _ hbx).1] at c3; cases c3
    · have := M.inj q (pnm j) b _ k hq c3 hO hmv
      subst this
      rw [hq] at c3; cases c3
      exact hr
  -- what is seen
  have seeOld : ∀ k, Vis N O σ.hp h k → Vis N O' σ'.hp h' k ∧ h'[k]? = h[k]? := by
    intro k hv
    refine ⟨⟨hv.1, by have := hv.2.1; omega, fun m b hm ho => ?_⟩, K.kp.same hv.2.1 fun i hw => ?_⟩
    · by_cases hn : m ∈ nms (news ρ.hp)
      · rw [On m hn] at ho
        rcases (K.wr m b k (newk m b hm hn).2 ho).2 with hh | ⟨hh, _⟩
        · have : (callN N O σ h its).h0.size = h.size := rfl
          have := hv.2.1; omega
        · obtain ⟨n', bn', g1, g2, g3, _⟩ := owned k hh
          exact hv.2.2 n' bn' g1 g3
      · rw [Oo m hn] at ho
        obtain ⟨⟨b0, hb0⟩, _⟩ := oldk m b hm hn
        exact hv.2.2 m b0 hb0 ho
    · obtain ⟨n', bn', g1, g2, g3, _⟩ := owned k (wOw k i hw)
      exact hv.2.2 n' bn' g1 g3
  have seeNew : ss = true → ∀ k, Vis (callN N O σ h its) O1 ρ.hp h' k → Vis N O' σ'.hp h' k := by
    intro hs k hv
    have h0 : (callN N O σ h its).h0.size = h.size := rfl
    -- who owns it
    have part : (N.Al k ∨ N.h0.size ≤ k) ∧ ∀ m b, look m σ'.hp = some b → m ∉ nms (news ρ.hp) → ¬ O m k := by
      have lent : ∀ n x bn, (n, x) ∈ ids → look n σ.hp = some bn → O n k → (N.Al k ∨ N.h0.size ≤ k) ∧ ∀ m b, look m σ'.hp = some b → m ∉ nms (news ρ.hp) → ¬ O m k := by
        intro n x bn hi hl ho
        refine ⟨(R.wr n bn k hl ho).2.elim .inr fun hw => .inl (N.owAl k hw.1), fun m b hm hn ho' => ?_⟩
        obtain ⟨⟨b0, hb0⟩, hst⟩ := oldk m b hm hn
        have := R.inj m n b0 bn k hb0 hl ho' ho
        subst this
        have own1 : (m, true) ∈ ids → False := by
          intro hi
          obtain ⟨i, b', e1, e2⟩ := still m b0 hb0 hi hst
          exact hv.2.2 (pnm i) b' e1 ((e2 k).2 ho)
        cases x with
        | true => exact own1 hi
        | false =>
          rcases hst with hst | hst
          · exact hst (A.fate.lent hs m hi)
          · exact own1 (psold m hst).2.choose_spec.choose_spec.2.2
      rcases hv.1 with hA | hA
      · rcases hA with (hA | ⟨n, x, bn, hi, hl, ho⟩) | hA
        · refine ⟨hA.1, fun m b hm hn => ?_⟩
          obtain ⟨⟨b0, hb0⟩, _⟩ := oldk m b hm hn
          exact hA.2.2 m b0 hb0
        · rw [A.all] at hi; exact lent n x bn hi hl ho
        · obtain ⟨n', bn', g1, g2, g3, _⟩ := owned k hA
          exact lent n' true bn' g2 g1 g3
      · refine ⟨.inr (by have := R.kp.size; omega), fun m b hm hn ho => ?_⟩
        obtain ⟨⟨b0, hb0⟩, _⟩ := oldk m b hm hn
        have := (R.wr m b0 k hb0 ho).1; omega
    refine ⟨part.1, hv.2.1, fun m b hm ho => ?_⟩
    by_cases hn : m ∈ nms (news ρ.hp)
    · rw [On m hn] at ho; exact hv.2.2 m b (newk m b hm hn).2 ho
    · rw [Oo m hn] at ho; exact part.2 m b hm hn ho
  have leOld : (env N G O σ h).Le (env N G' O' σ' h') := by
    refine ⟨⟨fun k hk => ⟨(seeOld k hk).1, fun o => ?_⟩⟩, fun m hm => ⟨(hus m).2 (.inl hm), Go' m fun hn => ?_⟩⟩
    · simp only [env, cellAt, (seeOld k hk).2]
    · have := hnew m hn
      have hm : has m σ.us = true := hm
      rw [this] at hm; cases hm
  -- the callee's words in ours
  obtain ⟨E1, hE, hV, hblk, hval⟩ : ∃ E1 : Env, (E1.G = G1 ∧ E1.us = ρ.us ∧ E1.h = h') ∧ (∀ k, E1.V k → Vis N O' σ'.hp h' k) ∧ (∀ m b, look m ρ.hp = some b → b.rl E1 O1 m) ∧ ∀ v, ρ.tm = [(0, v)] → v.rl E1 y := by
    cases hs : ss with
    | true => exact ⟨env (callN N O σ h its) G1 O1 ρ h', ⟨rfl, rfl, rfl⟩, seeNew hs, K.blk, K.val⟩
    | false =>
      rw [hs, Bool.false_or] at hss
      simp only [S.flat, Bool.and_eq_true] at hss
      obtain ⟨f1, f2⟩ := hss
      refine ⟨(env (callN N O σ h its) G1 O1 ρ h').blind, ⟨rfl, rfl, rfl⟩, fun k hk => hk.elim, fun m b hm => Bl.flat_rl (List.all_eq_true.1 f2 _ (look_mem hm)) (K.blk m b hm), fun v hv => ?_⟩
      refine Vl.flat_rl v ?_ (K.val v hv)
      rw [hv] at f1
      simp only [List.map_cons, List.map_nil, Vl.flats, Bool.and_true] at f1
      exact f1
  have leNew : E1.Le (env N G' O' σ' h') := by
    refine ⟨⟨fun k hk => ⟨hV k hk, fun o => by rw [hE.2.2]; rfl⟩⟩, fun m hm => ?_⟩
    rw [hE.2.1] at hm
    exact ⟨(hus m).2 (.inr (usnew m hm)), by rw [hE.1]; exact Gn m (usnew m hm)⟩
  have h0 : (callN N O σ h its).h0.size = h.size := rfl
  refine ⟨G', O', R.step leOld ?_ ?_ ?_ ?_ ?_ ?_ ?_, fun v hv => Vl.rl_mono leNew v _ (hval v hv)⟩
  · intro t v hl
    rw [htm] at hl
    exact .inl ⟨hl, rfl, (R.tm t v hl).1⟩
  · intro n b hm
    rcases hlook n b hm with h1 | ⟨h1, h2⟩ | ⟨h1, h2, h3, h4⟩
    · have hnm : n ∈ nms ps := List.mem_map.2 ⟨_, h1, rfl⟩
      obtain ⟨⟨b0, hb0⟩, _⟩ := psold n hnm
      have hnn := oldnew n b0 hb0
      refine .inr ⟨(hus n).2 (.inl (R.hp n b0 hb0).1), ?_⟩
      obtain ⟨bb, hbb, hP⟩ := p1 _ h1
      obtain ⟨c1, c2, c3⟩ := cm bb hbb
      have hB := A.back bb hbb
      cases hP with
      | box n off i cs cs' q1 q2 q3 =>
        obtain ⟨y', hy, hbx, bk0, o, cs0, g1, g2, g3, g4, g5⟩ := hB
        rw [q2] at g3; cases g3
        obtain ⟨m1, m2, m3⟩ := M.bx y' hy _ hbx
        obtain ⟨b1, o1, C1, T1, fr1, r1, r2, r3, r4, r5⟩ := hblk (pnm i) _ q1
        obtain ⟨b2, o2, C0, T0, fr0, s1, s2, s3, s4, s5⟩ := (R.hp n _ q2).2
        rw [show (env N G O σ h).G n = G n from rfl, g1] at s1; cases s1
        have c2' : G1 (pnm i) = mvG its (pnm i) := c2 _ q1
        rw [hE.1, c2', m2, g2] at r1; cases r1
        rw [hE.2.2] at r2
        have s2 : h[bk0]? = some (.cells C0 T0 fr0) := s2
        obtain ⟨C', k1, k2, k3⟩ := K.kp.old bk0 _ s2
        rw [k1] at r2; cases r2
        have hout : y'.out.length = y'.ls.length := by
          unfold Itm.out; rw [unleaves_len, leaves_len (A.ok y' hy).leaves]
        have hlen : (splice cs off.1 cs').length = cs.length := by simp [splice]; omega
        have hOn := R.own n _ bk0 q2 (by rw [g1]; rfl)
        have hW : ∀ i', (callN N O σ h its).W bk0 i' → o + off.1 ≤ i' ∧ i' < o + off.1 + cs'.length := by
          rintro i' ⟨q, b, hq, hO, hr⟩
          have := M.inj q (pnm i) b _ bk0 hq m1 hO ((m3 bk0).2 hOn)
          subst this
          rw [m1] at hq; cases hq
          rw [m2, g2] at hr
          simp only [Bl.rng] at hr
          omega
        have hseg : ∀ (p q : Nat), p + q ≤ off.1 ∨ off.1 + cs'.length ≤ p → ((C1.toList.drop (o + p)).take q) = ((C0.toList.drop (o + p)).take q) := by
          intro p q hpq
          apply List.ext_getElem?
          intro j
          simp only [List.getElem?_take, List.getElem?_drop, Array.getElem?_toList]
          split
          · exact k3 _ fun hw => by have := hW _ hw; omega
          · rfl
        refine ⟨bk0, o, C1, T1, fr1, (Go' n hnn).trans g1, k1, by rw [hlen]; omega, s4, ?_⟩
        rw [hlen]
        have hcut : (C1.toList.drop o).take cs.length = (C1.toList.drop (o + 0)).take off.1 ++ (C1.toList.drop (o + off.1)).take cs'.length ++ (C1.toList.drop (o + (off.1 + cs'.length))).take (cs.length - (off.1 + cs'.length)) := by
          apply List.ext_getElem?
          intro j
          have hsz : o + cs.length ≤ C1.size := by omega
          have l1 : ((C1.toList.drop (o + 0)).take off.1).length = off.1 := by simp; omega
          have l2 : ((C1.toList.drop (o + off.1)).take cs'.length).length = cs'.length := by simp; omega
          rw [List.getElem?_append, List.getElem?_append]
          simp only [List.length_append, l1, l2, List.getElem?_take, List.getElem?_drop, Array.getElem?_toList]
          by_cases j1 : j < off.1
          · rw [if_pos (by omega), if_pos (by omega), if_pos j1, if_pos j1, Nat.add_zero]
          · by_cases j2 : j < off.1 + cs'.length
            · rw [if_pos (by omega), if_pos j2, if_neg j1, if_pos (by omega)]; congr 1; omega
            · by_cases j3 : j < cs.length
              · rw [if_pos j3, if_neg j2, if_pos (by omega)]; congr 1; omega
              · rw [if_neg j3, if_neg j2, if_neg (by omega)]
        rw [hcut, hseg 0 off.1 (.inl (by omega)), hseg (off.1 + cs'.length) _ (.inr (Nat.le_refl _))]
        have old := lfsRl_mono leOld _ _ s5
        refine lfs_app (lfs_app ?_ (lfsRl_mono leNew _ _ r5)) ?_
        · have := lfs_take old off.1
          rw [List.take_take, Nat.min_eq_left (by omega)] at this
          rw [Nat.add_zero]; exact this
        · have := lfs_drop old (off.1 + cs'.length)
          rw [List.drop_take, List.drop_drop] at this
          exact this
      | arr n i e xs q1 =>
        obtain ⟨a, cap, e1, e2, e3⟩ := hblk (pnm i) _ q1
        refine ⟨a, cap, ?_, e2, e3.imp id fun ⟨b, o, c, T, f1, f2, f3, f4⟩ => ⟨b, o, c, T, f1, by rw [hE.2.2] at f2; exact f2, f3, fun i hi => rowRd_mono ⟨fun k hk => ⟨.inl ?_, fun o => by rw [hE.2.2]; rfl⟩⟩ e _ _ (f4 i hi)⟩⟩
        · show G' n = _
          rw [Go' n hnn, ← c3, ← e1, hE.1]; exact (c2 _ q1).symm
        · rcases hk with hk | hk
          · exact hV k hk
          · cases hk.1
    · have hn : n ∈ nms (news ρ.hp) := List.mem_map.2 ⟨_, h1, rfl⟩
      refine .inr ⟨(hus n).2 (.inr hn), ?_⟩
      have H := hblk n b (nwlow n b h1).2
      have hOn : ∀ k, O1 n k → O' n k := fun k hk => by rw [On n hn]; exact hk
      cases b with
      | box ro cs =>
        obtain ⟨b, o, c, T, fr, e1, e2, e3, e4, e5⟩ := H
        exact ⟨b, o, c, T, fr, by rw [hE.1] at e1; exact (Gn n hn).trans e1, by rw [hE.2.2] at e2; exact e2, e3, e4, lfsRl_mono leNew _ _ e5⟩
      | arr e d xs =>
        obtain ⟨a, cap, e1, e2, e3⟩ := H
        refine ⟨a, cap, by rw [hE.1] at e1; exact (Gn n hn).trans e1, e2, e3.imp id fun ⟨b, o, c, T, f1, f2, f3, f4⟩ => ⟨b, o, c, T, f1, by rw [hE.2.2] at f2; exact f2, f3, fun i hi => rowRd_mono ⟨fun k hk => ⟨hk.imp (hV k) (fun q => ⟨q.1, hOn k q.2⟩), fun o => by rw [hE.2.2]; rfl⟩⟩ e _ _ (f4 i hi)⟩⟩
    · refine .inl ⟨h1, fun k ho => ⟨by rw [Oo n h3]; exact ho, keep n b k h1 ho fun hi => ?_⟩⟩
      have no : ∀ bb ∈ bk, bb.nm = n → (∀ j, bb ≠ .ro n j) → False := by
        intro bb hbb hn hro
        rcases p2 bb hbb with ⟨p, hpp, hP⟩ | ⟨n', i', cs, rfl, _⟩
        · obtain ⟨e1, _⟩ := putnm bb p hP
          exact h4 (List.mem_map.2 ⟨p, hpp, e1.symm.trans hn⟩)
        · cases hn; exact hro _ rfl
      rcases A.fate.own n hi with g | ⟨j, g⟩ | ⟨o, j, g⟩ | g
      · exact absurd g h2
      · exact (no _ g rfl (by simp)).elim
      · exact (no _ g rfl (by simp)).elim
      · exact g
  · intro n b k hm hb
    by_cases hn : n ∈ nms (news ρ.hp)
    · rw [On n hn]; rw [Gn n hn] at hb
      exact K.own n b k (newk n b hm hn).2 hb
    · rw [Oo n hn]; rw [Go' n hn] at hb
      obtain ⟨⟨b0, hb0⟩, _⟩ := oldk n b hm hn
      exact R.own n b0 k hb0 hb
  · intro n m b b' k hm hm' ho ho'
    by_cases hn : n ∈ nms (news ρ.hp) <;> by_cases hn' : m ∈ nms (news ρ.hp)
    · rw [On n hn] at ho; rw [On m hn'] at ho'
      exact K.inj n m b b' k (newk n b hm hn).2 (newk m b' hm' hn').2 ho ho'
    · rw [On n hn] at ho; rw [Oo m hn'] at ho'
      exact (apart m n b' b k hm' hm hn' hn ho' ho).elim
    · rw [Oo n hn] at ho; rw [On m hn'] at ho'
      exact (apart n m b b' k hm hm' hn hn' ho ho').elim
    · rw [Oo n hn] at ho; rw [Oo m hn'] at ho'
      obtain ⟨⟨b0, hb0⟩, _⟩ := oldk n b hm hn
      obtain ⟨⟨b1, hb1⟩, _⟩ := oldk m b' hm' hn'
      exact R.inj n m b0 b1 k hb0 hb1 ho ho'
  · intro n b k hm ho
    by_cases hn : n ∈ nms (news ρ.hp)
    · rw [On n hn] at ho
      obtain ⟨w1, w2⟩ := K.wr n b k (newk n b hm hn).2 ho
      refine ⟨w1, ?_⟩
      rcases w2 with w2 | ⟨w2, w3⟩
      · exact .inl (by have := R.kp.size; omega)
      · obtain ⟨n', bn', g1, g2, g3, g4, g5⟩ := owned k w2
        rcases (R.wr n' bn' k g1 g3).2 with h5 | ⟨h5, h6⟩
        · exact .inl h5
        · exact .inr ⟨h5, fun o hr => h6 o (g5 o (w3 o (by rw [Gn n hn] at hr; exact hr)))⟩
    · rw [Oo n hn] at ho
      rcases hlook n b hm with h1 | ⟨h1, h2⟩ | ⟨h1, h2, h3, h4⟩
      · obtain ⟨bb, hbb, hP⟩ := p1 _ h1
        cases hP with
        | box n off i cs cs' q1 q2 q3 =>
          obtain ⟨w1, w2⟩ := R.wr n _ k q2 ho
          refine ⟨by omega, w2.imp id fun w => ⟨w.1, fun o' hr => w.2 o' ?_⟩⟩
          obtain ⟨y', hy, hbx, bk0, o, cs0, g1, g2, g3, g4, g5⟩ := A.back _ hbb
          rw [q2] at g3; cases g3
          rw [Go' n hn, g1] at hr
          rw [g1]
          have hlen : (splice cs off.1 cs').length = cs.length := by simp [splice]; omega
          simp only [Bl.rng, hlen] at hr ⊢
          exact hr
        | arr n i e xs q1 =>
          obtain ⟨⟨b0, hb0⟩, _⟩ := oldk n _ hm hn
          obtain ⟨_, _, _, _, _, e', xs', hl⟩ := A.back _ hbb
          obtain ⟨w1, w2⟩ := R.wr n _ k hl ho
          exact ⟨by omega, w2.imp id fun w => ⟨w.1, fun o' _ => w.2 o' trivial⟩⟩
      · exact absurd (List.mem_map.2 ⟨_, h1, rfl⟩) hn
      · obtain ⟨w1, w2⟩ := R.wr n b k h1 ho
        exact ⟨by omega, w2.imp id fun w => ⟨w.1, fun o' hr => w.2 o' (by rw [Go' n hn] at hr; exact hr)⟩⟩
  · refine ⟨by have := R.kp.size; omega, fun k x hx => ?_⟩
    have hk : k < N.h0.size := by
      rcases Nat.lt_or_ge k N.h0.size with h | h
      · exact h
      · simp [Array.getElem?_eq_none h] at hx
    have wN : ∀ i, (callN N O σ h its).W k i → N.W k i := by
      intro i hw
      obtain ⟨n', bn', g1, g2, g3, g4, g5⟩ := owned k (wOw k i hw)
      rcases (R.wr n' bn' k g1 g3).2 with h5 | ⟨h5, h6⟩
      · omega
      · exact h6 i (g5 i hw)
    have H := R.kp.old k x hx
    cases x with
    | cells c T fr =>
      obtain ⟨c', e1, e2, e3⟩ := H
      obtain ⟨c'', f1, f2, f3⟩ := K.kp.old k _ e1
      exact ⟨c'', f1, by omega, fun i hi => (f3 i fun hw => hi (wN i hw)).trans (e3 i hi)⟩
    | _ => exact K.kp.old k _ H
  · intro m b v K' hm hf
    have hn : m ∉ nms (news ρ.hp) := fun hn => by
      obtain ⟨b1, hb1⟩ := nwmem m hn
      rw [N.hi m (nwlow m b1 hb1).1] at hf; cases hf
    obtain ⟨⟨b0, hb0⟩, _⟩ := oldk m b hm hn
    rw [Go' m hn, Oo m hn]
    exact R.fx m b0 v K' hb0 hf
end
end Go.Ev

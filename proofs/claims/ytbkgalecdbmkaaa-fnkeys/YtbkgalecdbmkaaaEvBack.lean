/- FnKeys returns true for every input, on the conditions that the row itself states, and on no other (part 'EvBack') -/
import Derived.Test.YtbkgalecdbmkaaaEvStart

namespace Go.Ev
open Go
set_option linter.unusedVariables false
set_option linter.unusedSimpArgs false

section
variable {c : Ctx} {x : X c} {N : Ent} {G : Nat → Value} {O : Nat → Nat → Prop} {σ : S} {ts : Array Value} {h : Heap} {u : List Upd} {l : List Loc}

/-- where a block that came back goes: its name here, its name there, its content -/
inductive Put (σ : S) (hp : List (Nat × Bl)) : Bk → Nat × Bl → Prop where
  | box (n : Nat) (off : Nat × Nat) (i : Nat) (cs cs' : List Lf) (h1 : look (pnm i) hp = some (.box false cs')) (h2 : look n σ.hp = some (.box false cs)) (h3 : cs'.length = off.2) : Put σ hp (.box n off i) (n, .box false (splice cs off.1 cs'))
  | arr (n i : Nat) (e : Row) (xs : List (rden e)) (h1 : look (pnm i) hp = some (.arr e false xs)) : Put σ hp (.arr n i) (n, .arr e false xs)
def hpUps (l : List (Nat × Bl)) : List Upd := l.map fun q => .hp q.1 q.2

theorem bkQ_go {hp : List (Nat × Bl)} : (bk : List Bk) → {u0 : List Upd} → {k : List Upd → RQ c} → {l : List Loc} → (bkQ bk hp u0 k).Go x σ u l →
    ∃ ps l', (k (u0 ++ hpUps ps)).Go x σ u l' ∧ (∀ p ∈ ps, ∃ b ∈ bk, Put σ hp b p) ∧ ∀ b ∈ bk, (∃ p ∈ ps, Put σ hp b p) ∨ ∃ n i cs, b = .ro n i ∧ look (pnm i) hp = some (.box true cs)
  | [], u0, k, l, hg => ⟨[], l, by simpa [hpUps, bkQ] using hg, by simp, by simp⟩
  | .box n off i :: r, u0, k, l, hg => by
    simp only [bkQ] at hg
    split at hg
    · rename_i cs' h1
      obtain ⟨l0, rfl, hg⟩ := hg
      dsimp only at hg
      split at hg
      · rename_i cs h2
        obtain ⟨h3, hg⟩ := hg
        have h3 := Nat.eq_of_beq_eq_true h3
        obtain ⟨ps, l', hg, g1, g2⟩ := bkQ_go r hg
        refine ⟨(n, .box false (splice cs off.1 cs')) :: ps, l', by simpa [hpUps] using hg, ?_, ?_⟩
        · intro p hp
          rcases List.mem_cons.1 hp with rfl | hp
          · exact ⟨_, List.mem_cons_self .., .box n off i cs cs' h1 h2 h3⟩
          · obtain ⟨b, hb, hq⟩ := g1 p hp; exact ⟨b, List.mem_cons_of_mem _ hb, hq⟩
        · intro b hb
          rcases List.mem_cons.1 hb with rfl | hb
          · exact .inl ⟨_, List.mem_cons_self .., .box n off i cs cs' h1 h2 h3⟩
          · exact (g2 b hb).imp (fun ⟨p, hp, hq⟩ => ⟨p, List.mem_cons_of_mem _ hp, hq⟩) id
      · cases hg
    · cases hg
  | .arr n i :: r, u0, k, l, hg => by
    simp only [bkQ] at hg
    split at hg
    · rename_i e xs h1
      obtain ⟨ps, l', hg, g1, g2⟩ := bkQ_go r hg
      refine ⟨(n, .arr e false xs) :: ps, l', by simpa [hpUps] using hg, ?_, ?_⟩
      · intro p hp
        rcases List.mem_cons.1 hp with rfl | hp
        · exact ⟨_, List.mem_cons_self .., .arr n i e xs h1⟩
        · obtain ⟨b, hb, hq⟩ := g1 p hp; exact ⟨b, List.mem_cons_of_mem _ hb, hq⟩
      · intro b hb
        rcases List.mem_cons.1 hb with rfl | hb
        · exact .inl ⟨_, List.mem_cons_self .., .arr n i e xs h1⟩
        · exact (g2 b hb).imp (fun ⟨p, hp, hq⟩ => ⟨p, List.mem_cons_of_mem _ hp, hq⟩) id
    · cases hg
  | .ro n i :: r, u0, k, l, hg => by
    simp only [bkQ] at hg
    split at hg
    · rename_i cs h1
      obtain ⟨ps, l', hg, g1, g2⟩ := bkQ_go r hg
      refine ⟨ps, l', hg, fun p hp => by obtain ⟨b, hb, hq⟩ := g1 p hp; exact ⟨b, List.mem_cons_of_mem _ hb, hq⟩, fun b hb => ?_⟩
      rcases List.mem_cons.1 hb with rfl | hb
      · exact .inr ⟨n, i, cs, rfl, h1⟩
      · exact g2 b hb
    · cases hg
end
end Go.Ev

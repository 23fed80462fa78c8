/- FnKeys returns true for every input, on the conditions that the row itself states, and on no other (part 'EvLaw') -/
import Derived.Test.YtbkgalecdbmkaaaEvTab
import Derived.ChangeSlices
import Derived.ChangeSame
import Derived.ChangeAt
import Derived.RowKit

namespace Go.Ev
open Go Go.ChangeShapes Go.WideShapes Go.ChangeAt Go.RowKit
set_option linter.unusedVariables false
set_option linter.unusedSimpArgs false

/-- how a law is entered: all may be seen, nothing written -/
def lawN (h : Heap) : Ent where
  h0 := h
  Al := fun _ => True
  Ow := fun _ => False
  W := fun _ _ => False
  owAl := fun _ h => h.elim
  fix := fun _ => none
  hi := fun _ _ => rfl

theorem kept_of {w w' : World} (K : Kp (fun _ _ => False) w.heap w'.heap) (S : Same w w') : w.keptBut w' (fun _ => False) := by
  refine ⟨S.os, S.output, fun i hi => ?_⟩
  have hx : w.heap[i]? = some w.heap[i] := Array.getElem?_eq_getElem hi
  have := K.old i _ hx
  rw [hx]
  generalize w.heap[i] = o at this
  cases o with
  | cells c T fr =>
    obtain ⟨c', h1, h2, h3⟩ := this
    rw [h1]
    exact ⟨rfl, rfl, h2, fun j _ => h3 j id⟩
  | map es clock => simp only at this; rw [this]; exact .inr ⟨rfl, rfl⟩
  | _ => simp only at this; rw [this]

/-- the signature of a law -/
def lawSig (f : Nat) : Sig := { f := f, ps := [.val false [.sl [.i .u8]] [.s]], rs := [.val false [.bl] [.s]] }

theorem law_calls {P : Program} {f : Nat} {g : List Int → Option Bool} (H : FnOk P (lawSig f) g) {fn : Func} {cd : Code} (hf : P.funcs[f]? = some fn) (hn : (fn.name == "runtime.NumGoroutine") = false) (hb : fn.body = some cd)
    {W : World} {a : Option Addr} {len cap : Nat} {zs : List Int} (hlen : zs.length = len) (hcap : len ≤ cap) (hc : ∀ i, i < len → ∃ p, a = some p ∧ W.cell? (p.add i) = some (.int .u8 (zs.getD i 0))) (hg : g zs = some true) :
    Calls P f #[.slice a len cap] W fun e W' => e = .returned (.bool true) ∧ W.keptBut W' (fun _ => False) := by
  obtain ⟨_, hd⟩ := H zs true hg
  have hst : start (lawSig f) zs = { tm := [(0, .one (.sh [.i .u8] zs))], hp := [], us := [] } := rfl
  have R : Rel (lawN W.heap) (fun _ => undef) (fun _ _ => False) (start (lawSig f) zs) #[.slice a len cap] W.heap := by
    rw [hst]
    have no : ∀ n (b : Bl), look n ([] : List (Nat × Bl)) = some b → False := fun n b h => (by cases h)
    refine ⟨?_, fun n b h => (no n b h).elim, fun n b k h => (no n b h).elim, fun n m b b' k h => (no n b h).elim, fun n b k h => (no n b h).elim, Kp.refl _ _, fun m b v K h => (no m b h).elim⟩
    intro t v hl
    rw [look_cons] at hl
    split at hl
    · rename_i ht; subst ht; cases hl
      refine ⟨by simp, ?_⟩
      have key : ∃ a' cap', Value.slice a len cap = .slice a' zs.length cap' ∧ zs.length ≤ cap' ∧ ∀ i (hi : i < zs.length), ∃ b o, a' = some ⟨b, o, none⟩ ∧
          Vis (lawN W.heap) (fun _ _ => False) [] W.heap b ∧ cellAt W.heap b (o + i * 1 + 0) = some (.int .u8 zs[i]) := by
        refine ⟨a, cap, by rw [hlen], by omega, fun i hi => ?_⟩
        obtain ⟨⟨b, o, sp⟩, hp, hcell⟩ := hc i (by omega)
        have hsp : sp = none := by
          have := World.cell?_spot hcell
          unfold Addr.add at this
          split at this
          · exact this
          · rename_i h0
            obtain ⟨⟨b', o', sp'⟩, hp', hcell'⟩ := hc 0 (by omega)
            rw [hp] at hp'; cases hp'
            have := World.cell?_spot hcell'
            simpa [Addr.add] using this
        subst hsp
        rw [addr_add] at hcell
        refine ⟨b, o, hp, ⟨.inl trivial, ?_, fun n b h => (no n b h).elim⟩, ?_⟩
        · rcases Nat.lt_or_ge b W.heap.size with h | h
          · exact h
          · simp [World.cell?, Array.getElem?_eq_none h] at hcell
        · rw [cell_at] at hcell
          rw [Nat.mul_one, Nat.add_zero, hcell]
          congr 2
          simp [List.getD, List.getElem?_eq_getElem hi]
      exact key
    · cases hl
  rcases hd (lawN W.heap) (fun _ => undef) (fun _ _ => False) #[.slice a len cap] W rfl rfl R with ⟨_, h⟩ | ⟨y, w', h, _⟩
  · refine h.mono ?_
    rintro e W' ⟨y, rfl, hs, hr⟩
    obtain ⟨G1, O1, K⟩ := hr 0 rfl
    have hv := K.val (.one (.bool true)) rfl
    exact ⟨by rw [rl_bool hv], kept_of K.kp hs⟩
  · have : (callFunc (lawSig f).f #[.slice a len cap]).run P W = .ok (.enter f #[.slice a len cap]) W := enter_run hf hn hb _ _
    rw [this] at h; cases h

section
variable {H : Type} {enc : TypeId × Value → H} {P : Program}
/-- as ChangeShapes.post_of_same, where new memory may be frozen -/
theorem post_of_kept {f : Func} {s : ChangeSpec} {apart fresh handsOn again : Bool} {W W' : World} {args : Array Value} {v : Value} {ds gs : List (DataW H)} {before pa pv : List MemPlace}
    (hW : DataW.Whole enc P f.params.toList s.vars apart W args.toList ds gs before)
    (hres : ∀ (b : Nat) (sp : Nat → Bool) (hd : Bool), DataW.TrodAll enc P W' b sp hd f.resultTypes.toList (v.resultList f.resultTypes.size) (s.fn H (ds ++ gs)).results [])
    (hargs : ∀ sp : Nat → Bool, (∀ p ∈ before, sp p.block = true) → DataW.TrodAll enc P W' 0 sp true f.params.toList args.toList (s.fn H (ds ++ gs)).args pa)
    (hvars : ∀ sp : Nat → Bool, (∀ p ∈ before, sp p.block = true) → DataW.TrodVars enc P W' sp s.vars (s.fn H (ds ++ gs)).vars pv)
    (hps : before = pa ++ pv) (hk : W.keptBut W' (· ∈ before)) (hfz : ∀ a : Addr, a.block < W.heap.size → W'.frozen? a = W.frozen? a)
    (hok : ∀ (j : Nat) (t : TypeId) (r : Value), f.resultTypes[j]? = some t → (v.resultList f.resultTypes.size)[j]? = some r → Value.okWide P W' .any 0 t r) :
    s.post enc P f apart fresh handsOn again W args v W' := by
  have hold : ∀ p ∈ before, (fun b => decide (b < W.heap.size)) p.block = true := fun p hp => by simpa using hW.lt p hp
  have hlt := hW.lt
  refine ⟨ds, gs, before, [], pa, pv, hW, hres _ _ _, hargs _ hold, hvars _ hold, World.keptBut_mono (fun p hp => ⟨hp, ?_⟩) hk, fun _ => ?_⟩
  · rw [hps, List.mem_append] at hp
    exact Or.inr hp
  · obtain ⟨_, _, _, _, _, hz, hn⟩ := hW
    refine ⟨hok, _, _, ([] ++ pa) ++ pv, ⟨[] ++ pa, pv, trodAll_append (hargs _ (fun _ _ => rfl)) (hres _ _ _), hvars _ (fun _ _ => rfl), rfl, ?_, ?_⟩, ?_⟩
    · intro b off hp
      have hp' : MemPlace.cell b off ∈ before := by rw [hps]; simpa using hp
      rw [hfz _ (hlt _ hp')]
      exact hz b off hp'
    · intro ha
      have := hn ha
      rw [hps] at this
      simpa using this
    · intro p hp _
      rw [hps]
      simpa using hp

theorem frozen_kept {W W' : World} {may : MemPlace → Prop} (h : W.keptBut W' may) (a : Addr) (ha : a.block < W.heap.size) : W'.frozen? a = W.frozen? a := by
  have := h.2.2 a.block ha
  have hx : W.heap[a.block]? = some W.heap[a.block] := Array.getElem?_eq_getElem ha
  rw [hx] at this
  unfold World.frozen?
  rw [hx]
  cases ho : W.heap[a.block] <;> rw [ho] at this <;> cases ho' : W'.heap[a.block]? <;> rw [ho'] at this
  all_goals first
    | (simp only [reduceCtorEq] at this; done)
    | (rename_i o; cases o <;> simp_all)
  all_goals simp_all

theorem contract_bytes {f : Func} {fid : Nat} {s : ChangeSpec} {T B E : Nat} (hp : f.params = #[T]) (hr : f.resultTypes = #[B]) (hT : P.underlying T = some (.slice E)) (hE : P.underlying E = some (.int .u8)) (hc : P.cellsOf E = 1) (hB : P.underlying B = some .bool)
    (hvars : s.vars = []) (hfn : ∀ H (d : DataW H), s.fn H [d] = { results := [.lit (.bool true)], args := [d] })
    (law : ∀ (W : World) (a : Option Addr) (len cap : Nat) (zs : List Int), zs.length = len → len ≤ cap → (∀ n ∈ zs, 0 ≤ n ∧ n ≤ 255) → (∀ i, i < len → ∃ p, a = some p ∧ W.cell? (p.add i) = some (.int .u8 (zs.getD i 0))) →
      Calls P fid #[.slice a len cap] W fun e W' => e = .returned (.bool true) ∧ W.keptBut W' (fun _ => False))
    {W : World} {base : Nat} {args : Array Value} {ds gs : List (DataW H)} {before : List MemPlace}
    (hval : ∀ (j : Nat) t v, f.params[j]? = some t → args[j]? = some v → Value.okWide P W .any base t v)
    (hW : DataW.Whole enc P f.params.toList s.vars false W args.toList ds gs before) :
    Calls P fid args W fun e W' => ∃ v, e = .returned v ∧ s.post enc P f false true false false W args v W' := by
  have hW' := hW
  obtain ⟨p, q, hA0, hV, rfl, _, _⟩ := hW
  have hA : DataW.TrodAll enc P W 0 (fun _ => true) true f.params.toList args.toList ds p := hA0
  rw [hp] at hA hval
  obtain ⟨v0, d0, rfl, rfl, h0⟩ := trodAll_one hA
  rw [hvars] at hV
  obtain ⟨rfl, rfl⟩ := trodVars_none hV
  obtain ⟨a0, len, cap, rfl⟩ := okWide_slice hT (hval 0 T v0 rfl rfl)
  obtain ⟨fuel, hfu⟩ := h0
  clear hA0
  simp only [List.append_nil] at hW'
  have mono : ∀ {W' : World}, W.keptBut W' (fun _ => False) → ∀ may, W.keptBut W' may := fun h may => World.keptBut_mono (fun _ f => f.elim) h
  rcases open_ints hT hE hc hfu with ⟨hcs, hx⟩ | ⟨a, len', cap', zs, hcs, _, hl, hm, hz, hx, hcell, hwz⟩
  · simp [Value.cells] at hcs
    obtain ⟨rfl, rfl, rfl⟩ := hcs
    simp only [Prod.mk.injEq] at hx
    obtain ⟨rfl, rfl⟩ := hx
    refine (law W none 0 0 [] rfl (Nat.le_refl _) (by simp) (by simp)).mono fun e W' ⟨he, hk⟩ => ?_
    subst he
    refine ⟨_, rfl, post_of_kept (pa := []) (pv := []) hW' (fun _ _ _ => ?_) (fun sp _ => ?_) (fun _ _ => ?_) rfl (mono hk _) (frozen_kept hk) ?_⟩
    · rw [hr, List.append_nil, hfn]; exact trodAll_mk1 (shut_bool hB _)
    · rw [hp, List.append_nil, hfn]; exact trodAll_mk1 (shut_slice_nil hT)
    · rw [hvars, List.append_nil, hfn]; rfl
    · exact Go.RowKit.ok_one hr rfl (okWide_bool_mk hB _)
  · simp [Value.cells] at hcs
    obtain ⟨rfl, rfl, rfl⟩ := hcs
    simp only [Prod.mk.injEq] at hx
    obtain ⟨rfl, rfl⟩ := hx
    simp only [if_true] at hz
    have hlz : len ≤ zs.length := by omega
    refine (law W (some a) len cap (zs.take len) (by simp; omega) hl ?_ ?_).mono fun e W' ⟨he, hk⟩ => ?_
    · intro n hn
      have := hwz n (List.mem_of_mem_take hn)
      simpa [Lit.wf, IntKind.min, IntKind.max, IntKind.signed, IntKind.bits] using this
    · intro i hi
      refine ⟨a, rfl, ?_⟩
      rw [hcell i (by omega)]
      congr 2
      simp [List.getD, List.getElem?_take, hi]
    · subst he
      have hcell' : ∀ i, i < zs.length → W'.cell? (a.add i) = some (.int .u8 (zs.getD i 0)) := by
        intro i hi
        have h1 := hcell i hi
        have hlt : (a.add i).block < W.heap.size := by
          rcases Nat.lt_or_ge (a.add i).block W.heap.size with h | h
          · exact h
          · simp [World.cell?, Array.getElem?_eq_none h] at h1
        have hsp := World.cell?_spot h1
        have hk2 := World.keptBut.cell hk (b := (a.add i).block) (off := (a.add i).off) hlt id
        have e : (⟨(a.add i).block, (a.add i).off, none⟩ : Addr) = a.add i := by rw [← hsp]
        rw [e] at hk2
        rw [hk2]; exact h1
      have again : ∀ sp : Nat → Bool, (∀ p ∈ MemPlace.row a zs.length, sp p.block = true) → DataW.TrodAll enc P W' 0 sp true [T] [.slice (some a) len cap] [.slice (lits .u8 (zs.take len)) (lits .u8 (zs.drop len))] (MemPlace.row a zs.length) := by
        intro sp hsp
        by_cases hz0 : zs.length = 0
        · have hc0 : cap = 0 := by omega
          have hl0 : len = 0 := by omega
          subst hc0; subst hl0
          have t0 := shut_ints (enc := enc) (w := W') (base := 0) (spare := sp) (held := true) (a := a) (len := 0) (cap := 0) (zs := zs) 0 hT hE hc (Nat.zero_le _) (Nat.le_refl _) hm (by simp [hz0]) hcell' hwz
          exact trodAll_mk1 ⟨2, by simpa [Value.cells] using t0⟩
        · have hspb : sp a.block = true := by
            have := hsp (.cell a.block a.off) (MemPlace.mem_row.2 ⟨0, by omega, by simp⟩)
            exact this
          have t0 := shut_ints (enc := enc) (w := W') (base := 0) (spare := sp) (held := true) (a := a) (len := len) (cap := cap) (zs := zs) 0 hT hE hc (Nat.zero_le _) hl hm (by simp [hspb, hz]) hcell' hwz
          exact trodAll_mk1 ⟨2, by simpa [Value.cells] using t0⟩
      refine ⟨_, rfl, post_of_kept (pa := MemPlace.row a zs.length) (pv := []) hW' (fun _ _ _ => ?_) (fun sp hsp => ?_) (fun _ _ => ?_) (by simp) (mono hk _) (frozen_kept hk) ?_⟩
      · rw [hr, List.append_nil, hfn]; exact trodAll_mk1 (shut_bool hB _)
      · rw [hp, List.append_nil, hfn]; exact again sp hsp
      · rw [hvars, List.append_nil, hfn]; rfl
      · exact Go.RowKit.ok_one hr rfl (okWide_bool_mk hB _)
end
end Go.Ev

/- FnKeys returns true for every input, on the conditions that the row itself states, and on no other (part 'EvTypes') -/
import Derived.Test.YtbkgalecdbmkaaaEvFun
import Derived.Laws.StructEq

namespace Go.Ev
open Go
set_option linter.unusedVariables false
set_option linter.unusedSimpArgs false

/-- nothing is told -/
def TI.none : TI := { kd := .no, row := [], bytes := 0, zero := [], eqs := false }

section
variable {P : Program} {ti : Nat → TI} {t : Nat}

theorem tyok_none (h : ti t = TI.none) : TyOk P ti t := by
  refine ⟨fun hk => ?_, fun hk => ?_, ?_, fun hk => ?_⟩
  · rw [h] at hk; cases hk
  · rw [h] at hk; cases hk
  · rw [h]; trivial
  · rw [h] at hk; cases hk

def undOk (P : Program) (t : Nat) : Kd → Prop
  | .no => False
  | .int k => P.underlying t = some (.int k)
  | .bool => P.underlying t = some .bool
  | .str => P.underlying t = some .string
  | .slice e => P.underlying t = some (.slice e)
  | .struct _ => False
  | .cell => ∃ d, P.underlying t = some d ∧ (match d with | .struct _ | .array _ _ | .int _ => false | _ => true) = true
/-- one cell -/
theorem tyok_one {k : Kd} {a : LTy} {b : Nat} {z : Lf} {i : TypeInfo} {zv : Value} (h : ti t = { kd := k, row := [a], bytes := b, zero := [z], eqs := false }) (ha : a.w = 1) (hi : P.info? t = some i) (h1 : i.size = 1) (h2 : i.bytes = b) (h3 : i.zero = some zv)
    (h4 : zv.cells = #[zv]) (h5 : zok z zv = true)
    (hu : undOk P t k) : TyOk P ti t := by
  have hw : roww [a] = 1 := by simp [roww, ha]
  refine ⟨fun _ => ⟨i, zv, hi, ?_, ?_, h3, ?_⟩, fun _ => ?_, ?_, fun hk => ?_⟩
  · rw [h]; simp only [hw, h1]
  · rw [h]; exact h2
  · rw [h, h4]; simp [zoks, h5]
  · rw [h]; simp [hw]
  · rw [h]
    cases k <;> simp only [undOk] at hu ⊢ <;> first | trivial | exact ⟨hu, hw⟩ | exact hu.elim
  · rw [h] at hk; cases hk

/-- an error, or another interface value, held against nil -/
theorem tyok_err {b : Nat} {i : TypeInfo} {ms : Array (String × Nat)} (h : ti t = { kd := .cell, row := [.er], bytes := b, zero := [.er true], eqs := true }) (hi : P.info? t = some i) (h1 : i.size = 1) (h2 : i.bytes = b) (h3 : i.zero = some .nilIface)
    (hu : P.underlying t = some (.interface ms)) : TyOk P ti t := by
  have hw : roww [LTy.er] = 1 := rfl
  refine ⟨fun _ => ⟨i, .nilIface, hi, ?_, ?_, h3, ?_⟩, fun _ => ?_, ?_, fun _ => ?_⟩
  · rw [h]; simp only [hw, h1]
  · rw [h]; exact h2
  · rw [h]; rfl
  · rw [h]; rfl
  · rw [h]; exact ⟨⟨_, hu, rfl⟩, hw⟩
  · rw [h]
    intro w T u
    have k1 : (Op.equal t (.iface T u) .nilIface).run P w = .ok false w := by
      show (Op.equalIn (9999 + 1) t (.iface T u) .nilIface).run P w = _
      rw [Op.equalIn]; simp [run_underlying hu]
    have k2 : (Op.equal t .nilIface .nilIface).run P w = .ok true w := by
      show (Op.equalIn (9999 + 1) t .nilIface .nilIface).run P w = _
      rw [Op.equalIn]; simp [run_underlying hu]
    refine ⟨?_, ?_, ?_, ?_⟩ <;> simp [binOp, k1, k2]

/-- a struct's fields -/
def fieldsOk (ti : Nat → TI) (n : Nat) : List (Nat × Nat) → List Field → Bool
  | [], [] => true
  | (o, ft) :: r, f :: q => ((ti ft).known && (Nat.ble (o + roww (ti ft).row) n && (Nat.blt 0 (roww (ti ft).row) && (Nat.beq f.offset o && Nat.beq f.type ft)))) && fieldsOk ti n r q
  | _, _ => false
theorem fields_at {n : Nat} : {fs : List (Nat × Nat)} → {fds : List Field} → fieldsOk ti n fs fds = true → fds.length = fs.length ∧
    ∀ (i o ft : Nat), fs[i]? = some (o, ft) → (ti ft).known = true ∧ o + roww (ti ft).row ≤ n ∧ 0 < roww (ti ft).row ∧ ∃ f : Field, fds[i]? = some f ∧ f.offset = o ∧ f.type = ft
  | [], [], _ => ⟨rfl, fun i o ft h => by simp at h⟩
  | [], _ :: _, h => by simp [fieldsOk] at h
  | _ :: _, [], h => by simp [fieldsOk] at h
  | (o, ft) :: r, f :: q, h => by
    simp only [fieldsOk, Bool.and_eq_true] at h
    obtain ⟨⟨h1, h2, h3, h4, h5⟩, h6⟩ := h
    obtain ⟨g1, g2⟩ := fields_at h6
    refine ⟨by simp [g1], fun i o' ft' hi => ?_⟩
    cases i with
    | zero =>
      simp at hi
      obtain ⟨rfl, rfl⟩ := hi
      exact ⟨h1, Nat.le_of_ble_eq_true h2, Nat.le_of_ble_eq_true h3, f, rfl, Nat.eq_of_beq_eq_true h4, Nat.eq_of_beq_eq_true h5⟩
    | succ i => simpa using g2 i o' ft' (by simpa using hi)

/-- fields of one cell each, that may be compared -/
def plainK (ti : Nat → TI) : Nat → Row → List Field → Bool
  | _, [], [] => true
  | i, a :: r, f :: q => ((match a, (ti f.type).kd with | .i k, .int k' => decide (k = k') | .bl, .bool => true | .st, .str => true | _, _ => false) && (Nat.beq f.offset i && decide (f.name ≠ "_"))) && plainK ti (i + 1) r q
  | _, _, _ => false

theorem part_run {w : World} {t : Nat} {xs : Array Value} {o : Nat} {v : Value} (hu : P.underlying t = some .bool ∨ P.underlying t = some .string ∨ ∃ k, P.underlying t = some (.int k)) (h : xs[o]? = some v) : (_root_.Go.part t xs o).run P w = Result.ok v w := by
  have ha : (isAgg t).run P w = .ok false w := by
    rcases hu with hu | hu | ⟨k, hu⟩ <;> simp [isAgg, run_underlying hu]
  simp only [_root_.Go.part, Sem.run_bind, ha, Result.andThen_ok, Bool.false_eq_true, if_false, h]
  rfl

theorem fields_run {w : World} {E E' : Env} {d : Nat} {xs ys : Array Value} : (fds : List Field) → (row : Row) → (i : Nat) → (ls ms : List Lf) → {r : Bool} → (∀ f ∈ fds, TyOk P ti f.type) → plainK ti i row fds = true → isRow row ls = true →
    lfsRl E ls (xs.toList.drop i) → lfsRl E' ms (ys.toList.drop i) → eqvs ls ms = some r → (Op.eqFields (d + 1) xs ys fds).run P w = .ok r w
  | [], row, i, ls, ms, r, ty, hp, hr, h1, h2, he => by
    cases row with
    | cons a r => simp [plainK] at hp
    | nil =>
      cases ls with
      | cons l q => simp [isRow] at hr
      | nil =>
        cases ms with
        | cons m q => simp [eqvs] at he
        | nil =>
          simp only [eqvs, Option.some.injEq] at he; subst he
          simp [Op.eqFields]
  | f :: fds, row, i, ls, ms, r, ty, hp, hr, h1, h2, he => by
    cases row with
    | nil => simp [plainK] at hp
    | cons a row =>
      simp only [plainK, Bool.and_eq_true, decide_eq_true_eq] at hp
      obtain ⟨⟨hk, ho, hn⟩, hp⟩ := hp
      have ho := Nat.eq_of_beq_eq_true ho
      cases ls with
      | nil => cases a <;> simp [isRow] at hr
      | cons l ls =>
        cases ms with
        | nil => cases ls <;> simp [eqvs] at he
        | cons m ms =>
          simp only [lfsRl] at h1 h2
          obtain ⟨v, vs, e1, hv, h1⟩ := h1
          obtain ⟨u, us, e2, hu, h2⟩ := h2
          have d1 : xs[i]? = some v := by
            have := congrArg (·[0]?) e1; simpa using this
          have d2 : ys[i]? = some u := by
            have := congrArg (·[0]?) e2; simpa using this
          have t1 : xs.toList.drop (i + 1) = vs := by rw [← List.drop_drop, e1]; rfl
          have t2 : ys.toList.drop (i + 1) = us := by rw [← List.drop_drop, e2]; rfl
          -- the first one, and what is left
          have hrest : isRow row ls = true := by
            cases a <;> cases l <;> simp [isRow] at hr <;> first | exact hr.2 | exact hr
          obtain ⟨b, hb, b', hb', hbr⟩ : ∃ b, l.eqv m = some b ∧ ∃ b', eqvs ls ms = some b' ∧ r = (b && b') := by
            cases ls with
            | nil =>
              cases ms with
              | nil => simp only [eqvs] at he; exact ⟨r, he, true, rfl, by simp⟩
              | cons _ _ => simp [eqvs] at he
            | cons l2 ls =>
              cases ms with
              | nil => simp [eqvs] at he
              | cons m2 ms =>
                simp only [eqvs] at he
                split at he
                · rename_i b b' g1 g2; cases he; exact ⟨b, g1, b', g2, rfl⟩
                · cases he
          have htf := (ty f (List.mem_cons_self ..)).und
          have first : (P.underlying f.type = some .bool ∨ P.underlying f.type = some .string ∨ ∃ k, P.underlying f.type = some (.int k)) ∧ (Op.equalIn (d + 1) f.type v u).run P w = .ok b w := by
            cases a with
            | i k =>
              cases hkd : (ti f.type).kd <;> rw [hkd] at hk htf <;> simp only [Bool.false_eq_true] at hk
              cases l <;> simp [isRow] at hr
              cases m <;> simp only [Lf.eqv, reduceCtorEq] at hb
              split at hb
              · cases hb
                simp only [Lf.rl] at hv hu
                subst hv; subst hu
                refine ⟨.inr (.inr ⟨_, htf.1⟩), ?_⟩
                rename_i hkk; subst hkk
                rw [run_equalIn_int w d f.type _ _ _ _ htf.1]
                congr 1
              · cases hb
            | bl =>
              cases hkd : (ti f.type).kd <;> rw [hkd] at hk htf <;> simp only [Bool.false_eq_true] at hk
              cases l <;> simp [isRow] at hr
              cases m <;> simp only [Lf.eqv, reduceCtorEq, Option.some.injEq] at hb
              simp only [Lf.rl] at hv hu
              subst hv; subst hu; subst hb
              exact ⟨.inl htf.1, run_equalIn_bool' w d f.type _ _ htf.1⟩
            | st =>
              cases hkd : (ti f.type).kd <;> rw [hkd] at hk htf <;> simp only [Bool.false_eq_true] at hk
              cases l <;> simp [isRow] at hr
              cases m <;> simp only [Lf.eqv, reduceCtorEq, Option.some.injEq] at hb
              simp only [Lf.rl] at hv hu
              obtain ⟨ba, rfl, hba⟩ := hv
              obtain ⟨bb, rfl, hbb⟩ := hu
              subst hb
              refine ⟨.inr (.inl htf.1), ?_⟩
              rw [run_equalIn_string w d f.type _ _ htf.1, toList_data, toList_data, hba, hbb, beq_dec]
            | _ => simp only [Bool.false_eq_true] at hk
          simp only [Op.eqFields, ne_eq, hn, not_false_eq_true, if_true, Sem.run_bind, ho, part_run first.1 d1, part_run first.1 d2, Result.andThen_ok, first.2]
          cases b with
          | false => simp [hbr]
          | true =>
            simp only [Bool.not_true, Bool.false_eq_true, if_false]
            rw [hbr, Bool.true_and]
            exact fields_run fds row (i + 1) ls ms (fun f hf => ty f (List.mem_cons_of_mem _ hf)) hp hrest (by rw [t1]; exact h1) (by rw [t2]; exact h2) hb'

/-- a struct -/
theorem tyok_st {fs : List (Nat × Nat)} {row : Row} {b : Nat} {z : List Lf} {e : Bool} {i : TypeInfo} {zv : Value} {fds : Array Field} (h : ti t = { kd := .struct fs, row := row, bytes := b, zero := z, eqs := e }) (hi : P.info? t = some i)
    (h1 : i.size = roww row) (h2 : i.bytes = b) (h3 : i.zero = some zv) (h4 : zoks z zv.cells.toList = true) (h5 : z.length = roww row) (hu : P.underlying t = some (.struct fds)) (hf : fieldsOk ti (roww row) fs fds.toList = true)
    (he : e = true → (P.eqGuardType P.depth t = false ∧ P.stoodInHeld t = false ∧ plainK ti 0 row fds.toList = true ∧ ∀ f ∈ fds.toList, TyOk P ti f.type)) : TyOk P ti t := by
  obtain ⟨g1, g2⟩ := fields_at hf
  refine ⟨fun _ => ⟨i, zv, hi, ?_, ?_, h3, ?_⟩, fun _ => ?_, ?_, fun hk => ?_⟩
  · rw [h]; exact h1
  · rw [h]; exact h2
  · rw [h]; exact h4
  · rw [h]; exact h5
  · rw [h]
    refine ⟨fds, hu, by simpa using g1, fun i o ft hi => ?_⟩
    obtain ⟨q1, q2, q3, f, q4, q5⟩ := g2 i o ft hi
    exact ⟨q1, q2, q3, f, by simpa using q4, q5⟩
  · rw [h] at hk ⊢
    obtain ⟨e1, e2, e3, e4⟩ := he hk
    have hfo : P.fieldsOf t = fds := by unfold Program.fieldsOf; rw [hu]
    refine ⟨e1, fun w xs ys E E' ls ms r hr hl hm hq => ?_⟩
    have key : (Op.equalIn 10000 t (.agg xs) (.agg ys)).run P w = .ok r w := by
      show (Op.equalIn (9998 + 1 + 1) t (.agg xs) (.agg ys)).run P w = _
      rw [run_equalIn_struct w (9998 + 1) t xs ys (by rw [hfo]; exact hu) e2, hfo]
      exact fields_run fds.toList row 0 ls ms e4 e3 hr (by simpa using hl) (by simpa using hm) hq
    constructor
    · rw [run_eql_struct, key]; rfl
    · rw [run_neq_struct, key]; rfl
end
end Go.Ev

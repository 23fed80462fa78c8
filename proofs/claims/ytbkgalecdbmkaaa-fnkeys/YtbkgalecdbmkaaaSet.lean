/- FnKeys returns true for every input, on the conditions that the row itself states, and on no other (part 'Set') -/
import Derived.Test.YtbkgalecdbmkaaaProg
import Derived.Shelf.Spec.SlicesGrow
import Derived.KernelRfl
import Derived.Test.YtbkgalecdbmkaaaEqs

namespace Go.Proofs
open Go Go.Shelf
def growRen : Ren := ⟨fun n => if n = 4 then 67 else n, fun n => if n = 22 then 24 else if n = 25 then 29 else n, fun n => n⟩
theorem growLays : Lays8.n4 Try.prog growRen where
  mixed := by kernel_rfl
  f4 := ⟨Try.f67.name, by kernel_rfl, by kernel_rfl⟩
  t0 := by kernel_rfl
  a0 := fun w => by kernel_rfl
  z0 := fun w => by kernel_rfl
  v0 := fun w => by kernel_rfl
  t3 := by kernel_rfl
  a3 := fun w => by kernel_rfl
  z3 := fun w => by kernel_rfl
  v3 := fun w => by kernel_rfl
  t4 := by kernel_rfl
  a4 := fun w => by kernel_rfl
  z4 := fun w => by kernel_rfl
  v4 := fun w => by kernel_rfl
  t9 := by kernel_rfl
  a9 := fun w => by kernel_rfl
  z9 := fun w => by kernel_rfl
  v9 := fun w => by kernel_rfl
  t20 := by kernel_rfl
  a20 := fun w => by kernel_rfl
  z20 := fun w => by kernel_rfl
  v20 := fun w => by kernel_rfl
  t22 := by kernel_rfl
  a22 := fun w => by kernel_rfl
  z22 := fun w => by kernel_rfl
  v22 := fun w => by kernel_rfl
end Go.Proofs

namespace Go.Ev
open Go Go.Proofs Go.Shelf
set_option linter.unusedVariables false
set_option maxRecDepth 100000

noncomputable def X0 : X ctx := evX ctx (Prims.none' ctx) 0
theorem fo0 : ∀ v, FnOk Try.prog (ctx.sig v) (X0.callee v) := fun v d r h => by cases h
theorem mixed : Try.prog.follows .mixedOrders = true := by kernel_rfl

theorem grow_told : FnOk Try.prog (ctx.sig 67) (growF itemR 40) :=
  grow_ok (c := ctx) tys growLays (et := 29) rfl (by kernel_rfl) (by kernel_rfl) (by kernel_rfl) rfl (by decide)
theorem index_told : FnOk Try.prog (ctx.sig 106) idxF := idx_ok (fn := Try.f106) Try.func106 (by kernel_rfl) rfl (by kernel_rfl) (by kernel_rfl)

theorem clone_eval (xs : List (rden itemR)) (h : cloneF itemR 40 xs = some xs) : evCode X0 42 8 (match Try.f42.body with | some (.seq _ (.seq _ r)) => r | _ => .skip) (fun e' σ => match e' with
      | .exit _ => none
      | _ => match [ResultVar.tmp 2].all (resOk σ ctx.ti) with
        | true => outs ctx.ti (cloneSig 42 itemR) [.tmp 2] σ
        | false => none) (start (cloneSig 42 itemR) xs) = some xs := by
  have e : evCode X0 42 8 (match Try.f42.body with | some (.seq _ (.seq _ r)) => r | _ => .skip) (fun e' σ => match e' with
      | .exit _ => none
      | _ => match [ResultVar.tmp 2].all (resOk σ ctx.ti) with
        | true => outs ctx.ti (cloneSig 42 itemR) [.tmp 2] σ
        | false => none) (start (cloneSig 42 itemR) xs) = (match decide ((([] : List (rden itemR)).length + xs.length) < limOf 40) with | true => some xs | false => none) := by kernel_rfl
  rw [e]
  unfold cloneF at h
  split at h
  · rename_i hc
    rw [decide_eq_true (show ([] : List (rden itemR)).length + xs.length < limOf 40 by simpa using hc)]
    rfl
  · cases h
theorem clone_told : FnOk Try.prog (ctx.sig 42) (cloneF itemR 40) :=
  clone_ok (c := ctx) (x := X0) tys fo0 mixed (v := 42) (f := 42) (fn := Try.f42) (ts := 24) (et := 29) Try.func42 (by kernel_rfl) rfl rfl rfl ⟨rfl, rfl, rfl⟩ ⟨rfl, rfl, rfl⟩ ⟨rfl, rfl, rfl⟩ ⟨rfl, rfl, rfl⟩ Try.underlying24 rfl (by decide) rfl clone_eval

def insRen : Ren := ⟨fun n => if n = 22 then 40 else if n = 29 then 58 else if n = 30 then 59 else n, fun n => if n = 9 then 29 else n, fun n => n⟩
noncomputable def itemZ : Value := match Try.t29.zero with | some z => z | none => .tuple #[]
theorem insLays : InsLays Try.prog insRen (roww itemR) Try.t29 itemZ where
  mixed := mixed
  f22 := ⟨Try.f40.name, by kernel_rfl, by kernel_rfl⟩
  ov := fun args w => run_callFunc_extern (fn := Try.f58) Try.func58 (by kernel_rfl) (by kernel_rfl) (by kernel_rfl) (by kernel_rfl) args w
  t3 := by kernel_rfl
  a3 := fun w => by kernel_rfl
  z3 := fun w => by kernel_rfl
  v3 := fun w => by kernel_rfl
  t4 := by kernel_rfl
  a4 := fun w => by kernel_rfl
  z4 := fun w => by kernel_rfl
  v4 := fun w => by kernel_rfl
  t24 := by kernel_rfl
  a24 := fun w => by kernel_rfl
  z24 := fun w => by kernel_rfl
  v24 := fun w => by kernel_rfl
  i9 := by kernel_rfl
  hz := rfl
  hs := rfl
theorem ins_none : FnOk Try.prog (insSig 40 itemR) (evFun X0 40) :=
  fun_ok (c := ctx) (x := X0) tys fo0 mixed (v := 40) (fun b hb => ⟨(fns 40 b hb).1, (fns 40 b hb).2.1⟩) (fun b hb p hp => by
    have e : (match (ctx.fn (ctx.sig 40).f).body with | some b => loopsIn b | none => []) = [] := by kernel_rfl
    rw [hb] at e
    simp only at e
    rw [e] at hp; cases hp)
theorem ins_told : FnOk Try.prog (ctx.sig 40) (insF itemR 40) :=
  ins_ok insLays (by kernel_rfl) rfl rfl (by decide) ins_none (fun y => by kernel_rfl)

theorem setup : Setup Try.prog ctx prim where
  ty := tys
  mix := mixed
  fn := fns
  prim := Prims.one_ok index_told (Prims.one_ok grow_told (Prims.one_ok clone_told (Prims.one_ok ins_told Prims.none_ok)))
end Go.Ev

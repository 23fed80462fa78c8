/- FnKeys returns true for every input, on the conditions that the row itself states, and on no other (part 'EvPrim5') -/
import Derived.Test.YtbkgalecdbmkaaaEvPrim
import Derived.Laws.Externs
import Derived.Lib.Bytealg

namespace Go.Ev
open Go Go.Proofs
set_option linter.unusedVariables false
set_option linter.unusedSimpArgs false

def idxF (d : List UInt8 × Int) : Option Int := some (Lib.indexByte d.1 d.2.toNat.toUInt8)
def idxSig (f : Nat) : Sig := { f := f, ps := [.val false [.st] [.s], .val false [.i .u8] [.s]], rs := [.val false [.i .i64] [.s]] }
theorem idx_ok {P : Program} {f : Nat} {fn : Func} (hf : P.funcs[f]? = some fn) (hname : (fn.name == "runtime.NumGoroutine") = false)
    (hb : fn.body.isNone = true) (hn : Extern.findNext fn = none) (he : Extern.find fn = some Extern.BytealgIndexByte.indexByte) : FnOk P (idxSig f) idxF := by
  intro d r h
  obtain ⟨s, k⟩ := d
  have hr : r = Lib.indexByte s k.toNat.toUInt8 := by unfold idxF at h; exact (Option.some.inj h).symm
  subst hr
  refine ⟨rfl, fun N G O args w hsz hN R => ?_⟩
  obtain ⟨v0, v1, rfl⟩ := args2 hsz
  have t0 : (Vl.one (.str s)).rl (env N G O (start (idxSig f) (s, k)) w.heap) v0 := (R.tm 0 _ rfl).2
  have t1 : (Vl.one (.int .u8 k)).rl (env N G O (start (idxSig f) (s, k)) w.heap) v1 := (R.tm 1 _ rfl).2
  simp only [Vl.rl, Lf.rl] at t0 t1
  obtain ⟨ba, rfl, rfl⟩ := t0
  subst t1
  refine .inr ⟨.int .i64 (Lib.indexByte ba.data.toList k.toNat.toUInt8), w, ?_, .rfl', fun t ht => ?_⟩
  · have key : ∀ k : Int, (callFunc f #[.string ba, .int .u8 k]).run P w = .ok (.value (.int .i64 (Lib.indexByte ba.data.toList k.toNat.toUInt8))) w := fun k => by
      rw [run_callFunc_extern hf hname hb hn he, run_indexByte_string, Lib.firstIdx_eq]
      rfl
    exact key k
  · exact one_ret (l := .int .i64 (Lib.indexByte ba.data.toList k.toNat.toUInt8)) rfl (by rw [hN]; exact Kp.refl _ _) fun E => by simp only [Lf.rl]
end Go.Ev

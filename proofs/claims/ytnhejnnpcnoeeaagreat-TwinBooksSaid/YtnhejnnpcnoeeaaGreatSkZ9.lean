/-
  The evaluator, whole.
-/
import Derived.Test.YtnhejnnpcnoeeaaGreatSkZ8
namespace Go.Sk
def noHooks : Hooks := fun _ _ _ => none
theorem mkEv_ok {P : Program} {mu : FuncId → Nat → Bool} (hm : P.follows .mixedOrders = true) (hn : P.funcs.all (fun fn => !(fn.name == "runtime.NumGoroutine")) = true) : EvOK (mkEv P mu noHooks) where
  hk := fun f args h v h' he => by cases he
  ng := fun f fn hf => by
    have := Array.all_eq_true_iff_forall_mem.1 hn fn (Array.mem_of_getElem? hf)
    simpa using this
  rgn := fun X f hP hX => drawn_ok hm hP hX f
end Go.Sk

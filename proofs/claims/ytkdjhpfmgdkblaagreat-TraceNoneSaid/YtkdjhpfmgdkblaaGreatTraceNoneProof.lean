/-
  It is proved that the law TraceNone (skeinlaw26) answers true for every integer and leaves its argument as it was. No further conditions.
-/
import Derived.Test.YtkdjhpfmgdkblaaGreatRows
import Derived.Test.YtkdjhpfmgdkblaaGreatSkK2
import Derived.WalkKit
import Derived.ProofKit
import Derived.OpenShut
import Derived.KernelRfl
namespace Go.Proofs.YtkdjhpfmgdkblaaGreat.traceNone
open Go.Sk Go.ChangeShapes Go.WideShapes Go.ChangeAt Go.RowKit
set_option linter.unusedVariables false

theorem own : ownKnob Tryz.prog.godebug = none := by kernel_rfl

theorem laid : laidOutB Tryz.prog = true := by kernel_rfl

/-- Which slices are written in place: those that these functions make. -/
def mu : FuncId → Nat → Bool := fun f _ => Nat.beq f 86 || Nat.beq f 90 || Nat.beq f 150

noncomputable def E : Ev := mkEv Tryz.prog mu noHooks
theorem hE : EvOK E := mkEv_ok (by kernel_rfl) (by kernel_rfl)

set_option maxRecDepth 100000 in
theorem run (a0 : Int) : retTrue (fCall Tryz.prog mu 300 (.func 5) [.int .i64 a0] .empty) = true := by kernel_rfl

theorem walk (a0 : Int) (w0 : (Lit.int .i64 a0).wf = true) (w : World) : Calls Tryz.prog 5 #[.int .i64 a0] w fun e w' => e = .returned (.bool true) ∧ Below w.heap.size w w' := by
  obtain ⟨h', he⟩ := retTrue_spec (run a0)
  have he' : evCall E 300 (.func 5) [.int .i64 a0] .empty = some (.ret (.bool true), h') := by
    rw [← he]; exact fCall_eq _ _ _ _ _ _
  exact ev_calls (cargs := [.int .i64 a0]) hE w (.cons (.int _ _) (.nil _)) he'

set_option maxRecDepth 100000 in
theorem lifted (os : Os) (started : os.Started) (H : Type) (enc : TypeId × Value → H) :
    ReturnsInHanded {} Tryz.checked os 5 .any (Rows.traceNoneSpec.pre6 enc Tryz.prog Tryz.f5 Rows.traceNoneRow.domain false) (Rows.traceNoneSpec.post enc Tryz.prog Tryz.f5 false true false false) := by
  refine returnsInHanded_of_change (C := Tryz.checked) own started (by kernel_rfl) Tryz.func5
    (ChangeSpec.witness6 (enc := enc) (C := Tryz.checked) false ⟨#[], #[.int .i64 0], []⟩ 8 (by kernel_rfl) (by kernel_rfl) (by kernel_rfl) (by kernel_rfl)) ?_
  intro W base args ds gs before hval0 hW hcnd _
  have hval : ∀ (j : Nat) t v, Tryz.f5.params[j]? = some t → args[j]? = some v → Value.okWide Tryz.prog W .any base t v := hval0
  have hW' := hW
  obtain ⟨p, q, hA0, hV, rfl, hfz, hnd⟩ := hW
  have hA : DataW.TrodAll enc Tryz.prog W 0 (fun _ => true) true Tryz.f5.params.toList args.toList ds p := hA0
  rw [Tryz.params5] at hA hval
  obtain ⟨v0, vs0, d0, ds0, p0, q0, hargs, rfl, rfl, h0, r0⟩ := trodAll_cons hA
  obtain ⟨rfl, rfl, rfl⟩ := trodAll_nil r0
  obtain rfl : args = #[v0] := by cases args; simp_all
  obtain ⟨rfl, rfl⟩ := trodVars_none hV
  obtain ⟨a0, rfl, rfl, rfl, w0⟩ := open_int Tryz.underlying3 (hval 0 3 v0 rfl rfl) h0
  clear hA0 hval0
  simp only [List.append_nil] at hW'
  refine (walk a0 w0 W).mono fun e W' ⟨he, hg⟩ => ?_
  subst he
  exact ⟨_, rfl, law_post (T := 4) hW' rfl rfl (by kernel_rfl) Tryz.underlying4 laid (by kernel_rfl) hg⟩

theorem over : Rows.traceNoneRow.holds Tryz.pinned (OpenSpec.ofChange Rows.traceNoneSpec) :=
  OpenClaim.holds_of_wide 5 Tryz.f5 rfl rfl rfl rfl rfl rfl rfl ⟨rfl, rfl, rfl, rfl, rfl⟩ rfl rfl rfl rfl rfl (by kernel_rfl) Tryz.func5 (by kernel_rfl)
    (of_decide_eq_true (by kernel_rfl)) (by unfold Func.isWrapper; first | (rw [if_pos (by decide +kernel)]; kernel_rfl) | (rw [if_neg (by decide +kernel)]; exact ⟨rfl, rfl⟩))
    (fun os started H enc _ => lifted os started H enc)

theorem proved : Rows.TraceNoneSaid :=
  over
#print axioms proved
end Go.Proofs.YtkdjhpfmgdkblaaGreat.traceNone

/-
  It is proved that the law UnaryReads (skeinlaw27) answers true for every net and leaves its argument as it was. No further conditions.
-/
import Derived.Test.YtpepjbbbaolheaaGreatRows
import Derived.Test.YtpepjbbbaolheaaGreatNtM5
import Derived.Test.YtpepjbbbaolheaaGreatNtMW
import Derived.WalkKit
import Derived.ProofKit
import Derived.OpenShut
import Derived.ChangeMaps5
import Derived.KernelRfl
namespace Go.Proofs.YtpepjbbbaolheaaGreat.unaryReads
open Go.Sk Go.ChangeShapes Go.WideShapes Go.ChangeAt Go.RowKit Go.Proofs.Nt
set_option linter.unusedVariables false
set_option maxRecDepth 10000

theorem own : ownKnob Tryz.prog.godebug = none := by kernel_rfl

theorem laid : laidOutB Tryz.prog = true := by kernel_rfl

/-- A contract that another evaluator shows, that writes other lists in place. -/
theorem mkEv_addy {P : Program} {mu mu' : FuncId → Nat → Bool} {hk hk0 : Hooks} {f : FuncId} {s : List AV → Option AV} (hE : EvOK (mkEv P mu hk)) (hE0 : EvOK (mkEv P mu' hk0))
    (hs : ∀ args v, s args = some v → plainV v = true ∧ ∃ n h', evCall (mkEv P mu' hk0) n (.func f) args .empty = some (.ret v, h')) : EvOK (mkEv P mu (addHk hk f s)) where
  hk := fun g args hh v hh' h ρ w cargs hR hb ha => by
    by_cases hg : g = f
    · subst hg
      obtain ⟨hfr, h', rfl⟩ := addHk_inv h
      obtain ⟨p2, n, h1, he⟩ := hs _ v h'
      exact ev_hook2 hE0 he hR ha hfr p2
    · have h' : hk g args hh = some (v, hh') := by rw [← addHk_other hk s args hh hg]; exact h
      exact hE.hk g args hh v hh' h' ρ w cargs hR hb ha
  ng := hE.ng
  rgn := hE.rgn

def sW : List AV → Option AV | [] => some (.bool true) | _ => none
def hkW := addHk hkUR 27 sW
theorem EW : EvOK (mkEv Tryz.prog mu0 hkW) := mkEv_addy EUR wE16 fun args v hs => by
  unfold sW at hs; split at hs
  · cases hs
    obtain ⟨h', he⟩ := runW'
    exact ⟨rfl, _, h', he⟩
  · cases hs

theorem run (x : AV) (nt : Nt) (hx : IsNet x nt) : ∃ n h', evCall (mkEv Tryz.prog mu0 hkW) n (.func 5) [x] .empty = some (.ret (.bool true), h') := by
  obtain ⟨h', hb⟩ := bLU (evCall (mkEv Tryz.prog mu0 hkW) 1) (rg Tryz.prog mu0 hkW 1 5) 1 x nt hx (hCN_of (fun _ _ => rfl) (by omega)) (hUR_of (fun _ _ => rfl) (by omega)) (hRG_of (fun _ _ => rfl) (by omega)) (fun h => ev_hk (hk_top (sp := sW) rfl rfl) (by omega)) .empty
  exact ev_ofS shT rfl Tryz.func5 rfl (by kernel_rfl) hb

theorem walk (x : AV) (v : Value) (w : World) (hv : VRel (rho0 w) x v) {n : Nt} (hx : IsNet x n) : Calls Tryz.prog 5 #[v] w fun e w' => e = .returned (.bool true) ∧ Below w.heap.size w w' := by
  obtain ⟨m, h', he⟩ := run x n hx
  exact ev_calls (cargs := [v]) EW w (.cons hv (.nil _)) he

set_option maxRecDepth 100000 in
theorem lifted (os : Os) (started : os.Started) (H : Type) (enc : TypeId × Value → H) :
    ReturnsInHanded {} Tryz.checked os 5 .any (Rows.unaryReadsSpec.pre6 enc Tryz.prog Tryz.f5 Rows.unaryReadsRow.domain false) (Rows.unaryReadsSpec.post enc Tryz.prog Tryz.f5 false true false false) := by
  refine returnsInHanded_of_change (C := Tryz.checked) own started (by kernel_rfl) Tryz.func5
    (ChangeSpec.witness6 (enc := enc) (C := Tryz.checked) false ⟨#[], #[.agg #[.slice none 0 0, .int .i64 0, .slice none 0 0]], []⟩ 8 (by kernel_rfl) (by kernel_rfl) (by kernel_rfl) (by kernel_rfl)) ?_
  intro W base args ds gs before hval0 hW hcnd _
  have hval : ∀ (j : Nat) t v, Tryz.f5.params[j]? = some t → args[j]? = some v → Value.okWide Tryz.prog W .any base t v := hval0
  have hW' := hW
  obtain ⟨p, q, hA0, hV, rfl, hfz, hnd⟩ := hW
  have hA : DataW.TrodAll enc Tryz.prog W 0 (fun _ => true) true Tryz.f5.params.toList args.toList ds p := hA0
  rw [Tryz.params5] at hA hval
  obtain ⟨v0, vs0, d0, ds0, p0, q0, hargs, rfl, rfl, h0, r0⟩ := trodAll_cons hA
  obtain ⟨rfl, rfl, rfl⟩ := trodAll_nil r0
  obtain rfl : args = #[v0] := by cases args; simp_all
  obtain ⟨rfl, rfl⟩ := trodVars_none hV
  obtain ⟨x, n, hxv, hx⟩ := open_net (hval 0 43 v0 rfl rfl) h0
  clear hA0 hval0
  simp only [List.append_nil] at hW'
  refine (walk x v0 W hxv hx).mono fun e W' ⟨he, hg⟩ => ?_
  subst he
  exact ⟨_, rfl, law_post (T := 4) hW' rfl rfl (by kernel_rfl) Tryz.underlying4 laid (by kernel_rfl) hg⟩

theorem over : Rows.unaryReadsRow.holds Tryz.pinned (OpenSpec.ofChange Rows.unaryReadsSpec) :=
  OpenClaim.holds_of_wide 5 Tryz.f5 rfl rfl rfl rfl rfl rfl rfl ⟨rfl, rfl, rfl, rfl, rfl⟩ rfl rfl rfl rfl rfl (by kernel_rfl) Tryz.func5 (by kernel_rfl)
    (of_decide_eq_true (by kernel_rfl)) (by unfold Func.isWrapper; first | (rw [if_pos (by decide +kernel)]; kernel_rfl) | (rw [if_neg (by decide +kernel)]; exact ⟨rfl, rfl⟩))
    (fun os started H enc _ => lifted os started H enc)

theorem proved : Rows.UnaryReadsSaid :=
  over
#print axioms proved
end Go.Proofs.YtpepjbbbaolheaaGreat.unaryReads

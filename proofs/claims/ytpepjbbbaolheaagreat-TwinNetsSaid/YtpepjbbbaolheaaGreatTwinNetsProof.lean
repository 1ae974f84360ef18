/- It is proved that the law TwinNets (skeinlaw28) answers true for every signature and every net and leaves its arguments as they were. No further conditions. -/
import Derived.Test.YtpepjbbbaolheaaGreatRows
import Derived.Test.YtpepjbbbaolheaaGreatNtM4
import Derived.Test.YtpepjbbbaolheaaGreatNtMW
import Derived.WalkKit
import Derived.ProofKit
import Derived.OpenShut
import Derived.ChangeMaps5
import Derived.KernelRfl
set_option linter.unusedVariables false
set_option linter.unusedSimpArgs false
set_option maxRecDepth 10000
namespace Go.Proofs.YtpepjbbbaolheaaGreat.twinNets
open Go.Sk Go.ChangeShapes Go.WideShapes Go.ChangeAt Go.RowKit Go.Proofs.Nt

theorem own : ownKnob Tryz.prog.godebug = none := by kernel_rfl

theorem laid : laidOutB Tryz.prog = true := by kernel_rfl

def sW : List AV → Option AV | [] => some (.bool true) | _ => none
noncomputable def hkW := addHk hk4 8 sW
theorem EW : EvOK (mkEv Tryz.prog mu0 hkW) := mkEv_addy E4 wE17 fun args v hs => by
  unfold sW at hs; split at hs
  · cases hs
    obtain ⟨h', he⟩ := runW'
    exact ⟨rfl, _, h', he⟩
  · cases hs

theorem run (y x : AV) (s : List Ag) (nt : Nt) (hy : IsSig y s) (hx : IsNet x nt) : ∃ n h', evCall (mkEv Tryz.prog mu0 hkW) n (.func 4) [y, x] .empty = some (.ret (.bool true), h') := by
  obtain ⟨h', hb⟩ := bTN (evCall (mkEv Tryz.prog mu0 hkW) 1) (rg Tryz.prog mu0 hkW 1 4) 1 y x s nt hy hx (h4_of (fun _ _ => rfl) (by omega)) (hCA_of (fun _ _ => rfl) (by omega)) (hCN_of (fun _ _ => rfl) (by omega)) (hTT_of (fun _ _ => rfl) (by omega)) (hK3_of (fun _ _ => rfl) (by omega)) (hRT_of (fun _ _ => rfl) (by omega)) (hCo_of (fun _ _ => rfl) (by omega)) (hEr_of (fun _ _ => rfl) (by omega)) (hMRt_of (fun _ _ => rfl) (by omega)) (hMRf_of (fun _ _ => rfl) (by omega)) (h9_of (fun _ _ => rfl) (by omega)) (fun h => ev_hk (hk_top (sp := sW) rfl rfl) (by omega)) (fun _ _ _ => rfl) .empty
  exact ev_ofS shT rfl Tryz.func4 rfl (by kernel_rfl) hb

theorem walk (y x : AV) (u v : Value) (w : World) (hu : VRel (rho0 w) y u) (hv : VRel (rho0 w) x v) {s : List Ag} {n : Nt} (hy : IsSig y s) (hx : IsNet x n) : Calls Tryz.prog 4 #[u, v] w fun e w' => e = .returned (.bool true) ∧ Below w.heap.size w w' := by
  obtain ⟨m, h', he⟩ := run y x s n hy hx
  exact ev_calls (cargs := [u, v]) EW w (.cons hu (.cons hv (.nil _))) he

set_option maxRecDepth 100000 in
theorem lifted (os : Os) (started : os.Started) (H : Type) (enc : TypeId × Value → H) :
    ReturnsInHanded {} Tryz.checked os 4 .any (Rows.twinNetsSpec.pre6 enc Tryz.prog Tryz.f4 Rows.twinNetsRow.domain false) (Rows.twinNetsSpec.post enc Tryz.prog Tryz.f4 false true false false) := by
  refine returnsInHanded_of_change (C := Tryz.checked) own started (by kernel_rfl) Tryz.func4
    (ChangeSpec.witness6 (enc := enc) (C := Tryz.checked) false ⟨#[], #[.slice none 0 0, .agg #[.slice none 0 0, .int .i64 0, .slice none 0 0]], []⟩ 8 (by kernel_rfl) (by kernel_rfl) (by kernel_rfl) (by kernel_rfl)) ?_
  intro W base args ds gs before hval0 hW hcnd _
  have hval : ∀ (j : Nat) t v, Tryz.f4.params[j]? = some t → args[j]? = some v → Value.okWide Tryz.prog W .any base t v := hval0
  have hW' := hW
  obtain ⟨p, q, hA0, hV, rfl, hfz, hnd⟩ := hW
  have hA : DataW.TrodAll enc Tryz.prog W 0 (fun _ => true) true Tryz.f4.params.toList args.toList ds p := hA0
  rw [Tryz.params4] at hA hval
  obtain ⟨v0, vs0, d0, ds0, p0, q0, hargs, rfl, rfl, h0, r0⟩ := trodAll_cons hA
  obtain ⟨v1, vs1, d1, ds1, p1, q1, rfl, rfl, rfl, h1, r1⟩ := trodAll_cons r0
  obtain ⟨rfl, rfl, rfl⟩ := trodAll_nil r1
  obtain rfl : args = #[v0, v1] := by cases args; simp_all
  obtain ⟨rfl, rfl⟩ := trodVars_none hV
  obtain ⟨y, s, hyv, hy⟩ := open_sig (hval 0 22 v0 rfl rfl) h0
  obtain ⟨x, n, hxv, hx⟩ := open_net (hval 1 43 v1 rfl rfl) h1
  clear hA0 hval0
  simp only [List.append_nil] at hW'
  refine (walk y x v0 v1 W hyv hxv hy hx).mono fun e W' ⟨he, hg⟩ => ?_
  subst he
  exact ⟨_, rfl, law_post (T := 4) hW' rfl rfl (by kernel_rfl) Tryz.underlying4 laid (by kernel_rfl) hg⟩

theorem over : Rows.twinNetsRow.holds Tryz.pinned (OpenSpec.ofChange Rows.twinNetsSpec) :=
  OpenClaim.holds_of_wide 4 Tryz.f4 rfl rfl rfl rfl rfl rfl rfl ⟨rfl, rfl, rfl, rfl, rfl⟩ rfl rfl rfl rfl rfl (by kernel_rfl) Tryz.func4 (by kernel_rfl)
    (of_decide_eq_true (by kernel_rfl)) (by unfold Func.isWrapper; first | (rw [if_pos (by decide +kernel)]; kernel_rfl) | (rw [if_neg (by decide +kernel)]; exact ⟨rfl, rfl⟩))
    (fun os started H enc _ => lifted os started H enc)

theorem proved : Rows.TwinNetsSaid :=
  over
#print axioms proved
end Go.Proofs.YtpepjbbbaolheaaGreat.twinNets

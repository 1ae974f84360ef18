/-
  A hook out of a contract of the kit's: a call that answers a value made of nothing but itself and leaves the world as it was but for new blocks.
-/
import Derived.Test.YtfhgobimlckfeaaGreatDoorSkX8
import Derived.Test.YtfhgobimlckfeaaGreatDoorSkX5
namespace Go.Sk

theorem ev_hookC {P : Program} {f : FuncId} {cargs : Array Value} {cv : Value} {v : AV} {ρ : Rho} {h : AH} {w : World} (hR : Rel ρ h w) (hc : Calls P f cargs w fun e w' => e = .returned cv ∧ RowKit.Below w.heap.size w w') (hv : VRel ρ v cv) :
    Calls P f cargs w (EndPost ρ h w (.ret v) h) := by
  refine hc.mono fun e w' hp => ?_
  obtain ⟨rfl, hb⟩ := hp
  have hg : Grew w w' := ⟨hb.os, hb.tape, hb.output, hb.size, hb.block⟩
  exact ⟨v, ρ, rfl, hv, hR.grew hg, Stp.grew hg⟩

theorem LRel.weak {ρ : Rho} {args : List AV} {cargs : List Value} (ha : LRel ρ args cargs) (hf : freeL args = true) : LRel ρ (weakL args) cargs :=
  ⟨by rw [weakL_length]; exact ha.1, fun i hi hj => by
    have hi' : i < args.length := by rw [weakL_length] at hi; exact hi
    rw [weakL_get args i hi']
    exact VRel.hideTo (ρ2 := ρ) (fun _ _ _ e => e) (ha.2 i hi' hj) (freeL_get hf i hi')⟩

theorem mkEv_addC {P : Program} {mu : FuncId → Nat → Bool} {hk : Hooks} {f : FuncId} {s : List AV → Option AV} (hE : EvOK (mkEv P mu hk)) (hk' : FnOK P f)
    (hs : ∀ args v, s args = some v → ∀ ρ h w cargs, Rel ρ h w → LRel ρ args cargs → ∃ cv, VRel ρ v cv ∧ Calls P f cargs.toArray w fun e w' => e = .returned cv ∧ RowKit.Below w.heap.size w w') : EvOK (mkEv P mu (addHk hk f s)) where
  hk := fun g args hh v hh' h ρ w cargs hR hb ha => by
    by_cases hg : g = f
    · subst hg
      obtain ⟨hfr, h', rfl⟩ := addHk_inv h
      obtain ⟨cv, h1, h2⟩ := hs _ v h' ρ _ w cargs hR (ha.weak hfr)
      exact ⟨hk', ev_hookC hR h2 h1⟩
    · have h' : hk g args hh = some (v, hh') := by rw [← addHk_other hk s args hh hg]; exact h
      exact hE.hk g args hh v hh' h' ρ w cargs hR hb ha
  ng := hE.ng
  rgn := hE.rgn

/-- A global whose cells are known. -/
theorem Rel.var {ρ : Rho} {h : AH} {w : World} (hR : Rel ρ h w) {P : Program} {name : String} {g : Nat} {cs : Array Value} (hn : P.globalNamed name = some g) (h0 : im0 g = some cs) : w.var? P name = some cs := by
  obtain ⟨_, T, fr, h1⟩ := hR.glob g cs h0
  simp only [World.var?, hn, Option.bind_some, h1]

end Go.Sk


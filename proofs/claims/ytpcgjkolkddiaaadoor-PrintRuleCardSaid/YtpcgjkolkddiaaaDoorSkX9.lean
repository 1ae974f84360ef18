/-
  A hook out of a contract of the kit's: a call that answers a value made of nothing but itself and leaves the world as it was but for new blocks.
-/
import Derived.Test.YtpcgjkolkddiaaaDoorSkX8
import Derived.Test.YtpcgjkolkddiaaaDoorSkX5
namespace Go.Sk

theorem ev_hookC {P : Program} {f : FuncId} {cargs : Array Value} {cv : Value} {v : AV} {ρ : Rho} {h : AH} {w : World} (hR : Rel ρ h w) (hc : Calls P f cargs w fun e w' => e = .returned cv ∧ RowKit.Below w.heap.size w w') (hv : VRel ρ v cv) :
    Calls P f cargs w (EndPost ρ h w (.ret v) h) := by
  refine hc.mono fun e w' hp => ?_
  obtain ⟨rfl, hb⟩ := hp
  have hg : Grew w w' := ⟨hb.os, hb.tape, hb.output, hb.size, hb.block⟩
  exact ⟨v, ρ, rfl, hv, hR.grew hg, Stp.grew hg⟩

theorem LRel.weak {ρ : Rho} {args : List AV} {cargs : List Value} (ha : LRel ρ args cargs) (hf : freeL args = true) : LRel ρ (weakL args) cargs :=
  ⟨by rw [weakL_length]; exact ha.1, fun i hi hj => by
    have hi' : i < args.length := by rw [weakL_length] at hi; exact hi
    rw [weakL_get args i hi']
    exact VRel.hideTo (ρ2 := ρ) (fun _ _ _ e => e) (ha.2 i hi' hj) (freeL_get hf i hi')⟩

theorem mkEv_addC {P : Program} {mu : FuncId → Nat → Bool} {hk : Hooks} {f : FuncId} {s : List AV → Option AV} (hE : EvOK (mkEv P mu hk)) (hk' : FnOK P f)
    (hs : ∀ args v, s args = some v → ∀ ρ h w cargs, Rel ρ h w → LRel ρ args cargs → ∃ cv, VRel ρ v cv ∧ Calls P f cargs.toArray w fun e w' => e = .returned cv ∧ RowKit.Below w.heap.size w w') : EvOK (mkEv P mu (addHk hk f s)) where
  hk := fun g args hh v hh' h ρ w cargs hR hb ha => by
    by_cases hg : g = f
    · subst hg
      obtain ⟨hfr, h', rfl⟩ := addHk_inv h
      obtain ⟨cv, h1, h2⟩ := hs _ v h' ρ _ w cargs hR (ha.weak hfr)
      exact ⟨hk', ev_hookC hR h2 h1⟩
    · have h' : hk g args hh = some (v, hh') := by rw [← addHk_other hk s args hh hg]; exact h
      exact hE.hk g args hh v hh' h' ρ w cargs hR hb ha
  ng := hE.ng
  rgn := hE.rgn

/-- A global whose cells are known. -/
theorem Rel.var {ρ : Rho} {h : AH} {w : World} (hR : Rel ρ h w) {P : Program} {name : String} {g : Nat} {cs : Array Value} (hn : P.globalNamed name = some g) (h0 : im0 g = some cs) : w.var? P name = some cs := by
  obtain ⟨_, T, fr, h1⟩ := hR.glob g cs h0
  simp only [World.var?, hn, Option.bind_some, h1]

/-- .. and its group is the one it had, or a new one. -/
theorem append_grow2 {P : Program} {types : Array TypeId} {t tx : TypeId} {elem : TypeId} {d : TypeDesc} {l x z : AV} {xs ys : List AV} {h : AH} {n : Nat}
    (h0 : types[0]? = some t) (h1 : types[1]? = some tx) (ht : P.underlying t = some (.slice elem)) (htx : P.underlying tx = some d) (hd : ∀ k, d ≠ .int k)
    (hx : aElems P elem x h = some ys) (hn : sizeT P elem = some n) (hz : zeroT P elem = some z) (hn0 : n ≠ 0) (hzn : z.cells.length = n) (hzs : z.cells.all AV.scalar = true)
    (hy : ys ≠ []) (hhy : headOk n ys = true) (hhx : headOk n xs = true) (hl : Grow h l xs)
    (hb : (xs.length + ys.length) * P.bytesOf elem ≤ 140737488355328) (hb2 : xs.length + ys.length ≤ 140737488355328) :
    ∃ l' h', aAppend P false types l x h = some (l', h') ∧ Grow h' l' (xs ++ ys) ∧ h.next.nat ≤ h'.next.nat ∧ (∀ q o, h.get q = some o → ownOf l ≠ some q → q.nat < h.next.nat → h'.get q = some o) ∧ (∀ q, ownOf l' = some q → ownOf l = some q ∨ h.next.nat ≤ q.nat) := by
  have hyl : ys.length ≠ 0 := fun e => hy (List.eq_nil_of_length_eq_zero e)
  unfold aAppend
  simp only [h0, h1, ht, htx]
  rcases hl with ⟨rfl, rfl⟩ | ⟨g, rfl, hxs, hg, hgn⟩
  · refine ⟨.vsl ys (.own h.next ys.length), h.alloc (.grp ys.length), ?_, .inr ⟨h.next, by simp, by simpa using hy, by simp [AH.get_alloc], by simp [AH.next_alloc, Id.nat_succ]⟩, by simp [AH.next_alloc, Id.nat_succ], fun q o hq _ hlt => ?_, fun q hq => ?_⟩
    · cases d <;> first | exact absurd rfl (hd _) | skip
      all_goals (simp only [hx, hn, hz]; simp_all; try omega)
    · rw [AH.get_alloc, if_neg]; exact hq
      rintro rfl; omega
    · simp only [ownOf, Option.some.injEq] at hq; subst hq; exact .inr (Nat.le_refl _)
  · have hxl : xs.length ≠ 0 := fun e => hxs (List.eq_nil_of_length_eq_zero e)
    refine ⟨.vsl (xs ++ ys) (.own g (xs.length + ys.length)), h.set g (.grp (xs.length + ys.length)), ?_, .inr ⟨g, by simp, by simp [hxs], by simp [AH.get_set], by simpa [AH.next_set] using hgn⟩, by simp [AH.next_set], fun q o hq hne _ => ?_, fun q hq => .inl hq⟩
    · cases d <;> first | exact absurd rfl (hd _) | skip
      all_goals (simp only [hx, hn, hz]; simp_all; try omega)
    · rw [AH.get_set, if_neg]; exact hq
      rintro rfl; exact hne rfl

end Go.Sk


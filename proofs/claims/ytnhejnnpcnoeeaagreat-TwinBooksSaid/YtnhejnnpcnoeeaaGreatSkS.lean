/-
  One operation that is no call: what the evaluator says of it holds.
-/
import Derived.Test.YtnhejnnpcnoeeaaGreatSkR2
namespace Go.Sk
variable {P : Program} {ρ : Rho} {h : AH} {w : World} {tm : List AV} {a : Act}
theorem aEval_rel {x : Operand} {v : AV} (he : aEval tm x = some v) (ha : LRel ρ tm a.tmps.toList) : VRel ρ v (a.eval x) := by
  cases x with
  | tmp t =>
    simp only [aEval, Option.some.injEq] at he; subst he
    have := LRel.getD t ha (VRel.undef ρ)
    simpa [Act.eval, List.getD, Array.getD_eq_getD_getElem?] using this
  | const v => exact VRel.of_const he
  | global g => cases he
  | func f =>
    simp only [aEval, Option.some.injEq] at he; subst he
    exact .fn (.func f) (.func f) [] [] #[] #[] rfl rfl (fun i hi => by simp at hi) rfl (fun i hi => by simp at hi)
theorem evalAll_rel : ∀ {l : List Operand} {vs : List AV}, evalAll tm l = some vs → LRel ρ tm a.tmps.toList → LRel ρ vs (l.map a.eval)
  | [], vs, he, _ => by simp only [evalAll, Option.some.injEq] at he; subst he; exact .nil ρ
  | o :: r, vs, he, ha => by
    simp only [evalAll] at he
    split at he
    · rename_i v l h1 h2
      simp only [Option.some.injEq] at he; subst he
      exact .cons (aEval_rel h1 ha) (evalAll_rel h2 ha)
    · cases he
theorem evalParts_rel : ∀ {l : List (Nat × Operand)} {vs : List (Nat × AV)}, evalParts tm l = some vs → LRel ρ tm a.tmps.toList → PRel ρ vs (l.map fun (i, x) => (i, a.eval x))
  | [], vs, he, _ => by simp only [evalParts, Option.some.injEq] at he; subst he; exact ⟨rfl, fun i hi => by simp at hi⟩
  | (i, o) :: r, vs, he, ha => by
    simp only [evalParts] at he
    split at he
    · rename_i v l h1 h2
      simp only [Option.some.injEq] at he; subst he
      have ih := evalParts_rel h2 ha
      refine ⟨by simp [ih.1], fun k hk hj => ?_⟩
      cases k with
      | zero => exact ⟨rfl, aEval_rel h1 ha⟩
      | succ k =>
        have := ih.2 k (by simpa using hk) (by simpa using hj)
        simp only [List.map_cons, List.getElem_cons_succ]
        exact this
    · cases he
theorem evalOpt_rel {x : Option Operand} {v : Option AV} (he : evalOpt tm x = some v) (ha : LRel ρ tm a.tmps.toList) : OptRel ρ v (x.map a.eval) := by
  cases x with
  | none => simp only [evalOpt, Option.some.injEq] at he; subst he; trivial
  | some o =>
    simp only [evalOpt, Option.map_eq_some_iff] at he
    obtain ⟨y, h1, rfl⟩ := he
    exact aEval_rel h1 ha
def Od (P : Program) (ρ : Rho) (h : AH) (w : World) (s : Sem Next) (r : AOut) (h' : AH) : Prop :=
  match r with
  | .ret v => ∃ cv w' ρ', (s.run P w = .ok (.value cv) w' ∨ (s.run P w = .ok .skip w' ∧ cv = Go.undef)) ∧ VRel ρ' v cv ∧ Rel ρ' h' w' ∧ Stp ρ h w ρ' h' w'
  | .pan v => ∃ cv, s.run P w = .halt (.panic cv) w ∧ VRel ρ v cv ∧ h' = h
theorem Od.v {s : Sem Value} {v : AV} {h' : AH} (hs : Gd P ρ h w s v h') : Od P ρ h w (do pure (.value (← s))) (.ret v) h' := by
  obtain ⟨cv, w', ρ', h1, h2, h3, h4⟩ := hs
  exact ⟨cv, w', ρ', .inl (by simp [h1]), h2, h3, h4⟩
theorem Od.p {s : Sem Value} {v : AV} (hR : Rel ρ h w) (hs : ∃ cv, s.run P w = .ok cv w ∧ VRel ρ v cv) : Od P ρ h w (do pure (.value (← s))) (.ret v) h := Od.v (Gd.pure hR hs)
theorem Od.u {s : Sem Unit} {h' : AH} (hs : Gu P ρ h w s h') : Od P ρ h w (do s; pure .skip) (.ret undefA) h' := by
  obtain ⟨w', ρ', h1, h3, h4⟩ := hs
  exact ⟨Go.undef, w', ρ', .inr ⟨by simp [h1], rfl⟩, VRel.undef _, h3, h4⟩
theorem vOf_some {h h' : AH} {x : Option AV} {r : AOut} (e : vOf h x = some (r, h')) : ∃ v, x = some v ∧ r = .ret v ∧ h' = h := by
  cases x with
  | none => cases e
  | some v => simp only [vOf, Option.some.injEq, Prod.mk.injEq] at e; exact ⟨v, rfl, e.1.symm, e.2.symm⟩
theorem vhOf_some {h' : AH} {x : Option (AV × AH)} {r : AOut} (e : vhOf x = some (r, h')) : ∃ v, x = some (v, h') ∧ r = .ret v := by
  cases x with
  | none => cases e
  | some p => obtain ⟨v, h1⟩ := p; simp only [vhOf, Option.some.injEq, Prod.mk.injEq] at e; exact ⟨v, by rw [e.2], e.1.symm⟩
theorem hOf_some {h' : AH} {x : Option AH} {r : AOut} (e : hOf x = some (r, h')) : x = some h' ∧ r = .ret undefA := by
  cases x with
  | none => cases e
  | some p => simp only [hOf, Option.some.injEq, Prod.mk.injEq] at e; exact ⟨by rw [e.2], e.1.symm⟩
theorem run_evOp {X : Cx} (hP : X.P = P) (hR : Rel ρ h w) (hb : ρ.base ≤ w.heap.size) (ha : LRel ρ tm a.tmps.toList) {fn : FuncId} {o : Oper} (hnc : ∀ c, o.op ≠ .call c) {r : AOut} {h' : AH}
    (he : evOp X fn tm o h = some (r, h')) : Od P ρ h w (execOp a.eval o) r h' := by
  unfold evOp at he
  simp only [hP] at he
  unfold execOp
  split at he
  · -- move
    rename_i x ho
    obtain ⟨v, h1, rfl, rfl⟩ := vOf_some he
    simp only [ho]
    exact ⟨_, w, ρ, .inl rfl, aEval_rel h1 ha, hR, .refl ρ _ w⟩
  · rename_i x ho
    obtain ⟨v, h1, rfl, rfl⟩ := vOf_some he
    simp only [ho]
    exact ⟨_, w, ρ, .inl rfl, aEval_rel h1 ha, hR, .refl ρ _ w⟩
  · -- pick
    rename_i c x y ho
    simp only [ho]
    split at he
    · rename_i hc
      have := aEval_rel hc ha
      generalize a.eval c = cc at this
      cases this
      obtain ⟨v, h1, rfl, rfl⟩ := vOf_some he
      exact ⟨_, w, ρ, .inl rfl, aEval_rel h1 ha, hR, .refl ρ _ w⟩
    · rename_i hc
      have := aEval_rel hc ha
      generalize a.eval c = cc at this
      cases this
      obtain ⟨v, h1, rfl, rfl⟩ := vOf_some he
      exact ⟨_, w, ρ, .inl rfl, aEval_rel h1 ha, hR, .refl ρ _ w⟩
    · cases he
  · -- alloc
    rename_i elem ho
    simp only [ho]
    split at he
    · rename_i z hz
      obtain ⟨v, h1, rfl⟩ := vhOf_some he
      exact Od.v (run_alloc hR hb hz h1)
    · cases he
  · -- box
    rename_i elem x ho
    simp only [ho]
    split at he
    · rename_i v hv
      obtain ⟨p, h1, rfl⟩ := vhOf_some he
      exact Od.v (run_box hR hb h1 (aEval_rel hv ha))
    · cases he
  · -- build
    rename_i t parts ho
    simp only [ho]
    split at he
    · rename_i l hl
      obtain ⟨v, h1, rfl, rfl⟩ := vOf_some he
      have hp := evalParts_rel hl ha
      have := run_aBuild (P := P) hp h1 w
      rw [← List.map_toArray] at this
      exact Od.p hR (by simpa using this)
    · cases he
  · -- buildSlice
    rename_i t len parts ho
    simp only [ho]
    split at he
    · rename_i l hl
      obtain ⟨v, h1, rfl⟩ := vhOf_some he
      have := run_aBuildSlice (P := P) hR hb (evalParts_rel hl ha) h1
      rw [← List.map_toArray] at this
      exact Od.v (by simpa using this)
    · cases he
  · -- load
    rename_i t x ho
    simp only [ho]
    split at he
    · rename_i p hp
      obtain ⟨v, h1, rfl, rfl⟩ := vOf_some he
      exact Od.p hR (run_aLoad hR h1 (aEval_rel hp ha))
    · cases he
  · -- store
    rename_i t x y ho
    simp only [ho]
    split at he
    · rename_i p v hp hv
      obtain ⟨h1, rfl⟩ := hOf_some he
      exact Od.u (run_aStore hR h1 (aEval_rel hp ha) (aEval_rel hv ha))
    · cases he
  · -- nilCheck
    rename_i x ho
    simp only [ho]
    split at he
    · rename_i r off hx
      have := aEval_rel hx ha
      generalize a.eval x = cx at this
      simp only [Option.some.injEq, Prod.mk.injEq] at he; obtain ⟨rfl, rfl⟩ := he
      cases this with | ptr _ _ b hb' =>
      exact ⟨_, w, ρ, .inl rfl, .ptr _ _ _ hb', hR, .refl ρ _ w⟩
    · rename_i v hx
      have := aEval_rel hx ha
      have h2 := this
      generalize a.eval x = cx at this h2
      simp only [Option.some.injEq, Prod.mk.injEq] at he; obtain ⟨rfl, rfl⟩ := he
      cases this with | ref _ b off c hc hv =>
      exact ⟨_, w, ρ, .inl rfl, h2, hR, .refl ρ _ w⟩
    · rename_i f x1 x2 hx
      have := aEval_rel hx ha
      have h2 := this
      generalize a.eval x = cx at this h2
      simp only [Option.some.injEq, Prod.mk.injEq] at he; obtain ⟨rfl, rfl⟩ := he
      cases this with | fn _ g _ _ c1 c2 hf _ _ _ _ =>
      refine ⟨_, w, ρ, .inl ?_, h2, hR, .refl ρ _ w⟩
      cases g <;> first | rfl | (cases f <;> exact hf.elim)
    · cases he
  · -- binOp
    rename_i op t x y ps ho
    simp only [ho]
    split at he
    · rename_i u v hu hv
      obtain ⟨z, h1, rfl, rfl⟩ := vOf_some he
      exact Od.p hR (run_aBinOp (P := P) h1 (aEval_rel hu ha) (aEval_rel hv ha) w)
    · cases he
  · -- unOp
    rename_i op t x ho
    simp only [ho]
    split at he
    · rename_i u hu
      obtain ⟨z, h1, rfl, rfl⟩ := vOf_some he
      exact Od.p hR (run_aUnOp (P := P) h1 (aEval_rel hu ha) w)
    · cases he
  · -- convert
    rename_i src dst x ho
    simp only [ho]
    split at he
    · rename_i u hu
      obtain ⟨z, h1, rfl⟩ := vhOf_some he
      exact Od.v (run_aConvert (P := P) hR hb h1 (aEval_rel hu ha))
    · cases he
  · -- makeInterface
    rename_i t x ho
    simp only [ho]
    split at he
    · cases he
    · rename_i ud v hni hu hv
      simp only [Option.some.injEq, Prod.mk.injEq] at he; obtain ⟨rfl, rfl⟩ := he
      refine Od.p hR ⟨.iface t (a.eval x), ?_, .iface _ _ _ (aEval_rel hv ha)⟩
      simp only [Instr.makeInterface, Sem.run_bind, run_underlying hu, Result.andThen_ok]
      cases ud <;> first | rfl | exact (hni _ rfl).elim
    · cases he
  · -- makeFunc
    rename_i k first captured ho
    simp only [ho]
    split at he
    · rename_i u v hu hv
      simp only [Option.some.injEq, Prod.mk.injEq] at he; obtain ⟨rfl, rfl⟩ := he
      have e1 := evalAll_rel hu ha
      have e2 := evalAll_rel hv ha
      refine Od.p hR ⟨_, rfl, .fn (.func k) (.func k) u v _ _ rfl (by simpa using e1.1) (fun i hi hj => by have := e1.2 i hi (by simpa using hj); simp only [List.getElem_map, Array.getElem_toList] at this; simpa only [Array.getElem_map] using this) (by simpa using e2.1) (fun i hi hj => by have := e2.2 i hi (by simpa using hj); simp only [List.getElem_map, Array.getElem_toList] at this; simpa only [Array.getElem_map] using this)⟩
    · cases he
  · -- makeMap
    rename_i t r ho
    simp only [ho]
    split at he
    · simp only [Option.some.injEq, Prod.mk.injEq] at he; obtain ⟨rfl, rfl⟩ := he
      exact Od.v (run_newMap hR hb (fun x e => by cases e))
    · rename_i x
      split at he
      · rename_i kt et kk n hu hx
        simp only [Option.some.injEq, Prod.mk.injEq] at he; obtain ⟨rfl, rfl⟩ := he
        refine Od.v (run_newMap hR hb (fun y e => ⟨⟨_, _, hu⟩, ?_⟩))
        simp only [Option.map_some, Option.some.injEq] at e; subst e
        have := aEval_rel hx ha
        generalize a.eval x = cx at this
        cases this
        exact ⟨_, _, rfl⟩
      · cases he
  · -- makeSlice
    rename_i t l c ho
    simp only [ho]
    split at he
    · rename_i u v hu hv
      obtain ⟨z, h1, rfl⟩ := vhOf_some he
      exact Od.v (run_aMakeSlice (P := P) hR hb (aEval_rel hu ha) (aEval_rel hv ha) h1)
    · cases he
  · -- slice
    rename_i t x lo hi mx ho
    simp only [ho]
    split at he
    · rename_i v b c d hv hb1 hc hd
      obtain ⟨z, h1, rfl, rfl⟩ := vOf_some he
      exact Od.p hR (run_aSlice (P := P) (aEval_rel hv ha) (evalOpt_rel hb1 ha) (evalOpt_rel hc ha) (evalOpt_rel hd ha) h1 w)
    · cases he
  · -- fieldAddr
    rename_i s x f ho
    simp only [ho]
    split at he
    · rename_i v hv
      obtain ⟨z, h1, rfl, rfl⟩ := vOf_some he
      exact Od.p hR (run_aFieldAddr (P := P) h1 (aEval_rel hv ha) w)
    · cases he
  · -- field
    rename_i s x f ho
    simp only [ho]
    split at he
    · rename_i v hv
      obtain ⟨z, h1, rfl, rfl⟩ := vOf_some he
      exact Od.p hR (run_aField (P := P) h1 (aEval_rel hv ha) w)
    · cases he
  · -- indexAddr
    rename_i t x ix ho
    simp only [ho]
    split at he
    · rename_i u v hu hv
      obtain ⟨z, h1, rfl, rfl⟩ := vOf_some he
      exact Od.p hR (run_aIndexAddr (P := P) h1 (aEval_rel hu ha) (aEval_rel hv ha) w)
    · cases he
  · -- index
    rename_i t x ix ho
    simp only [ho]
    split at he
    · rename_i u v hu hv
      obtain ⟨z, h1, rfl, rfl⟩ := vOf_some he
      exact Od.p hR (run_aIndex (P := P) h1 (aEval_rel hu ha) (aEval_rel hv ha) w)
    · cases he
  · -- lookup
    rename_i t x ix ok ho
    simp only [ho]
    split at he
    · rename_i u v hu hv
      obtain ⟨z, h1, rfl, rfl⟩ := vOf_some he
      exact Od.p hR (run_aLookup (P := P) hR h1 (aEval_rel hu ha) (aEval_rel hv ha))
    · cases he
  · -- mapUpdate
    rename_i t m k x ho
    simp only [ho]
    split at he
    · rename_i u v y hu hv hy
      obtain ⟨h1, rfl⟩ := hOf_some he
      exact Od.u (run_aMapUpdate (P := P) hR h1 (aEval_rel hu ha) (aEval_rel hv ha) (aEval_rel hy ha))
    · cases he
  · rename_i t m k x ho
    simp only [ho]
    split at he
    · rename_i u v y hu hv hy
      obtain ⟨h1, rfl⟩ := hOf_some he
      exact Od.u (run_aMapUpdate (P := P) hR h1 (aEval_rel hu ha) (aEval_rel hv ha) (aEval_rel hy ha))
    · cases he
  · -- mapEntry
    rename_i t m k ho
    simp only [ho]
    split at he
    · rename_i u v hu hv
      obtain ⟨z, h1, rfl⟩ := vhOf_some he
      exact Od.v (run_aMapEntry (P := P) hR h1 (aEval_rel hu ha) (aEval_rel hv ha))
    · cases he
  · -- entryStore
    rename_i t m s x ho
    simp only [ho]
    split at he
    · rename_i u v y hu hv hy
      obtain ⟨h1, rfl⟩ := hOf_some he
      exact Od.u (run_aEntryStore (P := P) hR h1 (aEval_rel hu ha) (aEval_rel hv ha) (aEval_rel hy ha))
    · cases he
  · -- range
    rename_i t x ho
    simp only [ho]
    split at he
    · rename_i v hv
      obtain ⟨z, h1, rfl⟩ := vhOf_some he
      exact Od.v (run_aRange (P := P) hR hb h1 (aEval_rel hv ha))
    · cases he
  · -- next
    rename_i it s ho
    simp only [ho]
    split at he
    · rename_i v hv
      obtain ⟨z, h1, rfl⟩ := vhOf_some he
      exact Od.v (run_aNext (P := P) hR h1 (aEval_rel hv ha))
    · cases he
  · -- typeAssert
    rename_i x xt asserted ok ho
    simp only [ho]
    split at he
    · rename_i v hv
      obtain ⟨z, h1, rfl, rfl⟩ := vOf_some he
      exact Od.p hR (run_aTypeAssert (P := P) h1 (aEval_rel hv ha))
    · cases he
  · -- extract
    rename_i t ix ho
    simp only [ho]
    split at he
    · rename_i vs hv
      obtain ⟨z, h1, rfl, rfl⟩ := vOf_some he
      obtain ⟨ccs, hc, hl⟩ := (aEval_rel hv ha).tup_inv
      obtain ⟨x, hx, hr⟩ := hl.find h1
      exact Od.p hR ⟨x, by simp [Instr.extract, hc, hx], hr⟩
    · cases he
  · rename_i c ho
    exact (hnc c ho).elim
  · -- panic
    rename_i x ho
    simp only [ho]
    split at he
    · rename_i t v hv
      simp only [Option.some.injEq, Prod.mk.injEq] at he; obtain ⟨rfl, rfl⟩ := he
      have := aEval_rel hv ha
      have h2 := this
      generalize a.eval x = cx at this h2
      cases this
      exact ⟨_, by simp [Instr.panic, goPanic], h2, rfl⟩
    · cases he
  · cases he
end Go.Sk

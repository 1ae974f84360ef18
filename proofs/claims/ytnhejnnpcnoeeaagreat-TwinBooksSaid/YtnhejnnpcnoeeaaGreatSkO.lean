/-
  New maps, iterators, conversions.
-/
import Derived.Test.YtnhejnnpcnoeeaaGreatSkN
namespace Go.Sk
variable {P : Program} {ρ : Rho} {h : AH} {w : World}
theorem run_newMap (hR : Rel ρ h w) (hb : ρ.base ≤ w.heap.size) {t : TypeId} {r : Option Value} (hr : ∀ x, r = some x → (∃ k e, P.underlying t = some (.map k e)) ∧ ∃ k n, x = .int k n) :
    Gd P ρ h w (Instr.makeMap t r) (.map h.next) (h.alloc (.map [] 0)) := by
  refine ⟨.map (some w.heap.size), _, ρ.withObj h.next w.heap.size, ?_, .map _ _ (Rho.withObj_same ..), hR.newObj hb (.map [] 0) trivial (.map #[] 0) ⟨[], rfl, rfl, fun i hi => by simp at hi⟩, Stp.newObj hR _ _⟩
  cases r with
  | none => simp [Instr.makeMap]
  | some x =>
    obtain ⟨⟨k, e, hu⟩, k', n, rfl⟩ := hr x rfl
    simp [Instr.makeMap, run_underlying hu, asInt, asIntOf]
theorem run_aRange (hR : Rel ρ h w) (hb : ρ.base ≤ w.heap.size) {t : TypeId} {x v : AV} {cx : Value} {h' : AH} (he : aRange P t x h = some (v, h')) (hx : VRel ρ x cx) :
    Gd P ρ h w (Instr.range t cx) v h' := by
  have hle := Rho.le_withObj (b := w.heap.size) hR.fresh_obj
  unfold aRange at he
  split at he
  · rename_i s hu
    simp only [Option.some.injEq, Prod.mk.injEq] at he; obtain ⟨rfl, rfl⟩ := he
    cases hx
    exact ⟨.pointer (some ⟨w.heap.size, 0, none⟩), _, ρ.withObj h.next w.heap.size, by simp [Instr.range, run_underlying hu], .ptr _ _ _ (Rho.withObj_same ..),
      hR.newObj hb (.siter s 0) trivial (.stringIter ⟨⟨s⟩⟩ 0) rfl, Stp.newObj hR _ _⟩
  · rename_i k e hu
    simp only [Option.some.injEq, Prod.mk.injEq] at he; obtain ⟨rfl, rfl⟩ := he
    cases hx
    exact ⟨.pointer (some ⟨w.heap.size, 0, none⟩), _, ρ.withObj h.next w.heap.size, by simp [Instr.range, run_underlying hu], .ptr _ _ _ (Rho.withObj_same ..),
      hR.newObj hb (.miter none 0 [] 0) trivial (.mapIter none 0 #[] 0) ⟨none, rfl, rfl⟩, Stp.newObj hR _ _⟩
  · rename_i k e r hu
    cases hx with | map _ b hbo =>
    split at he
    · rename_i es clock hg
      simp only [Option.some.injEq, Prod.mk.injEq] at he; obtain ⟨rfl, rfl⟩ := he
      obtain ⟨ces, hbl, _, _⟩ := hR.obj r _ b hg hbo
      have hgo := getObj_of (P := P) hbl (fun _ _ _ e => by cases e)
      exact ⟨.pointer (some ⟨w.heap.size, 0, none⟩), _, ρ.withObj h.next w.heap.size, by simp [Instr.range, run_underlying hu, hgo], .ptr _ _ _ (Rho.withObj_same ..),
        hR.newObj hb (.miter (some r) clock [] clock) trivial (.mapIter (some b) clock #[] clock) ⟨some b, rfl, b, hle.obj _ _ hbo, rfl⟩, Stp.newObj hR _ _⟩
    · cases he
  · cases he
theorem EsRel.filter (p : Nat → Bool) : ∀ {es : List (AV × AV × Nat)} {ces : List MapEntry}, EsRel ρ es ces → EsRel ρ (es.filter fun e => p e.2.2) (ces.filter fun e => p e.born)
  | [], [], h => h
  | [], _ :: _, h => by have := h.1; simp at this
  | _ :: _, [], h => by have := h.1; simp at this
  | e :: es, c :: ces, h => by
    have hb := h.head.2.2
    simp only [List.filter_cons, hb]
    split
    · have ih := EsRel.filter p h.tail
      refine ⟨by simp [ih.1], fun i hi hj => ?_⟩
      cases i with
      | zero => exact h.head
      | succ i => exact ih.2 i (by simpa using hi) (by simpa using hj)
    · exact EsRel.filter p h.tail
theorem EsRel.all (p : Nat → Bool) : ∀ {es : List (AV × AV × Nat)} {ces : List MapEntry}, EsRel ρ es ces → (ces.all fun e => p e.born) = es.all fun e => p e.2.2
  | [], [], _ => rfl
  | [], _ :: _, h => by have := h.1; simp at this
  | _ :: _, [], h => by have := h.1; simp at this
  | e :: es, c :: ces, h => by simp only [List.all_cons, h.head.2.2, EsRel.all p h.tail]
theorem run_aNext (hR : Rel ρ h w) {it v : AV} {cit : Value} {s : Bool} {ty : TypeId} {h' : AH} (he : aNext it s h = some (v, h')) (hi : VRel ρ it cit) : Gd P ρ h w (Instr.next cit s ty) v h' := by
  unfold aNext at he
  split at he
  · rename_i r
    cases hi with | ptr _ _ b hb =>
    split at he
    · rename_i l pos hg
      have hbl : w.heap[b]? = some (.stringIter ⟨⟨l⟩⟩ pos) := hR.obj r _ b hg hb
      have hgo := getObj_of (P := P) hbl (fun _ _ _ e => by cases e)
      split at he
      · rename_i hlt
        simp only [Option.some.injEq, Prod.mk.injEq] at he; obtain ⟨rfl, rfl⟩ := he
        obtain ⟨w', hset, hw⟩ := run_setObj_of (P := P) hbl (fun _ _ _ e => by cases e) (.stringIter ⟨⟨l⟩⟩ (pos + (decodeA l pos).2))
        refine ⟨.tuple #[.bool true, .int .i64 pos, .int .i32 (decodeA l pos).1], w', ρ, ?_, VRel.tup_of (.cons (.bool _) (.cons (.int _ _) (.cons (.int _ _) (.nil ρ)))),
          hR.setObj hg trivial hb (o' := .siter l _) trivial hw (fun _ _ _ e => by rw [hbl] at e; cases e) rfl, Stp.setObj hg trivial hb trivial hw⟩
        have hlt' : pos < (⟨⟨l⟩⟩ : ByteArray).size := hlt
        have hset' : (setObj b (.stringIter ⟨⟨l⟩⟩ (pos + (Utf8.decode ⟨⟨l⟩⟩ pos).2))).run P w = .ok () w' := hset
        simp [Instr.next, hgo, hlt', hset', goInt, decodeA]
      · rename_i hlt
        simp only [Option.some.injEq, Prod.mk.injEq] at he; obtain ⟨rfl, rfl⟩ := he
        have hlt' : ¬ pos < (⟨⟨l⟩⟩ : ByteArray).size := hlt
        exact Gd.pure hR ⟨.tuple #[.bool false], by simp [Instr.next, hgo, hlt'], VRel.tup_of (.cons (.bool _) (.nil ρ))⟩
    · cases he
  · rename_i r
    cases hi with | ptr _ _ b hb =>
    split at he
    · rename_i since seen st hg
      simp only [Option.some.injEq, Prod.mk.injEq] at he; obtain ⟨rfl, rfl⟩ := he
      obtain ⟨cm, hbl, hm⟩ := hR.obj r _ b hg hb
      simp only at hm; subst hm
      have hgo := getObj_of (P := P) hbl (fun _ _ _ e => by cases e)
      exact Gd.pure hR ⟨.tuple #[.bool false], by simp [Instr.next, hgo], VRel.tup_of (.cons (.bool _) (.nil ρ))⟩
    · rename_i m since seen last hg
      obtain ⟨cm, hbl, bm, hbm, rfl⟩ := hR.obj r _ b hg hb
      have hgo := getObj_of (P := P) hbl (fun _ _ _ e => by cases e)
      split at he
      · rename_i es clock hgm
        obtain ⟨ces, hblm, hcn, hcr⟩ := hR.obj m _ bm hgm hbm
        have hgom := getObj_of (P := P) hblm (fun _ _ _ e => by cases e)
        have hr : EsRel ρ es ces := ⟨hcn, hcr⟩
        split at he
        · cases he
        · rename_i hguard
          have hall := hr.all (fun b => decide (b ≥ last))
          have hemp : ces.isEmpty = es.isEmpty := by cases es <;> cases ces <;> simp_all
          have hleft := hr.filter (fun b => !seen.contains b)
          have hold := hleft.filter (fun b => decide (b < since))
          have hnew := hleft.filter (fun b => decide (b ≥ since))
          simp only at he
          generalize hO : (es.filter fun e => !seen.contains e.2.2).filter (fun e => decide (e.2.2 < since)) = O at *
          generalize hN : (es.filter fun e => !seen.contains e.2.2).filter (fun e => decide (e.2.2 ≥ since)) = N at *
          generalize hCO : (ces.filter fun e => !seen.contains e.born).filter (fun e => decide (e.born < since)) = CO at *
          generalize hCN : (ces.filter fun e => !seen.contains e.born).filter (fun e => decide (e.born ≥ since)) = CN at *
          have hguard' : (!seen.toArray.isEmpty && !ces.toArray.isEmpty && ces.toArray.all fun e => decide (e.born ≥ last)) = false := by
            simp only [List.isEmpty_toArray, List.all_toArray, hall, hemp]
            simpa using hguard
          have hcont : ∀ e : MapEntry, seen.toArray.contains e.born = seen.contains e.born := fun e => by simp
          have hfO : (ces.toArray.filter fun e => !seen.toArray.contains e.born).filter (fun e => decide (e.born < since)) = CO.toArray := by
            rw [← hCO]; simp
          have hfN : (ces.toArray.filter fun e => !seen.toArray.contains e.born).filter (fun e => decide (e.born ≥ since)) = CN.toArray := by
            rw [← hCN]; simp
          split at he
          · simp only [Option.some.injEq, Prod.mk.injEq] at he; obtain ⟨rfl, rfl⟩ := he
            have e1 : CO = [] := List.eq_nil_of_length_eq_zero (by simpa using hold.1)
            have e2 : CN = [] := List.eq_nil_of_length_eq_zero (by simpa using hnew.1)
            subst e1; subst e2
            refine Gd.pure hR ⟨.tuple #[.bool false], ?_, VRel.tup_of (.cons (.bool _) (.nil ρ))⟩
            simp only [Instr.next, Sem.run_bind, hgo, hgom, Result.andThen_ok]
            rw [hguard', hfO, hfN]
            simp [Question.forced]
          · rename_i e
            simp only [Option.some.injEq, Prod.mk.injEq] at he; obtain ⟨rfl, rfl⟩ := he
            have e2 : CN = [] := List.eq_nil_of_length_eq_zero (by simpa using hnew.1)
            obtain ⟨c, e1⟩ : ∃ c, CO = [c] := by
              have := hold.1
              match CO, this with
              | [c], _ => exact ⟨c, rfl⟩
            subst e1; subst e2
            have hec := hold.head
            obtain ⟨w', hset, hw⟩ := run_setObj_of (P := P) hbl (fun _ _ _ e => by cases e) (.mapIter (some bm) since (seen ++ [e.2.2]).toArray clock)
            refine ⟨.tuple #[.bool true, c.key, c.val], w', ρ, ?_, VRel.tup_of (.cons (.bool _) (.cons hec.1 (.cons hec.2.1 (.nil ρ)))),
              hR.setObj hg trivial hb (o' := .miter (some m) since _ clock) trivial hw (fun _ _ _ e => by rw [hbl] at e; cases e) ⟨some bm, rfl, bm, hbm, rfl⟩, Stp.setObj hg trivial hb trivial hw⟩
            simp only [Instr.next, Sem.run_bind, hgo, hgom, Result.andThen_ok]
            rw [hguard', hfO, hfN]
            have hb' : c.born = e.2.2 := hec.2.2
            simp [Question.forced, hb', hset]
          · cases he
      · cases he
    · cases he
  · cases he
end Go.Sk

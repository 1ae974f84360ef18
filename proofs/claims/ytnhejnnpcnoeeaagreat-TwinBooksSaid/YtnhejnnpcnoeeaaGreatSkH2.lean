/-
  Operators on values; parts and addresses.
-/
import Derived.Test.YtnhejnnpcnoeeaaGreatSkH1
namespace Go.Sk
variable {P : Program} {ρ : Rho}
theorem run_aEqlOp {op : BinOp} {t : TypeId} {ox oy : Operand} {x y v : AV} {cx cy : Value} (hni : ∀ k a k' b, x = .int k a → y = .int k' b → False) (hns : ∀ a b, x = .str a → y = .str b → False)
    (h : aEqlOp P op t ox oy x y = some v) (hx : VRel ρ x cx) (hy : VRel ρ y cy) (w : World) : aEqGuard P t ox oy x y = true ∧ ∃ cv, (binOp op t cx cy).run P w = .ok cv w ∧ VRel ρ v cv := by
  unfold aEqlOp at h
  split at h
  · rename_i hg
    refine ⟨hg, ?_⟩
    cases op <;> simp only [Option.map_eq_some_iff] at h <;> try (cases h; done)
    · obtain ⟨b, hq, rfl⟩ := h
      have hrun := run_aEq w hq hx hy
      refine ⟨.bool b, ?_, .bool b⟩
      rw [binOp_eql t (by rintro k a k' b rfl rfl; cases hx; cases hy; exact hni _ _ _ _ rfl rfl) (by rintro k a rfl; exact hx.no_float) (by rintro k a b rfl; exact hx.no_complex)
        (by rintro a b rfl rfl; cases hx; cases hy; exact hns _ _ rfl rfl)]
      simp [hrun]
    · obtain ⟨b, hq, rfl⟩ := h
      have hrun := run_aEq w hq hx hy
      refine ⟨.bool (!b), ?_, .bool _⟩
      rw [binOp_neq t (by rintro k a k' b rfl rfl; cases hx; cases hy; exact hni _ _ _ _ rfl rfl) (by rintro k a rfl; exact hx.no_float) (by rintro k a b rfl; exact hx.no_complex)
        (by rintro a b rfl rfl; cases hx; cases hy; exact hns _ _ rfl rfl)]
      simp [hrun]
  · cases h
theorem run_aBinRest {op : BinOp} (hs : op ≠ .shl) (hr : op ≠ .shr) {t : TypeId} {ox oy : Operand} {x y v : AV} {cx cy : Value} (h : aBinRest P op t ox oy x y = some v)
    (hx : VRel ρ x cx) (hy : VRel ρ y cy) (w : World) : aEqGuard P t ox oy x y = true ∧ ∃ cv, (binOp op t cx cy).run P w = .ok cv w ∧ VRel ρ v cv := by
  unfold aBinRest at h
  split at h
  · split at h
    · rename_i hk; subst hk
      cases hx; cases hy
      exact ⟨rfl, run_aIntOp hs hr h w⟩
    · cases h
  · cases hx; cases hy
    obtain ⟨cv, hrun, hv⟩ := run_aStrOp (P := P) (ρ := ρ) h w
    exact ⟨rfl, cv, by cases op <;> first | exact absurd rfl hs | exact absurd rfl hr | exact hrun, hv⟩
  · rename_i hni hns
    exact run_aEqlOp (fun k a k' b e1 e2 => hni k a k' b e1 e2) (fun a b e1 e2 => hns a b e1 e2) h hx hy w
theorem run_aBinOp {op : BinOp} {t : TypeId} {ox oy : Operand} {x y v : AV} {cx cy : Value} (h : aBinOp P op t ox oy x y = some v) (hx : VRel ρ x cx) (hy : VRel ρ y cy) (w : World) :
    ∃ cv, (do eqGuard op t ox oy cx cy; binOp op t cx cy : Sem Value).run P w = .ok cv w ∧ VRel ρ v cv := by
  have guard : aEqGuard P t ox oy x y = true ∧ (∃ cv, (binOp op t cx cy).run P w = .ok cv w ∧ VRel ρ v cv) → ∃ cv, (do eqGuard op t ox oy cx cy; binOp op t cx cy : Sem Value).run P w = .ok cv w ∧ VRel ρ v cv := by
    intro ⟨hg, cv, hr, hv⟩
    exact ⟨cv, by simp only [Sem.run_bind, run_eqGuard hg hx hy, Result.andThen_ok, hr], hv⟩
  refine guard ?_
  unfold aBinOp at h
  split at h
  · split at h
    · rename_i k a yk b
      cases hx; cases hy
      obtain ⟨cv, hr, hv⟩ := run_aShift (P := P) (ρ := ρ) (yk := yk) h w
      exact ⟨rfl, cv, hr, hv⟩
    · cases h
  · split at h
    · rename_i k a yk b
      cases hx; cases hy
      obtain ⟨cv, hr, hv⟩ := run_aShift (P := P) (ρ := ρ) (yk := yk) h w
      exact ⟨rfl, cv, hr, hv⟩
    · cases h
  · rename_i hs hr
    exact run_aBinRest hs hr h hx hy w
theorem run_aUnOp {op : UnOp} {x v : AV} {cx : Value} (h : aUnOp op x = some v) (hx : VRel ρ x cx) (w : World) : ∃ cv, (Op.unary op cx).run P w = .ok cv w ∧ VRel ρ v cv := by
  cases op <;> cases x <;> simp [aUnOp] at h
  · cases hx
    simp only [aIntOp, Option.some.injEq] at h; subst h
    refine ⟨_, ?_, .int _ _⟩; simp [Op.unary, Op.intArith]
  · cases hx
    simp only [aIntOp, aIntBits, Option.map_some, Option.some.injEq] at h; subst h
    refine ⟨_, ?_, .int _ _⟩; simp [Op.unary, Op.intBits]
  · subst h; cases hx; refine ⟨_, ?_, .bool _⟩; simp [Op.unary]
theorem run_aField {t : TypeId} {x v : AV} {cx : Value} {i : Nat} (h : aField P t x i = some v) (hx : VRel ρ x cx) (w : World) : ∃ cv, (Instr.field t cx i).run P w = .ok cv w ∧ VRel ρ v cv := by
  unfold aField at h
  split at h
  · rename_i fs cs hu
    obtain ⟨ccs, rfl, hl⟩ := hx.agg_inv
    cases hf : fs[i]? with
    | none => rw [hf] at h; simp at h
    | some f =>
      rw [hf] at h
      obtain ⟨cv, hr, hv⟩ := run_aPart hl h w
      exact ⟨cv, by simp [Instr.field, run_underlying hu, hf, asAgg, hr], hv⟩
  · cases h
theorem run_aIndex {t : TypeId} {x ix v : AV} {cx ci : Value} (h : aIndex P t x ix = some v) (hx : VRel ρ x cx) (hi : VRel ρ ix ci) (w : World) : ∃ cv, (Instr.index t cx ci).run P w = .ok cv w ∧ VRel ρ v cv := by
  unfold aIndex at h
  split at h
  · rename_i len elem cs k i hu
    obtain ⟨ccs, rfl, hl⟩ := hx.agg_inv
    cases hi
    split at h
    · rename_i hb
      cases hs : sizeT P elem with
      | none => rw [hs] at h; simp at h
      | some s =>
        rw [hs] at h
        obtain ⟨cv, hr, hv⟩ := run_aPart hl h w
        exact ⟨cv, by simp [Instr.index, asIntOf, run_underlying hu, hb, run_sizeT hs, hr], hv⟩
    · cases h
  · rename_i s k i hu
    cases hx; cases hi
    split at h
    · rename_i h0
      split at h
      · rename_i b hb
        simp only [Option.some.injEq] at h; subst h
        refine ⟨.int .u8 b.toNat, ?_, .int _ _⟩
        have : (⟨⟨s⟩⟩ : ByteArray)[i.toNat]? = some b := by
          obtain ⟨hlt, hb'⟩ := List.getElem?_eq_some_iff.1 hb
          rw [getElem?_pos (⟨⟨s⟩⟩ : ByteArray) i.toNat (show i.toNat < s.length from hlt)]
          exact congrArg some hb'
        simp [Instr.index, asIntOf, run_underlying hu, h0, this]
      · cases h
    · cases h
  · cases h
theorem VRel.refPart {t : TypeId} {z v : AV} {b off o : Nat} (h : aRefPart P t z.cells o = some v) (hz : VRel ρ (.ref z) (.pointer (some ⟨b, off, none⟩))) : VRel ρ v (.pointer (some ⟨b, off + o, none⟩)) := by
  cases hz with | ref _ _ _ c hc hv =>
  unfold aRefPart at h
  cases ha : isAggT P t with
  | none => rw [ha] at h; cases h
  | some bb =>
    rw [ha] at h
    cases bb with
    | true =>
      cases hs : sizeT P t with
      | none => rw [hs] at h; cases h
      | some n =>
        rw [hs] at h; simp only [Option.map_some, Option.some.injEq] at h; subst h
        have hlen : ∀ j, j < (AV.agg ((z.cells.drop o).take n)).cells.length → o + j < z.cells.length := fun j hj => by
          change j < ((z.cells.drop o).take n).length at hj
          simp only [List.length_take, List.length_drop] at hj; omega
        refine .ref _ b (off + o) (fun j => c (o + j)) (fun j hj => ?_) (fun j hj => ?_)
        · rw [Nat.add_assoc]; exact hc _ (hlen j hj)
        · have e : (AV.agg ((z.cells.drop o).take n)).cells[j] = z.cells[o + j]'(hlen j hj) := by
            simp only [show (AV.agg ((z.cells.drop o).take n)).cells = (z.cells.drop o).take n from rfl, List.getElem_take, List.getElem_drop]
          rw [e]; exact hv _ (hlen j hj)
    | false =>
      simp only at h
      split at h
      · cases h
      · rename_i u hna hu
        simp only [Option.some.injEq] at h; subst h
        obtain ⟨hlt, hu2⟩ := List.getElem?_eq_some_iff.1 hu
        have hsc : u.cells = [u] := by cases u <;> first | rfl | exact (hna _ rfl).elim
        have h0 : ∀ j, j < u.cells.length → j = 0 := fun j hj => by rw [hsc] at hj; simpa using hj
        refine .ref _ b (off + o) (fun j => c (o + j)) (fun j hj => ?_) (fun j hj => ?_)
        · rw [Nat.add_assoc]; exact hc _ (by have := h0 j hj; omega)
        · obtain rfl := h0 j hj
          have : u.cells[0] = z.cells[o] := by simp only [hsc, hu2, List.getElem_cons_zero]
          rw [this]; exact hv o hlt
      · cases h
theorem run_aFieldAddr {s : TypeId} {x v : AV} {cx : Value} {i : Nat} (h : aFieldAddr P s x i = some v) (hx : VRel ρ x cx) (w : World) : ∃ cv, (Instr.fieldAt s cx i).run P w = .ok cv w ∧ VRel ρ v cv := by
  unfold aFieldAddr at h
  split at h
  · rename_i fs hu
    cases hf : fs[i]? with
    | none => rw [hf] at h; simp at h
    | some f =>
      rw [hf] at h
      simp only at h
      cases hs : sizeT P f.type with
      | none => rw [hs] at h; simp at h
      | some n =>
        rw [hs] at h
        cases x <;> simp at h
        · rename_i r off
          obtain ⟨hn, rfl⟩ := h
          cases hx with | ptr _ _ b hb =>
          exact ⟨.pointer (some ⟨b, off + f.offset, none⟩), by simp [Instr.fieldAt, run_underlying hu, hf, Instr.sureAddr, fieldPlace, run_sizeT hs, hn, Addr.add_lit], .ptr _ _ _ hb⟩
        · rename_i z
          obtain ⟨hn, h⟩ := h
          cases hx with | ref _ b off c hc hv =>
          exact ⟨.pointer (some ⟨b, off + f.offset, none⟩), by simp [Instr.fieldAt, run_underlying hu, hf, Instr.sureAddr, fieldPlace, run_sizeT hs, hn, Addr.add_lit], .refPart h (.ref _ b off c hc hv)⟩
  · cases h
theorem run_aIndexAddr {t : TypeId} {x ix v : AV} {cx ci : Value} (h : aIndexAddr P t x ix = some v) (hx : VRel ρ x cx) (hi : VRel ρ ix ci) (w : World) : ∃ cv, (Instr.indexAt t cx ci).run P w = .ok cv w ∧ VRel ρ v cv := by
  unfold aIndexAddr at h
  split at h
  · rename_i len elem k i hu
    cases hi
    cases hs : sizeT P elem with
    | none => rw [hs] at h; simp at h
    | some s =>
      rw [hs] at h
      simp only at h
      split at h
      · rename_i hb
        cases x <;> simp at h
        · subst h
          cases hx with | ptr _ _ b hb' =>
          rename_i r off
          exact ⟨.pointer (some ⟨b, off + i.toNat * s, none⟩), by simp [Instr.indexAt, asIntOf, run_underlying hu, Instr.sureAddr, hb, run_sizeT hs, Addr.add_lit], .ptr _ _ _ hb'⟩
        · rename_i z
          cases hx with | ref _ b off c hc hv =>
          exact ⟨.pointer (some ⟨b, off + i.toNat * s, none⟩), by simp [Instr.indexAt, asIntOf, run_underlying hu, Instr.sureAddr, hb, run_sizeT hs, Addr.add_lit], .refPart h (.ref _ b off c hc hv)⟩
      · cases h
  · rename_i elem k i hu
    cases hi
    cases hs : sizeT P elem with
    | none => rw [hs] at h; simp at h
    | some s =>
      rw [hs] at h
      simp only at h
      cases x <;> simp only at h <;> try (cases h; done)
      · rename_i xs cap
        split at h
        · rename_i hb
          split at h
          · rename_i u hu2
            split at h
            · rename_i hus
              simp only [Option.some.injEq] at h; subst h
              obtain ⟨hlt, hu3⟩ := List.getElem?_eq_some_iff.1 hu2
              cases hx with | vsl _ _ b off n s' c hs' hc hv hn hcap =>
              have es : s' = s := by rw [← hs' i.toNat hlt, hu3]; exact hus
              subst es
              refine ⟨.pointer (some ⟨b, off + i.toNat * s', none⟩), by simp [Instr.indexAt, asIntOf, run_underlying hu, hb, run_sizeT hs, Addr.add_lit], ?_⟩
              refine .ref _ b _ (fun j => c i.toNat j) (fun j hj => hc _ _ hlt (by omega)) (fun j hj => ?_)
              have := hv i.toNat hlt j (by rw [hu3]; exact hj)
              simpa only [hu3] using this
            · cases h
          · cases h
        · cases h
      · rename_i r off len cap
        split at h
        · rename_i hb
          simp only [Option.some.injEq] at h; subst h
          cases hx with | hsl _ _ _ _ b n hb' hn hcap =>
          exact ⟨.pointer (some ⟨b, off + i.toNat * s, none⟩), by simp [Instr.indexAt, asIntOf, run_underlying hu, hb, run_sizeT hs, Addr.add_lit], .ptr _ _ _ hb'⟩
        · cases h
  · cases h
end Go.Sk

/-
  The operations that only compute or read: what the evaluator answers is what the model answers.
-/
import Derived.Test.YtnhejnnpcnoeeaaGreatSkE
import Derived.ChangeKeysEq
import Derived.Laws.StructEq
import Derived.Laws.CopyRow
import Derived.Laws.Entries
namespace Go.Sk
variable {P : Program} {ρ : Rho}
theorem run_isAggT {t : TypeId} {b : Bool} (h : isAggT P t = some b) (w : World) : (isAgg t).run P w = .ok b w := by
  unfold isAggT at h
  cases hu : P.underlying t with
  | none => rw [hu] at h; cases h
  | some d => rw [hu] at h; simp only [isAgg, Sem.run_bind, run_underlying hu, Result.andThen_ok]; cases d <;> simp_all
theorem run_sizeT {t : TypeId} {n : Nat} (h : sizeT P t = some n) (w : World) : (sizeOf t).run P w = .ok n w := by
  unfold sizeT at h
  cases hi : P.info? t with
  | none => rw [hi] at h; cases h
  | some i => rw [hi] at h; simp only [Option.map_some, Option.some.injEq] at h; subst h; simp [sizeOf, typeInfo, hi]
theorem VRel.of_cell {v : Value} {a : AV} (h : ofCell v = some a) : VRel ρ a v := by
  cases v with
  | bool b => simp only [ofCell, Option.some.injEq] at h; subst h; exact .bool b
  | int k n => simp only [ofCell, Option.some.injEq] at h; subst h; exact .int k n
  | string s => simp only [ofCell, Option.some.injEq] at h; subst h; obtain ⟨⟨l⟩⟩ := s; exact .str l
  | pointer a => cases a <;> simp [ofCell] at h; subst h; exact .nilptr
  | slice a n c =>
    simp only [ofCell] at h
    split at h <;> simp_all
    subst h; exact .nilsl
  | map r => cases r <;> simp [ofCell] at h; subst h; exact .nilmap
  | nilFunc => simp only [ofCell, Option.some.injEq] at h; subst h; exact .nilfn
  | nilIface => simp only [ofCell, Option.some.injEq] at h; subst h; exact .niliface
  | _ => simp [ofCell] at h
theorem LRel.of_cells : ∀ {l : List Value} {a : List AV}, l.mapM ofCell = some a → LRel ρ a l
  | [], a, h => by simp at h; subst h; exact .nil ρ
  | v :: l, a, h => by
    simp only [List.mapM_cons, Option.bind_eq_bind, Option.pure_def] at h
    cases hv : ofCell v with
    | none => rw [hv] at h; simp at h
    | some x =>
      cases hl : l.mapM ofCell with
      | none => rw [hv, hl] at h; simp at h
      | some y => rw [hv, hl] at h; simp at h; subst h; exact .cons (.of_cell hv) (LRel.of_cells hl)
theorem VRel.of_const {v : Value} {a : AV} (h : ofConst v = some a) : VRel ρ a v := by
  cases v with
  | agg cs =>
    simp only [ofConst] at h
    cases hc : cs.toList.mapM ofCell with
    | none => rw [hc] at h; cases h
    | some l =>
      rw [hc] at h; simp only [Option.map_some, Option.some.injEq] at h; subst h
      have := VRel.agg_of (LRel.of_cells (ρ := ρ) hc)
      simpa using this
  | tuple vs =>
    simp only [ofConst] at h
    split at h
    · rename_i h0
      simp only [Option.some.injEq] at h; subst h
      have : vs = #[] := Array.eq_empty_of_size_eq_zero h0
      subst this; exact VRel.tup_of (.nil ρ)
    · cases h
  | _ => exact .of_cell h
theorem run_zeroT {t : TypeId} {z : AV} (h : zeroT P t = some z) (w : World) : ∃ cz, (zeroValue t).run P w = .ok cz w ∧ VRel ρ z cz := by
  unfold zeroT at h
  cases hi : P.info? t with
  | none => rw [hi] at h; cases h
  | some i =>
    rw [hi] at h
    simp only [Option.bind_some] at h
    cases hz : i.zero with
    | none => rw [hz] at h; cases h
    | some v =>
      rw [hz] at h
      exact ⟨v, by simp [zeroValue, typeInfo, hi, hz], .of_const h⟩
theorem run_aPart {t : TypeId} {cs : List AV} {ccs : List Value} {off : Nat} {v : AV} (hl : LRel ρ cs ccs) (h : aPart P t cs off = some v) (w : World) :
    ∃ cv, (part t ccs.toArray off).run P w = .ok cv w ∧ VRel ρ v cv := by
  unfold aPart at h
  cases ha : isAggT P t with
  | none => rw [ha] at h; cases h
  | some b =>
    rw [ha] at h
    cases b with
    | true =>
      simp only at h
      cases hs : sizeT P t with
      | none => rw [hs] at h; cases h
      | some n =>
        rw [hs] at h; simp only [Option.map_some, Option.some.injEq] at h; subst h
        refine ⟨.agg ((ccs.drop off).take n).toArray, ?_, VRel.agg_of ((hl.drop off).take n)⟩
        simp [part, run_isAggT ha, run_sizeT hs]
    | false =>
      simp only at h
      obtain ⟨x, hx, hr⟩ := hl.find h
      exact ⟨x, by simp [part, run_isAggT ha, hx], hr⟩
theorem run_eqFields (d : Nat) (ih : ∀ t x y b cx cy (w : World), aEqIn P d t x y = some b → VRel ρ x cx → VRel ρ y cy → (Op.equalIn d t cx cy).run P w = .ok b w)
    {xs ys : List AV} {cxs cys : List Value} (hx : LRel ρ xs cxs) (hy : LRel ρ ys cys) (w : World) :
    ∀ (fs : List Field) (b : Bool), aEqFields P (aEqIn P d) xs ys fs = some b → (Op.eqFields d cxs.toArray cys.toArray fs).run P w = .ok b w
  | [], b, h => by simp only [aEqFields, Option.some.injEq] at h; subst h; rfl
  | f :: fs, b, h => by
    unfold aEqFields at h
    unfold Op.eqFields
    split at h
    · rename_i hn
      rw [if_pos hn]
      cases ha : aPart P f.type xs f.offset with
      | none => rw [ha] at h; simp at h
      | some a =>
        cases hb : aPart P f.type ys f.offset with
        | none => rw [ha, hb] at h; simp at h
        | some c =>
          rw [ha, hb] at h
          simp only at h
          obtain ⟨ca, h1, r1⟩ := run_aPart hx ha w
          obtain ⟨cc, h2, r2⟩ := run_aPart hy hb w
          simp only [Sem.run_bind, h1, h2, Result.andThen_ok]
          cases he : aEqIn P d f.type a c with
          | none => rw [he] at h; simp at h
          | some e =>
            rw [he] at h
            rw [ih _ _ _ _ _ _ w he r1 r2]
            cases e with
            | true => simp only at h; simpa using run_eqFields d ih hx hy w fs b h
            | false => simp only [Option.some.injEq] at h; subst h; simp
    · rename_i hn
      rw [if_neg hn]
      exact run_eqFields d ih hx hy w fs b h
theorem run_eqElems (d : Nat) (elem n : TypeId) (ih : ∀ t x y b cx cy (w : World), aEqIn P d t x y = some b → VRel ρ x cx → VRel ρ y cy → (Op.equalIn d t cx cy).run P w = .ok b w)
    {xs ys : List AV} {cxs cys : List Value} (hx : LRel ρ xs cxs) (hy : LRel ρ ys cys) (w : World) (b : Bool) : ∀ (k i : Nat), aEqElems P (aEqIn P d elem) elem n xs ys k i = some b →
    (do
      for j in List.range' i k do
        let a ← part elem cxs.toArray (j * n)
        let c ← part elem cys.toArray (j * n)
        if !(← Op.equalIn d elem a c) then return false
      pure true : Sem Bool).run P w = .ok b w
  | 0, i, h => by simp only [aEqElems, Option.some.injEq] at h; subst h; rfl
  | k + 1, i, h => by
    unfold aEqElems at h
    cases ha : aPart P elem xs (i * n) with
    | none => rw [ha] at h; simp at h
    | some a =>
      cases hb : aPart P elem ys (i * n) with
      | none => rw [ha, hb] at h; simp at h
      | some c =>
        rw [ha, hb] at h
        simp only at h
        obtain ⟨ca, h1, r1⟩ := run_aPart hx ha w
        obtain ⟨cc, h2, r2⟩ := run_aPart hy hb w
        simp only [List.range'_succ, List.forIn_cons, Sem.run_bind, h1, h2, Result.andThen_ok]
        cases he : aEqIn P d elem a c with
        | none => rw [he] at h; simp at h
        | some e =>
          rw [he] at h
          rw [ih _ _ _ _ _ _ w he r1 r2]
          cases e with
          | true =>
            simp only at h
            have := run_eqElems d elem n ih hx hy w b k (i + 1) h
            simpa using this
          | false => simp only [Option.some.injEq] at h; subst h; simp
set_option maxHeartbeats 4000000 in
theorem run_aEqIn : ∀ (d : Nat) (t : TypeId) (x y : AV) (b : Bool) (cx cy : Value) (w : World), aEqIn P d t x y = some b → VRel ρ x cx → VRel ρ y cy → (Op.equalIn d t cx cy).run P w = .ok b w := by
  intro d
  induction d with
  | zero => intro t x y b cx cy w h; simp [aEqIn] at h
  | succ d ih =>
    intro t x y b cx cy w h hx hy
    unfold aEqIn at h
    cases hu : P.underlying t with
    | none => rw [hu] at h; simp at h
    | some ty =>
      rw [hu] at h
      cases ty with
      | bool =>
        simp only at h
        cases x <;> cases y <;> simp at h
        subst h; cases hx; cases hy; simp [Op.equalIn, run_underlying hu]
      | int k =>
        simp only at h
        cases x <;> cases y <;> simp at h
        obtain ⟨rfl, rfl⟩ := h; cases hx; cases hy; simp [Op.equalIn, run_underlying hu]
      | string =>
        simp only at h
        cases x <;> cases y <;> simp at h
        subst h; cases hx; cases hy
        rw [run_equalIn_string w d t _ _ hu, ByteArray.toList_eq, ByteArray.toList_eq]
      | pointer e =>
        simp only at h
        cases x <;> cases y <;> simp at h
        · subst h; cases hx; cases hy; simp [Op.equalIn, run_underlying hu]
        · subst h; cases hx; cases hy; simp [Op.equalIn, run_underlying hu]
        · subst h; cases hx; cases hy; simp [Op.equalIn, run_underlying hu]
        · subst h; cases hx; cases hy; simp [Op.equalIn, run_underlying hu]
        · rename_i r1 o1 r2 o2
          obtain ⟨⟨rfl, hs⟩, rfl⟩ := h
          cases hx with | ptr _ _ b1 h1 =>
          cases hy with | ptr _ _ b2 h2 =>
          rw [h1] at h2; simp only [Option.some.injEq] at h2; subst h2
          cases hn : sizeT P e with
          | none => rw [hn] at hs; simp at hs
          | some n =>
            rw [hn] at hs
            have hn0 : n ≠ 0 := by simpa using hs
            simp [Op.equalIn, run_underlying hu, run_sizeT hn, hn0, sameAddr]
            by_cases e : o1 = o2
            · subst e; simp
            · have : (({ block := b1, off := o1, spot := none } : Addr) == { block := b1, off := o2, spot := none }) = false := by
                rw [beq_eq_false_iff_ne]; intro q; cases q; exact e rfl
              simp [this, e]
        · subst h; cases hx; cases hy; simp [Op.equalIn, run_underlying hu]
      | slice e =>
        simp only at h
        cases x <;> cases y <;> simp at h <;> subst h <;> cases hx <;> cases hy <;> simp [Op.equalIn, run_underlying hu]
      | map k e =>
        simp only at h
        cases x <;> cases y <;> simp at h <;> subst h <;> cases hx <;> cases hy <;> simp [Op.equalIn, run_underlying hu]
      | func a c e =>
        simp only at h
        cases x <;> cases y <;> simp at h <;> subst h <;> cases hx <;> cases hy <;> simp [Op.equalIn, run_underlying hu]
      | interface ms =>
        simp only at h
        cases x <;> cases y <;> simp at h
        · rename_i tx vx ty vy
          cases hx with | iface _ _ cvx hvx =>
          cases hy with | iface _ _ cvy hvy =>
          by_cases e : tx = ty
          · subst e
            rw [if_pos rfl] at h
            cases hi : P.info? tx with
            | none => rw [hi] at h; simp at h
            | some i =>
              rw [hi] at h
              by_cases hc : i.comparable
              · simp only [Option.any_some, hc, if_true] at h
                have := ih tx vx vy b cvx cvy w h hvx hvy
                simp [Op.equalIn, run_underlying hu, typeInfo, hi, hc, this]
              · simp [hc] at h
          · rw [if_neg e] at h; simp only [Option.some.injEq] at h; subst h
            simp [Op.equalIn, run_underlying hu, e]
        · subst h; cases hx; cases hy; simp [Op.equalIn, run_underlying hu]
        · subst h; cases hx; cases hy; simp [Op.equalIn, run_underlying hu]
        · subst h; cases hx; cases hy; simp [Op.equalIn, run_underlying hu]
      | struct fs =>
        simp only at h
        cases x <;> cases y <;> simp at h
        rename_i xs ys
        obtain ⟨hst, h⟩ := h
        obtain ⟨cxs, rfl, lx⟩ := hx.agg_inv
        obtain ⟨cys, rfl, ly⟩ := hy.agg_inv
        have hf : P.fieldsOf t = fs := by simp [Program.fieldsOf, hu]
        rw [run_equalIn_struct w d t _ _ (by rw [hf]; exact hu) hst, hf]
        exact run_eqFields d ih lx ly w fs.toList b h
      | array len elem =>
        simp only at h
        cases hn : sizeT P elem with
        | none => rw [hn] at h; cases x <;> cases y <;> simp at h
        | some n =>
          rw [hn] at h
          cases x <;> cases y <;> simp at h
          rename_i xs ys
          obtain ⟨cxs, rfl, lx⟩ := hx.agg_inv
          obtain ⟨cys, rfl, ly⟩ := hy.agg_inv
          have := run_eqElems d elem n ih lx ly w b len 0 h
          simp only [Op.equalIn, Sem.run_bind, run_underlying hu, run_sizeT hn, Result.andThen_ok]
          rw [Std.Legacy.Range.forIn_eq_forIn_range']
          simpa using this
      | _ => simp at h
theorem run_aEq {t : TypeId} {x y : AV} {b : Bool} {cx cy : Value} (w : World) (h : aEq P t x y = some b) (hx : VRel ρ x cx) (hy : VRel ρ y cy) : (Op.equal t cx cy).run P w = .ok b w :=
  run_aEqIn 10000 t x y b cx cy w h hx hy
end Go.Sk

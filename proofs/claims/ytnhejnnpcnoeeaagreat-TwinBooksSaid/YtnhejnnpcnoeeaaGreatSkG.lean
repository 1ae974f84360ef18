/-
  Keys of maps.
-/
import Derived.Test.YtnhejnnpcnoeeaaGreatSkF
import Derived.Laws.IdiomMaps
import GoSem.Instr.MapUpdate
namespace Go.Sk
variable {P : Program} {ρ : Rho}
theorem andThen_unit (r : Result PUnit) : (r.andThen fun _ w' => .ok () w') = r := by cases r <;> rfl
theorem run_keyFields (empty : Bool) (d : Nat) (ih : ∀ t v cv (w : World), aKeyOk P d t v = true → VRel ρ v cv → (Instr.checkKey empty d t cv).run P w = .ok () w)
    {cs : List AV} {ccs : List Value} (hl : LRel ρ cs ccs) (w : World) : ∀ (fs : List Field), aKeyFields P (aKeyOk P d) cs fs = true →
    (do
      for f in fs do
        if f.name ≠ "_" then Instr.checkKey empty d f.type (← part f.type ccs.toArray f.offset)
      pure () : Sem Unit).run P w = .ok () w
  | [], _ => rfl
  | f :: fs, h => by
    simp only [aKeyFields, Bool.and_eq_true] at h
    obtain ⟨h1, h2⟩ := h
    have ihf := run_keyFields empty d ih hl w fs h2
    simp only [List.forIn_cons, Sem.run_bind]
    split
    · rename_i hn
      rw [if_pos hn] at h1
      cases ha : aPart P f.type cs f.offset with
      | none => rw [ha] at h1; simp at h1
      | some v =>
        rw [ha] at h1
        obtain ⟨cv, hp, hr⟩ := run_aPart hl ha w
        simp only [Sem.run_bind, hp, Result.andThen_ok, ih _ _ _ w h1 hr]
        simpa [andThen_unit] using ihf
    · simpa [andThen_unit] using ihf
theorem run_keyElems (empty : Bool) (d : Nat) (elem n : TypeId) (ih : ∀ t v cv (w : World), aKeyOk P d t v = true → VRel ρ v cv → (Instr.checkKey empty d t cv).run P w = .ok () w)
    (hn : sizeT P elem = some n) {cs : List AV} {ccs : List Value} (hl : LRel ρ cs ccs) (w : World) : ∀ (k i : Nat), aKeyElems P (aKeyOk P d elem) elem n cs k i = true →
    (do
      for j in List.range' i k do Instr.checkKey empty d elem (← part elem ccs.toArray (j * (← sizeOf elem)))
      pure () : Sem Unit).run P w = .ok () w
  | 0, i, _ => rfl
  | k + 1, i, h => by
    simp only [aKeyElems, Bool.and_eq_true] at h
    obtain ⟨h1, h2⟩ := h
    have ihf := run_keyElems empty d elem n ih hn hl w k (i + 1) h2
    cases ha : aPart P elem cs (i * n) with
    | none => rw [ha] at h1; simp at h1
    | some v =>
      rw [ha] at h1
      obtain ⟨cv, hp, hr⟩ := run_aPart hl ha w
      simp only [List.range'_succ, List.forIn_cons, Sem.run_bind, run_sizeT hn, hp, Result.andThen_ok, ih _ _ _ w h1 hr]
      simpa [andThen_unit] using ihf
theorem run_checkKey (empty : Bool) : ∀ (d : Nat) (t : TypeId) (v : AV) (cv : Value) (w : World), aKeyOk P d t v = true → VRel ρ v cv → (Instr.checkKey empty d t cv).run P w = .ok () w := by
  intro d
  induction d with
  | zero => intro t v cv w h; simp [aKeyOk] at h
  | succ d ih =>
    intro t v cv w h hv
    unfold aKeyOk at h
    cases hu : P.underlying t with
    | none => rw [hu] at h; simp at h
    | some ty =>
      rw [hu] at h
      cases ty with
      | interface ms => simp at h
      | array len elem =>
        simp only at h
        cases hn : sizeT P elem with
        | none => rw [hn] at h; cases v <;> simp at h
        | some n =>
          rw [hn] at h
          cases v <;> simp at h
          obtain ⟨ccs, rfl, hl⟩ := hv.agg_inv
          have := run_keyElems empty d elem n ih hn hl w len 0 h
          simp only [Instr.checkKey, Sem.run_bind, run_underlying hu, Result.andThen_ok]
          rw [Std.Legacy.Range.forIn_eq_forIn_range']
          simpa [andThen_unit] using this
      | struct fs =>
        simp only at h
        cases v <;> simp at h
        obtain ⟨ccs, rfl, hl⟩ := hv.agg_inv
        have := run_keyFields empty d ih hl w fs.toList h
        simp only [Instr.checkKey, Sem.run_bind, run_underlying hu, Result.andThen_ok]
        rw [← Array.forIn_toList]
        simpa [andThen_unit] using this
      | _ => simp [Instr.checkKey, run_underlying hu]
theorem VRel.plainCell {a b : AV} {ca cb : Value} (h : plainCellEq a b = true) (ha : VRel ρ a ca) (hb : VRel ρ b cb) : ca = cb ∧ (∀ n, Instr.sameBits n ca cb = true) := by
  cases a <;> cases b <;> simp [plainCellEq] at h
  · subst h; cases ha; cases hb; exact ⟨rfl, fun n => by cases n <;> simp [Instr.sameBits]⟩
  · obtain ⟨rfl, rfl⟩ := h; cases ha; cases hb; exact ⟨rfl, fun n => by cases n <;> simp [Instr.sameBits]⟩
  · subst h; cases ha; cases hb; exact ⟨rfl, fun n => by cases n <;> simp [Instr.sameBits, beq_toListBytes]⟩
theorem LRel.plainCells : ∀ {a b : List AV} {ca cb : List Value}, plainCellsEq a b = true → LRel ρ a ca → LRel ρ b cb → ca = cb ∧ (∀ n, (ca.zip cb).all (fun x => Instr.sameBits n x.1 x.2) = true)
  | [], [], [], [], _, _, _ => ⟨rfl, fun _ => rfl⟩
  | [], [], [], _ :: _, _, _, h => by have := h.1; simp at this
  | [], [], _ :: _, _, _, h, _ => by have := h.1; simp at this
  | [], _ :: _, _, _, h, _, _ => by simp [plainCellsEq] at h
  | _ :: _, [], _, _, h, _, _ => by simp [plainCellsEq] at h
  | _ :: _, _ :: _, [], _, _, h, _ => by have := h.1; simp at this
  | _ :: _, _ :: _, _ :: _, [], _, _, h => by have := h.1; simp at this
  | a :: l, b :: r, ca :: cl, cb :: cr, h, ha, hb => by
    simp only [plainCellsEq, Bool.and_eq_true] at h
    obtain ⟨e1, f1⟩ := VRel.plainCell h.1 ha.head hb.head
    obtain ⟨e2, f2⟩ := LRel.plainCells h.2 ha.tail hb.tail
    exact ⟨by rw [e1, e2], fun n => by simp only [List.zip_cons_cons, List.all_cons, f1 n, f2 n, Bool.and_true]⟩
theorem VRel.plain {a b : AV} {ca cb : Value} (h : plainBeq a b = true) (ha : VRel ρ a ca) (hb : VRel ρ b cb) : Instr.sameBits 10000 ca cb = true := by
  cases a with
  | agg as =>
    cases b with
    | agg bs =>
      obtain ⟨ccs, rfl, hl⟩ := ha.agg_inv
      obtain ⟨cds, rfl, hm⟩ := hb.agg_inv
      obtain ⟨rfl, hf⟩ := LRel.plainCells (by simpa [plainBeq] using h) hl hm
      have := hf 9999
      simp only [Instr.sameBits, beq_self_eq_true, Bool.true_and]
      simpa using this
    | _ => simp [plainBeq, plainCellEq] at h
  | _ => cases b <;> exact (VRel.plainCell (by simpa [plainBeq] using h) ha hb).2 _
theorem sameNow_equal {kt : TypeId} {d : TypeDesc} {a b : Value} {r : Bool} (hu : P.underlying kt = some d) (h : Instr.sameNow d a b = some r) (w : World) : (Op.equal kt a b).run P w = .ok r w := by
  unfold Instr.sameNow at h
  split at h
  · split at h
    · rename_i hk; subst hk; simp only [Option.some.injEq] at h; subst h; exact run_equalIn_int w 9999 kt _ _ _ _ hu
    · cases h
  · simp only [Option.some.injEq] at h; subst h
    rw [show Op.equal kt = Op.equalIn (9999 + 1) kt from rfl, run_equalIn_string w 9999 kt _ _ hu, beq_toListBytes]
  · simp only [Option.some.injEq] at h; subst h; exact run_equalIn_bool' w 9999 kt _ _ hu
  · cases h
def EsRel (ρ : Rho) (es : List (AV × AV × Nat)) (ces : List MapEntry) : Prop := ces.length = es.length ∧ ∀ i (hi : i < es.length) (hj : i < ces.length), ERel ρ es[i] ces[i]
theorem EsRel.head {e : AV × AV × Nat} {es : List (AV × AV × Nat)} {c : MapEntry} {ces : List MapEntry} (h : EsRel ρ (e :: es) (c :: ces)) : ERel ρ e c := h.2 0 (by simp) (by simp)
theorem EsRel.tail {e : AV × AV × Nat} {es : List (AV × AV × Nat)} {c : MapEntry} {ces : List MapEntry} (h : EsRel ρ (e :: es) (c :: ces)) : EsRel ρ es ces :=
  ⟨by have := h.1; simpa using this, fun i hi hj => h.2 (i + 1) (by simpa using hi) (by simpa using hj)⟩
def Found (k : AV) (es : List (AV × AV × Nat)) (i0 : Nat) (r : Option (Nat × AV × Nat)) : Prop :=
  match r with
  | none => True
  | some (i, v, b) => i0 ≤ i ∧ ∃ k', es[i - i0]? = some (k', v, b) ∧ plainBeq k k' = true
def FoundV (ces : List MapEntry) (i0 : Nat) (r : Option (Nat × AV × Nat)) (q : Option (Nat × Value)) : Prop :=
  match r, q with
  | none, none => True
  | some (i, _, _), some (j, cv) => j = i ∧ (ces[i - i0]?).map (·.val) = some cv
  | _, _ => False
theorem run_aFind {kt : TypeId} {d : TypeDesc} (hu : P.underlying kt = some d) {k : AV} {ck : Value} (hk : VRel ρ k ck) (w : World) :
    ∀ (es : List (AV × AV × Nat)) (ces : List MapEntry) (i : Nat) (r : Option (Nat × AV × Nat)), EsRel ρ es ces → aFind (fun e => aEq P kt k e) k es i = some r →
      Found k es i r ∧ (∃ q, (Instr.findAsking kt ck ces i).run P w = .ok q w ∧ FoundV ces i r q) ∧ (∀ q, Instr.findNow d ck ces i = some q → FoundV ces i r q)
  | [], [], i, r, _, h => by
    simp only [aFind, Option.some.injEq] at h; subst h
    exact ⟨trivial, ⟨none, rfl, trivial⟩, fun q hq => by simp only [Instr.findNow, Option.some.injEq] at hq; subst hq; trivial⟩
  | [], _ :: _, _, _, h, _ => by have := h.1; simp at this
  | _ :: _, [], _, _, h, _ => by have := h.1; simp at this
  | (k', v, b) :: es, c :: ces, i, r, he, h => by
    have hh := he.head
    unfold aFind at h
    cases hq : aEq P kt k k' with
    | none => simp [hq] at h
    | some t =>
      have hrun := run_aEq w hq hk hh.1
      cases t with
      | true =>
        simp only [hq] at h
        split at h
        · rename_i hp
          simp only [Option.some.injEq] at h; subst h
          refine ⟨⟨Nat.le_refl _, k', by simp, hp⟩, ⟨some (i, c.val), ?_, rfl, by simp⟩, ?_⟩
          · simp [Instr.findAsking, hrun]
          · intro q hf
            simp only [Instr.findNow] at hf
            split at hf
            · simp only [Option.some.injEq] at hf; subst hf; exact ⟨rfl, by simp⟩
            · rename_i hs
              have := sameNow_equal (P := P) hu hs w
              rw [hrun] at this; cases this
            · cases hf
        · cases h
      | false =>
        simp only [hq] at h
        obtain ⟨f1, ⟨q, f2, f3⟩, f4⟩ := run_aFind hu hk w es ces (i + 1) r he.tail h
        have up : ∀ q, FoundV ces (i + 1) r q → FoundV (c :: ces) i r q := by
          intro q hf
          cases r with
          | none =>
            cases q with
            | none => trivial
            | some y => exact hf.elim
          | some x =>
            obtain ⟨j, v', b'⟩ := x
            cases q with
            | none => exact hf.elim
            | some y =>
              obtain ⟨e1, e2⟩ := hf
              refine ⟨e1, ?_⟩
              have hle : i + 1 ≤ j := f1.1
              rw [show j - i = (j - (i + 1)) + 1 by omega, List.getElem?_cons_succ]; exact e2
        refine ⟨?_, ⟨q, ?_, up q f3⟩, ?_⟩
        · cases r with
          | none => trivial
          | some x =>
            obtain ⟨j, v', b'⟩ := x
            obtain ⟨e1, k2, e2, e3⟩ := f1
            exact ⟨by omega, k2, by rw [show j - i = (j - (i + 1)) + 1 by omega, List.getElem?_cons_succ]; exact e2, e3⟩
        · simp [Instr.findAsking, hrun, f2]
        · intro q hf
          simp only [Instr.findNow] at hf
          split at hf
          · rename_i hs
            have := sameNow_equal (P := P) hu hs w
            rw [hrun] at this; cases this
          · exact up q (f4 q hf)
          · cases hf
theorem run_findKey {kt : TypeId} {k : AV} {ck : Value} (hk : VRel ρ k ck) {es : List (AV × AV × Nat)} {ces : List MapEntry} (he : EsRel ρ es ces) {r : Option (Nat × AV × Nat)}
    (h : aFindKey P kt k es = some r) (w : World) : (∀ empty, (Instr.checkKey empty 10000 kt ck).run P w = .ok () w) ∧ Found k es 0 r ∧ ∃ q, (Instr.findKey kt ck ces).run P w = .ok q w ∧ FoundV ces 0 r q := by
  unfold aFindKey at h
  split at h
  · rename_i hok
    have hck : ∀ empty, (Instr.checkKey empty 10000 kt ck).run P w = .ok () w := fun empty => run_checkKey empty 10000 kt k ck w hok hk
    cases hu : P.underlying kt with
    | none => simp [aKeyOk, hu] at hok
    | some d =>
      obtain ⟨f1, ⟨q, f2, f3⟩, f4⟩ := run_aFind hu hk w es ces 0 r he h
      refine ⟨hck, f1, ?_⟩
      simp only [Instr.findKey, Sem.run_bind, run_underlying hu, Result.andThen_ok]
      cases hn : Instr.findNow d ck ces 0 with
      | none => exact ⟨q, by simpa using f2, f3⟩
      | some q' => exact ⟨q', rfl, f4 q' hn⟩
  · cases h
end Go.Sk

/-
  Regions that draw their order and leave the abstract heap as it was: the planned order's run is the evaluator's.
-/
import Derived.Test.YtnhejnnpcnoeeaaGreatSkX1
namespace Go.Sk
inductive QGo (X : Cx) (fn : FuncId) (ops : Array Oper) (h : AH) : List Nat → List AV → List AV → Prop
  | nil (tm : List AV) : QGo X fn ops h [] tm tm
  | cons {j : Nat} {r : List Nat} {o : Oper} {tm tm1 tm2 : List AV} {E1 : List EffE} (ho : ops[j]? = some o) (hs : dstep X fn ops j o ⟨tm, h, [], []⟩ = some ⟨tm1, h, E1, []⟩) (hr : QGo X fn ops h r tm1 tm2) : QGo X fn ops h (j :: r) tm tm2
theorem dstep_E {X : Cx} {fn : FuncId} {ops : Array Oper} {j : Nat} {o : Oper} {tm tm1 : List AV} {h : AH} {E E1 : List EffE} (hs : dstep X fn ops j o ⟨tm, h, [], []⟩ = some ⟨tm1, h, E1, []⟩) :
    dstep X fn ops j o ⟨tm, h, E, []⟩ = some ⟨tm1, h, E ++ E1, []⟩ ∧ ∀ e ∈ E1, e.hEnd = h ∧ e.hNext = h := by
  unfold dstep at hs ⊢
  simp only at hs ⊢
  repeat' split at hs
  all_goals first | (cases hs; done) | skip
  all_goals (simp only [Option.some.injEq, DSt.mk.injEq] at hs)
  all_goals (obtain ⟨h1, h2, h3, h4⟩ := hs)
  all_goals (subst h1)
  all_goals first
    | (simp at h4; done)
    | (subst h3; simp_all)
theorem QGo.dgo {X : Cx} {fn : FuncId} {ops : Array Oper} {h : AH} {L : List Nat} {tm tm' : List AV} (hq : QGo X fn ops h L tm tm') : ∀ E, ∃ E', Go.Sk.dgo X fn ops L ⟨tm, h, E, []⟩ = some ⟨tm', h, E ++ E', []⟩ ∧ ∀ e ∈ E', e.hEnd = h ∧ e.hNext = h := by
  induction hq with
  | nil tm => intro E; exact ⟨[], by simp [Go.Sk.dgo], by simp⟩
  | @cons j r o tm tm1 tm2 E1 ho hs _ ih =>
    intro E
    obtain ⟨h1, h2⟩ := dstep_E (E := E) hs
    obtain ⟨E', h3, h4⟩ := ih (E ++ E1)
    refine ⟨E1 ++ E', by simp only [Go.Sk.dgo, ho, h1]; rw [h3, List.append_assoc], fun e he => ?_⟩
    rcases List.mem_append.1 he with he | he
    · exact h2 e he
    · exact h4 e he
theorem readsChk_of {X : Cx} {fn : FuncId} {ops : Array Oper} {T : List Nat} {st : DSt} : ∀ {L : List Nat}, (∀ j ∈ L, ∃ o, ops[j]? = some o ∧ readChk X fn ops T st j o = true) → readsChk X fn ops T st L = true
  | [], _ => rfl
  | j :: r, h => by
    obtain ⟨o, ho, hc⟩ := h j (by simp)
    simp only [readsChk, ho, hc, Bool.true_and]
    exact readsChk_of fun i hi => h i (List.mem_cons_of_mem _ hi)
theorem drawn_quiet {X : Cx} {fn : FuncId} {ops : Array Oper} {pl : Plan} (hpl : planOf X.P (X.mu fn) ops = some pl) {tm tm' : List AV} {df : List Id} {h : AH} (hq : QGo X fn ops h pl.ord tm tm') : drawn X fn ops ⟨tm, df, h⟩ = some (.normal, ⟨tm', df, h⟩) := by
  obtain ⟨E', hst, hE⟩ := hq.dgo []
  simp only [List.nil_append] at hst
  unfold drawn
  rw [hpl]
  simp only [hst]
  unfold planOf at hpl
  split at hpl
  case h_2 => cases hpl
  rename_i T hT
  simp only at hpl
  split at hpl
  case isFalse => cases hpl
  rename_i hok
  simp only [Option.some.injEq] at hpl; subst hpl
  simp only [Bool.and_eq_true] at hok
  simp only at hst ⊢
  have hT0 : MOK ops [] := ⟨fun j m h => by simp at h, fun j h => by simp at h⟩
  obtain ⟨hTok, hTl⟩ := masks_ok hT (fun i o hi => by simpa using hi) hT0
  obtain ⟨hdf, _, hsame⟩ := dgo_ok (h0 := h) (tm0 := tm) hTok hok.1 _ 0 0 _ _ hok.2 hst (fun e he => by simp at he) (.refl _) (fun _ _ => rfl) (fun _ _ => rfl) (fun i k h => by simp at h) (fun e he => by simp at he)
  have hno : NoCh h E' := fun e he => (hE e he).2
  rw [if_pos]
  simp only [Bool.or_eq_true, Bool.and_eq_true]
  refine .inr ⟨⟨readsChk_of fun j hj => ?_, rfl⟩, rfl⟩
  obtain ⟨o, ho, hop, _⟩ := hdf.op j hj
  refine ⟨o, ho, ?_⟩
  unfold readChk
  unfold OpF at hop
  simp only at hop ⊢
  split
  · rename_i hw
    rw [if_pos hw] at hop
    split
    · rename_i hk
      rw [hk] at hop
      obtain ⟨v, h1, h2, he, hsl, hh, _⟩ := hop
      obtain rfl := hh hno trivial
      rw [List.all_eq_true]
      intro k _
      have hend : endH E' h1 k = h1 := by
        unfold endH
        split
        · rename_i e hek
          exact (hE e (List.mem_of_getElem? hek)).1
        · rfl
      rw [hend, he]
      simp only [Bool.or_eq_true]
      right
      unfold slotIs
      split
      · rfl
      · rename_i d hd
        split
        · rename_i u hu
          have := hsl d hd (List.getElem?_eq_some_iff.1 hu).1
          rw [hu] at this; simp only [Option.some.injEq] at this; subst this
          exact AV.beq_refl _
        · rfl
    · rfl
  · rfl
def isLoad : Op → Bool
  | .load _ _ => true
  | _ => false
def isMapUp : Op → Bool
  | .mapUpdate _ _ _ _ => true
  | _ => false
def earlyOK (P : Program) (mu : Nat → Bool) (ops : Array Oper) (T : List Nat) : Bool :=
  (List.range ops.size).all fun j => match ops[j]? with
    | some o => (match opKnd P (o.dst.any mu) o.op with
      | .read => (List.range ops.size).all fun i => match ops[i]? with
        | some o' => (match opKnd P (o'.dst.any mu) o'.op with | .eff => (T.getD i 0).testBit j || (isLoad o.op && isMapUp o'.op) | _ => true)
        | none => true
      | _ => true)
    | none => true
theorem earlyOK_spec {P : Program} {mu : Nat → Bool} {ops : Array Oper} {T : List Nat} (h : earlyOK P mu ops T = true) {j i : Nat} {o o' : Oper} (ho : ops[j]? = some o) (hk : opKnd P (o.dst.any mu) o.op = .read) (ho' : ops[i]? = some o') (hk' : opKnd P (o'.dst.any mu) o'.op = .eff) : (T.getD i 0).testBit j = true ∨ (isLoad o.op = true ∧ isMapUp o'.op = true) := by
  have hj : j < ops.size := (Array.getElem?_eq_some_iff.1 ho).1
  have hi : i < ops.size := (Array.getElem?_eq_some_iff.1 ho').1
  have h1 := List.all_eq_true.1 h j (List.mem_range.2 hj)
  simp only [ho, hk] at h1
  have h2 := List.all_eq_true.1 h1 i (List.mem_range.2 hi)
  simpa only [ho', hk', Bool.or_eq_true, Bool.and_eq_true] using h2
theorem load_set_map {P : Program} {t : TypeId} {p : AV} {h : AH} {r : Id} {es es' : List (AV × AV × Nat)} {c c' : Nat} (hr : h.get r = some (.map es c)) : aLoad P t p (h.set r (.map es' c')) = aLoad P t p h := by
  cases p <;> first | rfl | skip
  rename_i q off
  by_cases hq : q = r
  · subst hq
    simp only [aLoad, AH.get_set, if_pos, hr]
  · simp only [aLoad, AH.get_set, if_neg hq]
theorem load_mapUp {X : Cx} {fn : FuncId} {tm : List AV} {o : Oper} {h h' : AH} {v : AV} (hm : isMapUp o.op = true) (he : evOp X fn tm o h = some (.ret v, h')) (t : TypeId) (p : AV) : aLoad X.P t p h' = aLoad X.P t p h := by
  unfold isMapUp at hm
  split at hm
  case h_2 => cases hm
  rename_i a b c d ho
  unfold evOp at he
  rw [ho] at he
  simp only at he
  split at he
  case h_2 => cases he
  rename_i m k x _ _ _
  unfold hOf aMapUpdate at he
  split at he
  case h_2 => cases he
  rename_i h2 hup
  simp only [Option.some.injEq, Prod.mk.injEq] at he
  obtain ⟨_, rfl⟩ := he
  split at hup
  case h_2 => cases hup
  rename_i r _
  split at hup
  case h_2 => cases hup
  rename_i es clock hg
  split at hup
  · simp only [Option.some.injEq] at hup; subst hup; exact load_set_map hg
  · simp only [Option.some.injEq] at hup; subst hup; exact load_set_map hg
  · cases hup
theorem evOp_load {X : Cx} {fn : FuncId} {tm : List AV} {o : Oper} {h h' : AH} (hl : isLoad o.op = true) (hh : ∀ t p, aLoad X.P t p h' = aLoad X.P t p h) {v : AV} {h1 : AH} (he : evOp X fn tm o h = some (.ret v, h1)) : ∃ h2, evOp X fn tm o h' = some (.ret v, h2) := by
  unfold isLoad at hl
  split at hl
  case h_2 => cases hl
  rename_i t a ho
  unfold evOp at he ⊢
  rw [ho] at he ⊢
  simp only at he ⊢
  split at he
  · rw [hh]
    cases hv : aLoad X.P t _ h with
    | none => rw [hv] at he; cases he
    | some u =>
      rw [hv] at he
      simp only [vOf, Option.some.injEq, Prod.mk.injEq] at he ⊢
      exact ⟨h', by rw [he.1], rfl⟩
  · cases he
theorem chain_load {X : Cx} {fn : FuncId} {ops : Array Oper} {t : TypeId} {p : AV} : ∀ {h : AH} {E : List EffE} {h' : AH}, Chain X fn ops h E h' → ∀ k, (∀ e ∈ E.take k, ∀ o, ops[e.j]? = some o → isMapUp o.op = true) → k ≤ E.length → aLoad X.P t p (endH E h' k) = aLoad X.P t p h
  | h, [], h', hc, k, hm, hk => by
    have : h' = h := hc
    subst this
    simp [endH]
  | h, e :: E, h', hc, 0, hm, hk => by
    simp [endH, hc.1]
  | h, e :: E, h', hc, k + 1, hm, hk => by
    have : endH (e :: E) h' (k + 1) = endH E h' k := by simp [endH]
    rw [this, chain_load hc.2.2 k (fun e' he' => hm e' (by simp [he'])) (by simpa using hk)]
    have h1 := hc.1
    rcases hc.2.1 with h2 | ⟨tm, o, v, ho, hev⟩
    · rw [h2, h1]
    · rw [load_mapUp (hm e (by simp) o ho) hev, h1]
theorem drawn_early {X : Cx} {fn : FuncId} {ops : Array Oper} {pl : Plan} (hpl : planOf X.P (X.mu fn) ops = some pl) (hearly : earlyOK X.P (X.mu fn) ops pl.T = true) {tm tm' : List AV} {df : List Id} {h h' : AH} {E' : List EffE}
    (hst : dgo X fn ops pl.ord ⟨tm, h, [], []⟩ = some ⟨tm', h', E', []⟩) : drawn X fn ops ⟨tm, df, h⟩ = some (.normal, ⟨tm', df, h'⟩) := by
  have hfirst := dgo_first hst
  unfold drawn
  rw [hpl]
  simp only [hst]
  unfold planOf at hpl
  split at hpl
  case h_2 => cases hpl
  rename_i T hT
  simp only at hpl
  split at hpl
  case isFalse => cases hpl
  rename_i hok
  simp only [Option.some.injEq] at hpl; subst hpl
  simp only [Bool.and_eq_true] at hok
  simp only at hst hearly ⊢
  have hT0 : MOK ops [] := ⟨fun j m h => by simp at h, fun j h => by simp at h⟩
  obtain ⟨hTok, hTl⟩ := masks_ok hT (fun i o hi => by simpa using hi) hT0
  obtain ⟨hdf, _, hsame⟩ := dgo_ok (h0 := h) (tm0 := tm) hTok hok.1 _ 0 0 _ _ hok.2 hst (fun e he => by simp at he) (.refl _) (fun _ _ => rfl) (fun _ _ => rfl) (fun i k h => by simp at h) (fun e he => by simp at he)
  obtain ⟨E2, hE2, hEk, _, _⟩ := hdf.E
  simp only [List.nil_append] at hE2
  subst hE2
  obtain ⟨E3, A3, hE3, hA3, hch⟩ := hfirst
  simp only [List.nil_append] at hE3 hA3
  subst hE3; subst hA3
  have hch := hch rfl
  simp only at hch
  rw [if_pos]
  simp only [Bool.or_eq_true, Bool.and_eq_true]
  refine .inr ⟨⟨readsChk_of fun j hj => ?_, rfl⟩, rfl⟩
  obtain ⟨o, ho, hop, _⟩ := hdf.op j hj
  refine ⟨o, ho, ?_⟩
  unfold readChk
  unfold OpF at hop
  simp only at hop ⊢
  split
  · rename_i hw
    rw [if_pos hw] at hop
    split
    · rename_i hk
      rw [hk] at hop
      obtain ⟨v, h1, h2, he, hsl, _, E1, E4, hE, hbit, hh⟩ := hop
      have hEff : ∀ e ∈ E', (T.getD e.j 0).testBit j = false → isLoad o.op = true ∧ ∀ o', ops[e.j]? = some o' → isMapUp o'.op = true := fun e hm hb => by
        obtain ⟨_, o', ho', hk'⟩ := hEk e hm
        rcases earlyOK_spec hearly ho hk ho' hk' with h | ⟨h3, h4⟩
        · rw [hb] at h; cases h
        · exact ⟨h3, fun o2 ho2 => by rw [ho'] at ho2; simp only [Option.some.injEq] at ho2; subst ho2; exact h4⟩
      have hE1l : E1.length ≤ E'.length := by rw [hE]; simp
      have h1e : h1 = endH E' h' E1.length := hh trivial
      -- any heap at which the look may be taken shows the same
      have key : ∀ k, k ≤ E'.length → (∀ e ∈ E'.take k, (T.getD e.j 0).testBit j = false) → ∃ h3, evOp X fn tm' o (endH E' h' k) = some (.ret v, h3) := by
        intro k hk2 hb
        by_cases hl : isLoad o.op = true
        · refine evOp_load hl (fun t p => ?_) he
          rw [h1e, chain_load hch k (fun e hm => (hEff e (List.mem_of_mem_take hm) (hb e hm)).2) hk2, chain_load hch E1.length (fun e hm => (hEff e (List.mem_of_mem_take hm) (hbit e (by rw [hE] at hm; simpa using hm))).2) hE1l]
        · have hk0 : k = 0 := by
            cases k with
            | zero => rfl
            | succ k =>
              cases hE5 : E' with
              | nil => rw [hE5] at hk2; simp at hk2
              | cons e E6 =>
                rw [hE5] at hb
                exact absurd (hEff e (by rw [hE5]; simp) (hb e (by simp))).1 hl
          have hE0 : E1.length = 0 := by
            cases E1 with
            | nil => rfl
            | cons e r => exact absurd (hEff e (by rw [hE]; simp) (hbit e (by simp))).1 hl
          rw [hk0, ← hE0, ← h1e]
          exact ⟨h2, he⟩
      rw [List.all_eq_true]
      intro k hkr
      have hkl : k ≤ E'.length := by simp at hkr; omega
      cases hp : poss T E' j k with
      | false => rfl
      | true =>
        unfold poss at hp
        simp only [Bool.and_eq_true] at hp
        obtain ⟨h3, hev⟩ := key k hkl (fun e hm => by have := List.all_eq_true.1 hp.1 e hm; simpa using this)
        rw [hev]
        simp only [Bool.or_eq_true]
        right
        unfold slotIs
        split
        · rfl
        · rename_i d hd
          split
          · rename_i u hu
            have := hsl d hd (List.getElem?_eq_some_iff.1 hu).1
            rw [hu] at this; simp only [Option.some.injEq] at this; subst this
            exact AV.beq_refl _
          · rfl
    · rfl
  · rfl
end Go.Sk

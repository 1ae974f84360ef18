/-
  Regions that draw their order and leave the abstract heap as it was: the planned order's run is the evaluator's.
-/
import Derived.Test.YtcbjhieaonociaaSkX1
namespace Go.Sk

/-- The planned order's run, the heap staying as it was. -/
inductive QGo (X : Cx) (fn : FuncId) (ops : Array Oper) (h : AH) : List Nat → List AV → List AV → Prop
  | nil (tm : List AV) : QGo X fn ops h [] tm tm
  | cons {j : Nat} {r : List Nat} {o : Oper} {tm tm1 tm2 : List AV} {E1 : List EffE} (ho : ops[j]? = some o) (hs : dstep X fn ops j o ⟨tm, h, [], []⟩ = some ⟨tm1, h, E1, []⟩) (hr : QGo X fn ops h r tm1 tm2) : QGo X fn ops h (j :: r) tm tm2

theorem dstep_E {X : Cx} {fn : FuncId} {ops : Array Oper} {j : Nat} {o : Oper} {tm tm1 : List AV} {h : AH} {E E1 : List EffE} (hs : dstep X fn ops j o ⟨tm, h, [], []⟩ = some ⟨tm1, h, E1, []⟩) :
    dstep X fn ops j o ⟨tm, h, E, []⟩ = some ⟨tm1, h, E ++ E1, []⟩ ∧ ∀ e ∈ E1, e.hEnd = h ∧ e.hNext = h := by
  unfold dstep at hs ⊢
  simp only at hs ⊢
  repeat' split at hs
  all_goals first | (cases hs; done) | skip
  all_goals (simp only [Option.some.injEq, DSt.mk.injEq] at hs)
  all_goals (obtain ⟨h1, h2, h3, h4⟩ := hs)
  all_goals (subst h1)
  all_goals first
    | (simp at h4; done)
    | (subst h3; simp_all)

theorem QGo.dgo {X : Cx} {fn : FuncId} {ops : Array Oper} {h : AH} {L : List Nat} {tm tm' : List AV} (hq : QGo X fn ops h L tm tm') : ∀ E, ∃ E', Go.Sk.dgo X fn ops L ⟨tm, h, E, []⟩ = some ⟨tm', h, E ++ E', []⟩ ∧ ∀ e ∈ E', e.hEnd = h ∧ e.hNext = h := by
  induction hq with
  | nil tm => intro E; exact ⟨[], by simp [Go.Sk.dgo], by simp⟩
  | @cons j r o tm tm1 tm2 E1 ho hs _ ih =>
    intro E
    obtain ⟨h1, h2⟩ := dstep_E (E := E) hs
    obtain ⟨E', h3, h4⟩ := ih (E ++ E1)
    refine ⟨E1 ++ E', by simp only [Go.Sk.dgo, ho, h1]; rw [h3, List.append_assoc], fun e he => ?_⟩
    rcases List.mem_append.1 he with he | he
    · exact h2 e he
    · exact h4 e he

theorem readsChk_of {X : Cx} {fn : FuncId} {ops : Array Oper} {T : List Nat} {st : DSt} : ∀ {L : List Nat}, (∀ j ∈ L, ∃ o, ops[j]? = some o ∧ readChk X fn ops T st j o = true) → readsChk X fn ops T st L = true
  | [], _ => rfl
  | j :: r, h => by
    obtain ⟨o, ho, hc⟩ := h j (by simp)
    simp only [readsChk, ho, hc, Bool.true_and]
    exact readsChk_of fun i hi => h i (List.mem_cons_of_mem _ hi)

theorem drawn_quiet {X : Cx} {fn : FuncId} {ops : Array Oper} {pl : Plan} (hpl : planOf X.P (X.mu fn) ops = some pl) {tm tm' : List AV} {df : List Id} {h : AH} (hq : QGo X fn ops h pl.ord tm tm') : drawn X fn ops ⟨tm, df, h⟩ = some (.normal, ⟨tm', df, h⟩) := by
  obtain ⟨E', hst, hE⟩ := hq.dgo []
  simp only [List.nil_append] at hst
  unfold drawn
  rw [hpl]
  simp only [hst]
  unfold planOf at hpl
  split at hpl
  case h_2 => cases hpl
  rename_i T hT
  simp only at hpl
  split at hpl
  case isFalse => cases hpl
  rename_i hok
  simp only [Option.some.injEq] at hpl; subst hpl
  simp only [Bool.and_eq_true] at hok
  simp only at hst ⊢
  have hT0 : MOK ops [] := ⟨fun j m h => by simp at h, fun j h => by simp at h⟩
  obtain ⟨hTok, hTl⟩ := masks_ok hT (fun i o hi => by simpa using hi) hT0
  obtain ⟨hdf, _, hsame⟩ := dgo_ok (h0 := h) (tm0 := tm) hTok hok.1 _ 0 0 _ _ hok.2 hst (fun e he => by simp at he) (.refl _) (fun _ _ => rfl) (fun _ _ => rfl) (fun i k h => by simp at h)
  have hno : NoCh h E' := fun e he => (hE e he).2
  rw [if_pos]
  simp only [Bool.or_eq_true, Bool.and_eq_true]
  refine .inr ⟨⟨readsChk_of fun j hj => ?_, rfl⟩, rfl⟩
  obtain ⟨o, ho, hop, _⟩ := hdf.op j hj
  refine ⟨o, ho, ?_⟩
  unfold readChk
  unfold OpF at hop
  simp only at hop ⊢
  split
  · rename_i hw
    rw [if_pos hw] at hop
    split
    · rename_i hk
      rw [hk] at hop
      obtain ⟨v, h1, h2, he, hsl, hh⟩ := hop
      obtain rfl := hh hno trivial
      rw [List.all_eq_true]
      intro k _
      have hend : endH E' h1 k = h1 := by
        unfold endH
        split
        · rename_i e hek
          exact (hE e (List.mem_of_getElem? hek)).1
        · rfl
      rw [hend, he]
      simp only [Bool.or_eq_true]
      right
      unfold slotIs
      split
      · rfl
      · rename_i d hd
        split
        · rename_i u hu
          have := hsl d hd (List.getElem?_eq_some_iff.1 hu).1
          rw [hu] at this; simp only [Option.some.injEq] at this; subst this
          exact AV.beq_refl _
        · rfl
    · rfl
  · rfl

end Go.Sk

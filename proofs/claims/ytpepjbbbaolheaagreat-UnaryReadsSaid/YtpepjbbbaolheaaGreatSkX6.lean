/-
  Drawn regions whose looks at the heap answer the same wherever they are taken.
-/
import Derived.Test.YtpepjbbbaolheaaGreatSkX2
namespace Go.Sk

/-- Each look at the heap shows what its slot holds, at every heap of a kind. -/
def ReadsSt (X : Cx) (fn : FuncId) (ops : Array Oper) (St : AH → Prop) (tm : List AV) : List Nat → Prop
  | [] => True
  | j :: r => (match ops[j]? with
    | some o => (match opKnd X.P (o.dst.any (X.mu fn)) o.op with
      | .read => wantedA ops tm o = true → ∀ hh, St hh → ∃ h2, evOp X fn tm o hh = some (.ret (match o.dst with | some d => tm.getD d undefA | none => undefA), h2)
      | _ => True)
    | none => True) ∧ ReadsSt X fn ops St tm r

theorem ReadsSt.get {X : Cx} {fn : FuncId} {ops : Array Oper} {St : AH → Prop} {tm : List AV} : ∀ {L : List Nat}, ReadsSt X fn ops St tm L → ∀ j ∈ L, ∀ o, ops[j]? = some o → opKnd X.P (o.dst.any (X.mu fn)) o.op = .read → wantedA ops tm o = true → ∀ hh, St hh →
    ∃ h2, evOp X fn tm o hh = some (.ret (match o.dst with | some d => tm.getD d undefA | none => undefA), h2)
  | [], _, j, hj, _, _, _, _, _, _ => by cases hj
  | i :: r, h, j, hj, o, ho, hk, hw, hh, hs => by
    rcases List.mem_cons.1 hj with rfl | hj
    · have := h.1
      simp only [ho, hk] at this
      exact this hw hh hs
    · exact h.2.get j hj o ho hk hw hh hs

theorem Chain.st {X : Cx} {fn : FuncId} {ops : Array Oper} {St : AH → Prop} : ∀ {h : AH} {E : List EffE} {h' : AH}, Chain X fn ops h E h' → St h → (∀ e ∈ E, St e.hNext) → ∀ k, St (Go.Sk.endH E h' k)
  | h, [], h', hc, hs, _, k => by
    have : h' = h := hc
    subst this
    simpa [Go.Sk.endH] using hs
  | h, e :: E, h', hc, hs, he, 0 => by
    have := hc.1
    simpa [Go.Sk.endH, this] using hs
  | h, e :: E, h', hc, hs, he, k + 1 => by
    have : Go.Sk.endH (e :: E) h' (k + 1) = Go.Sk.endH E h' k := by simp [Go.Sk.endH]
    rw [this]
    exact hc.2.2.st (he e (by simp)) (fun e' h' => he e' (by simp [h'])) k

theorem drawn_stable {X : Cx} {fn : FuncId} {ops : Array Oper} {pl : Plan} (hpl : planOf X.P (X.mu fn) ops = some pl) {St : AH → Prop} {tm tm' : List AV} {df : List Id} {h h' : AH} {E' : List EffE}
    (hst : dgo X fn ops pl.ord ⟨tm, h, [], []⟩ = some ⟨tm', h', E', []⟩) (h0 : St h) (hE : ∀ e ∈ E', St e.hNext) (hr : ReadsSt X fn ops St tm' pl.ord) : drawn X fn ops ⟨tm, df, h⟩ = some (.normal, ⟨tm', df, h'⟩) := by
  obtain ⟨E3, A3, hE3, hA3, hch⟩ := dgo_first hst
  simp only [List.nil_append] at hE3 hA3
  subst hE3; subst hA3
  have hch := hch rfl
  simp only at hch
  unfold drawn
  rw [hpl]
  simp only [hst]
  rw [if_pos]
  simp only [Bool.or_eq_true, Bool.and_eq_true]
  refine .inr ⟨⟨?_, rfl⟩, rfl⟩
  have hops : ∀ j ∈ pl.ord, ∃ o, ops[j]? = some o := by
    have : ∀ (L : List Nat) (s s' : DSt), dgo X fn ops L s = some s' → ∀ j ∈ L, ∃ o, ops[j]? = some o := by
      intro L
      induction L with
      | nil => intro s s' _ j hj; cases hj
      | cons i r ih =>
        intro s s' hg j hj
        simp only [dgo] at hg
        split at hg
        · rename_i o ho
          split at hg
          · rename_i s1 _
            rcases List.mem_cons.1 hj with rfl | hj
            · exact ⟨o, ho⟩
            · exact ih s1 s' hg j hj
          · cases hg
        · cases hg
    exact this _ _ _ hst
  refine readsChk_of fun j hj => ?_
  obtain ⟨o, ho⟩ := hops j hj
  refine ⟨o, ho, ?_⟩
  unfold readChk
  simp only
  split
  · rename_i hw
    split
    · rename_i hk
      rw [List.all_eq_true]
      intro k _
      obtain ⟨h2, hev⟩ := hr.get j hj o ho hk hw _ (hch.st h0 hE k)
      rw [hev]
      simp only [Bool.or_eq_true]
      right
      unfold slotIs
      cases hd : o.dst with
      | none => rfl
      | some d =>
        simp only
        split
        · rename_i u hu
          rw [List.getD_eq_getElem?_getD, hu]
          exact AV.beq_refl _
        · rfl
    · rfl
  · rfl

open Classical in
/-- If so, then: shut. -/
@[irreducible] noncomputable def atP {α : Type} (p : Prop) (x : Option α) : Option α := if p then x else none
theorem atP_P {α : Type} {Q : Option α → Prop} {p : Prop} {x : Option α} (hp : p) (hy : Q x) : Q (atP p x) := by unfold atP; rw [if_pos hp]; exact hy
theorem atP_inv {α : Type} {p : Prop} {x : Option α} {y : α} (h : atP p x = some y) : p ∧ x = some y := by
  unfold atP at h
  split at h
  · rename_i hp; exact ⟨hp, h⟩
  · cases h

section
variable {α : Type}

/-- In the planned order, every heap on the way being of a kind. -/
noncomputable def cDrawS (sh : Bool) (X : Cx) (fn : FuncId) (ops : Array Oper) (St : AH → Prop) (all : List Nat) (ord : List Nat) : List AV → AH → (List AV → AH → Option α) → Option α :=
  List.rec (motive := fun _ => List AV → AH → (List AV → AH → Option α) → Option α)
    (fun tm h k => atP (ReadsSt X fn ops St tm all) (k tm h))
    (fun j _ go tm h k =>
      match ops[j]? with
      | some o =>
        cWanted ops tm o
          (fun tm =>
            match opKnd X.P (o.dst.any (X.mu fn)) o.op with
            | .new => none
            | .eff => cOp sh X fn tm o h (fun v h' => atP (St h') (putF tm o.dst v fun tm => go tm h' k)) (fun _ _ => none)
            | _ => cOp sh X fn tm o h (fun v _ => putF tm o.dst v fun tm => go tm h k) (fun _ _ => none))
          (fun tm => match opKnd X.P (o.dst.any (X.mu fn)) o.op with
            | .eff => atP (St h) (putF tm o.dst undefA fun tm => go tm h k)
            | _ => putF tm o.dst undefA fun tm => go tm h k)
      | none => none) ord

theorem cDrawS_inv {sh : Bool} {X : Cx} {fn : FuncId} {ops : Array Oper} {St : AH → Prop} {all : List Nat} {k : List AV → AH → Option α} {y : α} : ∀ {ord : List Nat} {tm : List AV} {h : AH} {E : List EffE}, cDrawS sh X fn ops St all ord tm h k = some y →
    ∃ tm' h' E', dgo X fn ops ord ⟨tm, h, E, []⟩ = some ⟨tm', h', E ++ E', []⟩ ∧ (∀ e ∈ E', St e.hNext) ∧ ReadsSt X fn ops St tm' all ∧ k tm' h' = some y
  | [], tm, h, E, he => by
    obtain ⟨h1, h2⟩ := atP_inv (show atP (ReadsSt X fn ops St tm all) (k tm h) = some y from he)
    exact ⟨tm, h, [], by simp [dgo], by simp, h1, h2⟩
  | j :: r, tm, h, E, he => by
    have he : (match ops[j]? with
      | some o =>
        cWanted ops tm o
          (fun tm =>
            match opKnd X.P (o.dst.any (X.mu fn)) o.op with
            | .new => none
            | .eff => cOp sh X fn tm o h (fun v h' => atP (St h') (putF tm o.dst v fun tm => cDrawS sh X fn ops St all r tm h' k)) (fun _ _ => none)
            | _ => cOp sh X fn tm o h (fun v _ => putF tm o.dst v fun tm => cDrawS sh X fn ops St all r tm h k) (fun _ _ => none))
          (fun tm => match opKnd X.P (o.dst.any (X.mu fn)) o.op with
            | .eff => atP (St h) (putF tm o.dst undefA fun tm => cDrawS sh X fn ops St all r tm h k)
            | _ => putF tm o.dst undefA fun tm => cDrawS sh X fn ops St all r tm h k)
      | none => none) = some y := he
    simp only [dgo]
    cases ho : ops[j]? with
    | none => rw [ho] at he; cases he
    | some o =>
    rw [ho] at he
    simp only [cWanted_eq, cOp_eq] at he
    unfold dstep
    simp only
    split at he
    · rename_i hw
      rw [if_pos hw]
      cases hk : opKnd X.P (o.dst.any (X.mu fn)) o.op <;> rw [hk] at he <;> simp only at he ⊢
      case new => cases he
      all_goals
        cases hev : evOp X fn tm o h with
        | none => rw [hev] at he; cases he
        | some x =>
          obtain ⟨x, h'⟩ := x
          rw [hev] at he
          cases x with
          | pan v => cases he
          | ret v =>
            simp only [onOut, forceV_eq, putF_eq] at he ⊢
            first
              | exact cDrawS_inv he
              | (obtain ⟨hp, he⟩ := atP_inv he
                 obtain ⟨tm', h2, E', q1, q2, q3, q4⟩ := cDrawS_inv (E := E ++ [⟨j, h, h'⟩]) he
                 refine ⟨tm', h2, ⟨j, h, h'⟩ :: E', by rw [q1]; simp, fun e hm => ?_, q3, q4⟩
                 rcases List.mem_cons.1 hm with rfl | hm
                 · exact hp
                 · exact q2 e hm)
    · rename_i hw
      rw [if_neg hw]
      cases hk : opKnd X.P (o.dst.any (X.mu fn)) o.op <;> rw [hk] at he <;> simp only [putF_eq] at he ⊢
      all_goals first
        | exact cDrawS_inv he
        | (obtain ⟨hp, he⟩ := atP_inv he
           obtain ⟨tm', h2, E', q1, q2, q3, q4⟩ := cDrawS_inv (E := E ++ [⟨j, h, h⟩]) he
           refine ⟨tm', h2, ⟨j, h, h⟩ :: E', by rw [q1]; simp, fun e hm => ?_, q3, q4⟩
           rcases List.mem_cons.1 hm with rfl | hm
           · exact hp
           · exact q2 e hm)

/-- A drawn region, as the regions' evaluator says it, in place of a told order: the told kind of heaps. -/
theorem drawn_S {sh : Bool} {X : Cx} {fn : FuncId} {ops : Array Oper} {pl : Plan} {St : AH → Prop} {ord : List Nat} (hpl : planOf X.P (X.mu fn) ops = some pl) (ho : pl.ord = ord) {tm : List AV} {df : List Id} {h : AH} {k : KC α} {Q : Option α → Prop} (hn : ¬ Q none) (h0 : St h)
    (hy : Q (cDrawS sh X fn ops St ord ord tm h fun tm' h' => k .normal ⟨tm', df, h'⟩)) : Q ((drawn X fn ops ⟨tm, df, h⟩).bind fun r => k r.1 r.2) := by
  subst ho
  cases hc : cDrawS sh X fn ops St pl.ord pl.ord tm h fun tm' h' => k .normal ⟨tm', df, h'⟩ with
  | none => rw [hc] at hy; exact absurd hy hn
  | some y =>
    obtain ⟨tm', h', E', q1, q2, q3, q4⟩ := cDrawS_inv (E := []) hc
    rw [List.nil_append] at q1
    rw [drawn_stable hpl q1 h0 q2 q3]
    rw [hc] at hy
    simp only [Option.bind_some, q4]
    exact hy

/-- The same, at the place where the evaluator waits. -/
theorem atRgn_S {sh : Bool} {X : Cx} {fn : FuncId} {ops : Array Oper} {pl : Plan} {St : AH → Prop} {ord : List Nat} {r : Option (AExit × ASt)} (hpl : planOf X.P (X.mu fn) ops = some pl) (ho : pl.ord = ord) {tm : List AV} {df : List Id} {h : AH} {k : KC α} {Q : Option α → Prop}
    (hr : r = drawn X fn ops ⟨tm, df, h⟩) (hn : ¬ Q none) (h0 : St h) (hy : Q (cDrawS sh X fn ops St ord ord tm h fun tm' h' => k .normal ⟨tm', df, h'⟩)) : Q (atRgn r k) := by
  unfold atRgn
  rw [hr]
  exact drawn_S hpl ho hn h0 hy
end

end Go.Sk

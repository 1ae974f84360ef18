/-
  Code, walked.
-/
import Derived.Test.YtnhejnnpcnoeeaaGreatSkT
import Derived.LoopNIn
import Derived.TacticsIn
namespace Go.Sk
variable {P : Program}
def XRel (ρ : Rho) : AExit → Exit → Prop
  | .normal, .normal => True
  | .exit i, .exit j => i = j
  | .ret, .ret => True
  | .pan v, .panic ch => ∃ c, ch = [{ v := c, recovered := false }] ∧ VRel ρ v c
  | _, _ => False
def CP (ρ0 : Rho) (h0 : AH) (w0 : World) (r : AExit × ASt) : Exit → Act → World → Prop :=
  fun e a' w' => ∃ ρ', XRel ρ' r.1 e ∧ SRel ρ' r.2 a' w' ∧ Stp ρ0 h0 w0 ρ' r.2.h w'
def RdRel (ρ : Rho) : Option Id → Option Nat → Prop
  | none, none => True
  | some l, some b => ρ.obj l = some b
  | _, _ => False
theorem RdRel.mono {ρ ρ' : Rho} (hl : ρ.le ρ') {x : Option Id} {y : Option Nat} (h : RdRel ρ x y) : RdRel ρ' x y := by
  cases x <;> cases y <;> simp_all [RdRel]
  exact hl.obj _ _ h
structure WS (ρ0 : Rho) (h0 : AH) (w0 : World) (ρ : Rho) (s : ASt) (a : Act) (w : World) : Prop where
  base : ρ0.base ≤ w0.heap.size
  rel : SRel ρ s a w
  stp : Stp ρ0 h0 w0 ρ s.h w
theorem WS.base' {ρ0 ρ : Rho} {h0 : AH} {w0 w : World} {s : ASt} {a : Act} (h : WS ρ0 h0 w0 ρ s a w) : ρ.base ≤ w.heap.size := by
  have := h.stp.le.base; have := h.stp.size; have := h.base; omega
def BodyOK (P : Program) (f : ASt → Option (AExit × ASt)) (c : Code) (rdA : Option Id) : Prop :=
  ∀ s r, f s = some r → ∀ ρ a w rd n, SRel ρ s a w → ρ.base ≤ w.heap.size → RdRel ρ rdA rd → c.wpIn (FR rd) n P (CP ρ s.h w r) a w
def RgnOK (P : Program) (rgn : Nat → Array Oper → ASt → Option (AExit × ASt)) : Prop := ∀ id ops rdA, BodyOK P (rgn id ops) (.region id ops true) rdA
theorem CP.from {ρ0 ρ : Rho} {h0 h : AH} {w0 w : World} {r : AExit × ASt} (hs : Stp ρ0 h0 w0 ρ h w) : ∀ e a' w', CP ρ h w r e a' w' → CP ρ0 h0 w0 r e a' w' :=
  fun _ _ _ ⟨ρ', h1, h2, h3⟩ => ⟨ρ', h1, h2, hs.trans h3⟩
theorem Stp.base' {ρ0 ρ : Rho} {h0 h : AH} {w0 w : World} (hs : Stp ρ0 h0 w0 ρ h w) (hb : ρ0.base ≤ w0.heap.size) : ρ.base ≤ w.heap.size := by
  have := hs.le.base; have := hs.size; omega
section
variable {ρ0 ρ : Rho} {h0 : AH} {w0 w : World} {s : ASt} {a : Act}
theorem yielded_rel {tm : List AV} {tmps : Array Value} (h : LRel ρ tm tmps.toList) (ops : Array Oper) (j : Nat) : yieldedA ops tm j = yielded ops tmps j := by
  unfold yieldedA yielded
  cases hd : (ops[j]?).bind (·.dst) with
  | none => rfl
  | some d =>
    simp only [Option.bind_some]
    cases ht : tm[d]? with
    | none =>
      have : tmps[d]? = none := by
        rw [List.getElem?_eq_none_iff] at ht
        rw [Array.getElem?_eq_none_iff]
        have := h.1; simp at this; omega
      rw [this]
    | some v =>
      obtain ⟨c, hc, hv⟩ := h.find ht
      have hc' : tmps[d]? = some c := by simpa using hc
      rw [hc']
      cases hv <;> rfl
theorem wanted_rel {tm : List AV} {tmps : Array Value} (h : LRel ρ tm tmps.toList) (ops : Array Oper) (o : Oper) : wantedA ops tm o = Region.wanted o (yielded ops tmps) := by
  unfold wantedA Region.wanted
  cases o.guard with
  | none => rfl
  | some p => obtain ⟨j, want⟩ := p; simp only [yielded_rel h]
theorem wp_evOps {X : Cx} (hP : X.P = P) (hX : CallOK P X.call) {fn : FuncId} {ops : Array Oper} {rd : Option Nat} {n : Nat} : ∀ (l : List Oper) (s : ASt) (r : AExit × ASt), evOps X fn ops l s = some r →
    ∀ (ρ : Rho) (a : Act) (w : World), WS ρ0 h0 w0 ρ s a w → wpListIn (FR rd) n P ops (CP ρ0 h0 w0 r) l a w
  | [], s, r, he, ρ, a, w, hs => by
    simp only [evOps, Option.some.injEq] at he; subst he
    exact ⟨ρ, trivial, hs.rel, hs.stp⟩
  | o :: l, s, r, he, ρ, a, w, hs => by
    simp only [evOps] at he
    rw [wanted_rel hs.rel.tm] at he
    unfold wpListIn
    split at he
    · rename_i hw
      rw [if_pos hw]
      split at he
      · rename_i v h' ho
        refine wp_evOp hP hX hs.rel hs.base' ho (fun v' c w' ρ' e hv hr hst => ?_) (fun v' c w' ρ' e => by cases e)
        simp only [AOut.ret.injEq] at e; subst e
        exact wp_evOps hP hX l _ r he ρ' _ w' ⟨hs.base, hs.rel.put hst.le hr hv o.dst, hs.stp.trans hst⟩
      · rename_i v h' ho
        simp only [Option.some.injEq] at he; subst he
        refine wp_evOp hP hX hs.rel hs.base' ho (fun v' c w' ρ' e => by cases e) (fun v' c w' ρ' e hv hr hst => ?_)
        simp only [AOut.pan.injEq] at e; subst e
        exact ⟨ρ', ⟨c, rfl, hv⟩, ⟨hs.rel.tm.mono hst.le, hs.rel.df.mono hst.le, hr⟩, hs.stp.trans hst⟩
      · cases he
    · rename_i hw
      rw [if_neg hw]
      exact ⟨fun _ _ => trivial, wp_evOps hP hX l _ r he ρ _ w ⟨hs.base, hs.rel.put (Rho.le_refl ρ) hs.rel.rel (VRel.undef ρ) o.dst, hs.stp⟩⟩
theorem CP.then_ {r : AExit × ASt} {K : Act → World → Prop} {Q : Exit → Act → World → Prop} (hn : ∀ s', r = (.normal, s') → ∀ ρ' a' w', SRel ρ' s' a' w' → Stp ρ0 h0 w0 ρ' s'.h w' → K a' w')
    (hx : (∀ s', r ≠ (.normal, s')) → ∀ e a' w', CP ρ0 h0 w0 r e a' w' → Q e a' w') : ∀ e a' w', CP ρ0 h0 w0 r e a' w' → Exit.then K Q e a' w' := by
  intro e a' w' hc
  obtain ⟨x, s'⟩ := r
  cases x with
  | normal =>
    obtain ⟨ρ', h1, h2, h3⟩ := hc
    cases e <;> first | exact hn s' rfl ρ' a' w' h2 h3 | exact h1.elim
  | exit i =>
    have := hx (fun s2 e => by cases e) e a' w' hc
    obtain ⟨ρ', h1, h2, h3⟩ := hc
    cases e <;> first | exact this | exact h1.elim
  | ret =>
    have := hx (fun s2 e => by cases e) e a' w' hc
    obtain ⟨ρ', h1, h2, h3⟩ := hc
    cases e <;> first | exact this | exact h1.elim
  | pan v =>
    have := hx (fun s2 e => by cases e) e a' w' hc
    obtain ⟨ρ', h1, h2, h3⟩ := hc
    cases e <;> first | exact this | exact h1.elim
theorem thenA_not {r : AExit × ASt} (h : ∀ s', r ≠ (.normal, s')) (f : ASt → Option (AExit × ASt)) : thenA (some r) f = some r := by
  obtain ⟨x, s'⟩ := r
  cases x <;> first | rfl | exact absurd rfl (h s')
theorem wp_iter {f : ASt → Option (AExit × ASt)} {c : Code} {rdA : Option Id} (hf : BodyOK P f c rdA) {rd : Option Nat} {n : Nat} : ∀ (m : Nat) (s : ASt) (r : AExit × ASt), iter f m s = some r →
    ∀ (ρ : Rho) (a : Act) (w : World), WS ρ0 h0 w0 ρ s a w → RdRel ρ rdA rd → Code.roundsIn (FR rd) n P c (CP ρ0 h0 w0 r) m a w
  | 0, _, _, he, _, _, _, _, _ => by cases he
  | m + 1, s, r, he, ρ, a, w, hs, hrd => by
    unfold Code.roundsIn
    unfold iter at he
    cases hfs : f s with
    | none => rw [hfs] at he; cases he
    | some r1 =>
      rw [hfs] at he
      refine wpIn_mono (hf s r1 hfs ρ a w rd n hs.rel hs.base' hrd) (CP.then_ (fun s' e ρ' a' w' h2 h3 => ?_) (fun hne e a' w' hc => ?_))
      · subst e
        exact wp_iter hf m s' r he ρ' a' w' ⟨hs.base, h2, hs.stp.trans h3⟩ (hrd.mono h3.le)
      · have : r1 = r := by
          obtain ⟨x, s'⟩ := r1
          cases x <;> first | exact absurd rfl (hne s') | simpa using he
        subst this
        exact CP.from hs.stp e a' w' hc
end
section
variable {F : Fence} {n : Nat} {Q : Exit → Act → World → Prop} {a : Act} {w : World}
theorem stepR_scope {b : Frame} {a : Act} {k : List Item} {cs : List Frame} {w : World} {c : Code} :
    step P (lone (b.atR a (.code (.scope c) :: k)) cs w) = .next (lone (b.atR a (.code c :: .inScope c :: k)) cs w) :=
  step_lone_go (by simp [stepG, stepG.exec, Frame.atR])
theorem stepR_inScope {b : Frame} {a : Act} {k : List Item} {cs : List Frame} {w : World} {c : Code} :
    step P (lone (b.atR a (.inScope c :: k)) cs w) = .next (lone (b.atR a k) cs w) :=
  step_lone_go (by simp [stepG, stepG.exec, Frame.atR])
theorem wpIn_scope {c : Code} (h : c.wpIn F n P Q a w) (hg : ∀ l a w, ¬ Q (.goto l) a w) : (Code.scope c).wpIn F n P Q a w := by
  intro b k cs hro hb hr
  have h0 : (lone (b.atR a (.code (.scope c) :: k)) cs w).fenced P F := fenced_calm hb hr rfl
  obtain ⟨e, a₁, w₁, hq, harr⟩ := h b (.inScope c :: k) cs hro hb hr
  have hx : ∀ id, exitTo id (.inScope c :: k) = exitTo id k := fun id => by simp [exitTo]
  cases e with
  | normal => exact ⟨.normal, a₁, w₁, hq, .head h0 stepR_scope (StepsIn.trans harr (.one (fenced_calm hb hr rfl) stepR_inScope))⟩
  | exit id =>
    exact ⟨.exit id, a₁, w₁, hq, fun k' hk => .head h0 stepR_scope (harr.1 k' (by rw [hx]; exact hk)),
        fun hr' hk => let ⟨k₁, h1, h2⟩ := harr.2 hr' (by rw [hx]; exact hk); ⟨k₁, h1, .head h0 stepR_scope h2⟩⟩
  | goto l => exact (hg l _ _ hq).elim
  | ret => exact ⟨_, a₁, w₁, hq, .of_steps (.one h0 stepR_scope) harr⟩
  | panic ch => exact ⟨_, a₁, w₁, hq, .of_steps (.one h0 stepR_scope) harr⟩
  | outgrown => exact ⟨_, a₁, w₁, hq, .of_steps (.one h0 stepR_scope) harr⟩
theorem CP.noGoto {ρ0 : Rho} {h0 : AH} {w0 : World} {r : AExit × ASt} {l : Nat} {a : Act} {w : World} : ¬ CP ρ0 h0 w0 r (.goto l) a w := by
  rintro ⟨ρ', h1, _, _⟩
  cases hr : r.1 <;> rw [hr] at h1 <;> exact h1.elim
end
end Go.Sk

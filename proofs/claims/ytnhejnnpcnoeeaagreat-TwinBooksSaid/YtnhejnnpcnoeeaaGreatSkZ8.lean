/-
  Regions that draw their order: what the evaluator says of one holds.
-/
import Derived.Test.YtnhejnnpcnoeeaaGreatSkZ7
namespace Go.Sk
variable {P : Program}
section
variable {X : Cx} {fn : FuncId} {ops : Array Oper} {s : ASt} {T ord : List Nat} {st : DSt} {ρ0 : Rho} {w0 : World} {listed : Array Bool} {k : Nat} {ρ : Rho} {a : Act} {w : World}
theorem Inv.new_keep (hI : Inv ρ0 s w0 ops st listed k ρ a w) {j : Nat} {ρ' : Rho} {h' : AH} {w' : World} (hS : Stp ρ (endH st.E st.h k) w ρ' h' w') :
    ∀ x ∈ st.A, x.q ≤ k → s.h.next.nat ≤ x.r.nat ∧ x.r.nat < (endH st.E st.h k).next.nat ∧ ((listed.setIfInBounds j true).getD x.j false = false → ρ'.obj x.r = none) := by
  intro x hx hq
  obtain ⟨n1, n2, n3⟩ := hI.new x hx hq
  refine ⟨n1, n2, fun hu => ?_⟩
  cases e : ρ'.obj x.r with
  | none => rfl
  | some b =>
    have := hS.old _ _ n2 e
    rw [n3 (unlisted_of_set hu)] at this; cases this
theorem Inv.quiet (g : GF X fn ops s T ord st) (hI : Inv ρ0 s w0 ops st listed k ρ a w) {j : Nat} {o : Oper} (hr : Rdy ops listed j o) (hw : wantedA ops st.tm o = true)
    (hk : opKnd X.P (o.dst.any (X.mu fn)) o.op = .pure ∨ opKnd X.P (o.dst.any (X.mu fn)) o.op = .read) :
    ∃ v, evOp X fn (mix ops listed s.tm st.tm) o (endH st.E st.h k) = some (.ret v, endH st.E st.h k) ∧ SlotF st.tm o v := by
  have hf := (g.op hr.op).1
  unfold OpF at hf
  rw [if_pos hw] at hf
  rcases hk with hk | hk
  · rw [hk] at hf
    obtain ⟨v, h, h', tmV, h1, h2, h3⟩ := hf
    obtain ⟨rfl, h4⟩ := pure_heap hk h1
    refine ⟨v, ?_, h2⟩
    have h7 : ∀ t ∈ o.looksAt ops, (mix ops listed s.tm st.tm)[t]? = tmV[t]? := fun t ht => by
      rcases h3 t ht with ⟨h5, h6⟩ | ⟨h5, h6⟩
      · rw [h6]; exact Inv.new_at g hr h5
      · rw [h6]; exact hI.old_at hr h5
    rw [evOp_congr (aEval_like h7)]
    exact h4 _
  · have hc : ∀ h, evOp X fn (mix ops listed s.tm st.tm) o h = evOp X fn st.tm o h := fun h => evOp_congr (aEval_like (Inv.like g hr (by rw [hk]; simp)))
    rw [hk] at hf
    obtain ⟨v, h, h', h1, h2, h3⟩ := hf
    rcases g.chk with ⟨hE, hA, hh⟩ | ⟨hck, _, _⟩
    · obtain rfl := h3.1 (hE ▸ NoCh.nil) hA
      obtain rfl := read_heap hk h1
      have hk0 : k = 0 := by have := hI.kle; rw [hE] at this; simpa using this
      subst hk0
      have e : endH st.E st.h 0 = s.h := by rw [hE]; simpa [endH] using hh
      rw [e]
      exact ⟨v, by rw [hc]; exact h1, h2⟩
    · have h4 := readsChk_mem hck j (g.all j (Array.getElem?_eq_some_iff.1 hr.op).1) o hr.op
      unfold readChk at h4
      rw [if_pos hw, hk] at h4
      simp only [List.all_eq_true, List.mem_range] at h4
      have h5 := h4 k (by have := hI.kle; omega)
      rw [hI.poss g hr] at h5
      simp only [Bool.not_true, Bool.false_or] at h5
      split at h5
      · rename_i u hx he
        obtain rfl := read_heap hk he
        refine ⟨u, by rw [hc]; exact he, fun d hd hlt => ?_⟩
        rw [hd] at h5
        simp only [slotIs] at h5
        rw [List.getElem?_eq_getElem hlt] at h5 ⊢
        simp only at h5
        rw [AV.beq_eq h5]
      · cases h5
theorem step_op (hP : X.P = P) (hX : CallOK P X.call) (g : GF X fn ops s T ord st) (hb0 : ρ0.base ≤ w0.heap.size) (hI : Inv ρ0 s w0 ops st listed k ρ a w) {j : Nat} (hj : j ∈ Region.ready .any ops listed)
    {rd : Option Nat} {n : Nat} {Q : Exit → Act → World → Prop} {K : Act → World → Prop}
    (hK : ∀ k' ρ' a' w', Inv ρ0 s w0 ops st (listed.setIfInBounds j true) k' ρ' a' w' → K a' w') : wpOpIn (FR rd) n P ops Q j K a w := by
  obtain ⟨o, hr⟩ := hI.rdy hj
  unfold wpOpIn
  rw [hr.op]
  simp only
  have hw : wantedA ops st.tm o = Region.wanted o (yielded ops a.tmps) := hI.wanted g hr
  have hb : ρ.base ≤ w.heap.size := Stp.base' hI.stp hb0
  rw [← hw]
  -- an effect, done
  have effK : ∀ (e : EffE) (v : AV) (c : Value) (ρ' : Rho) (w' : World), e ∈ st.E → e.j = j → SlotF st.tm o v → VRel ρ' v c → Rel ρ' e.hNext w' → Stp ρ (endH st.E st.h k) w ρ' e.hNext w' → K (a.put o.dst c) w' := by
    intro e v c ρ' w' he hej hsl hv hR hS
    obtain ⟨hat, heffs⟩ := hI.eff_at g hr he hej
    have hkl : k < st.E.length := (List.getElem?_eq_some_iff.1 hat).1
    have hbeg : begH s.h st.E (k + 1) = e.hNext := by simp [begH, hat]
    have hext := g.ext (q := k + 1) (by omega)
    rw [hbeg] at hext
    obtain ⟨hR2, hS2⟩ := hext.rel hR
    have hS3 := hS.trans hS2
    refine hK (k + 1) ρ' _ w' (hI.next g hr hsl (by omega) heffs hS.le hv hR2 (hI.stp.trans hS3) (fun x hx hq => ?_))
    rcases Nat.lt_or_ge x.q (k + 1) with hlt | hge
    · obtain ⟨n1, n2, n3⟩ := hI.new_keep (j := j) hS3 x hx (by omega)
      exact ⟨n1, Nat.lt_of_lt_of_le n2 hS3.next, n3⟩
    · have hxq : x.q = k + 1 := by omega
      obtain ⟨q1, q2⟩ := g.newQ x hx
      rw [hxq] at q1 q2
      rw [hbeg] at q1
      refine ⟨?_, q2, fun _ => ?_⟩
      · have := (hI.stp.trans hS).next; omega
      · cases e' : ρ'.obj x.r with
        | none => rfl
        | some b => have := (hR.bound _ _ e').2.2; omega
  split
  · rename_i hwt
    cases hk : opKnd X.P (o.dst.any (X.mu fn)) o.op with
    | pure =>
      obtain ⟨v, he, hsl⟩ := hI.quiet g hr hwt (.inl hk)
      refine wp_evOp (s := ⟨mix ops listed s.tm st.tm, s.df, endH st.E st.h k⟩) hP hX ⟨hI.tm, hI.df, hI.rel⟩ hb he (fun v' c w' ρ' e hv hR hS => ?_) (fun v' c w' ρ' e => by cases e)
      simp only [AOut.ret.injEq] at e; subst e
      exact hK k ρ' _ w' (hI.next g hr hsl hI.kle (hI.effs_same g hr.op (by rw [hk]; simp)) hS.le hv hR (hI.stp.trans hS) (hI.new_keep hS))
    | read =>
      obtain ⟨v, he, hsl⟩ := hI.quiet g hr hwt (.inr hk)
      refine wp_evOp (s := ⟨mix ops listed s.tm st.tm, s.df, endH st.E st.h k⟩) hP hX ⟨hI.tm, hI.df, hI.rel⟩ hb he (fun v' c w' ρ' e hv hR hS => ?_) (fun v' c w' ρ' e => by cases e)
      simp only [AOut.ret.injEq] at e; subst e
      exact hK k ρ' _ w' (hI.next g hr hsl hI.kle (hI.effs_same g hr.op (by rw [hk]; simp)) hS.le hv hR (hI.stp.trans hS) (hI.new_keep hS))
    | eff =>
      have hf := (g.op hr.op).1
      unfold OpF at hf
      rw [if_pos hwt, hk] at hf
      obtain ⟨v, e, hem, hej, he, hsl⟩ := hf
      obtain ⟨hat, _⟩ := hI.eff_at g hr hem hej
      have hend : endH st.E st.h k = e.hEnd := by simp [endH, hat]
      have he' : evOp X fn (mix ops listed s.tm st.tm) o e.hEnd = some (.ret v, e.hNext) := by rw [evOp_congr (aEval_like (Inv.like g hr (by rw [hk]; simp)))]; exact he
      have hR0 := hI.rel
      rw [hend] at hR0
      refine wp_evOp (s := ⟨mix ops listed s.tm st.tm, s.df, e.hEnd⟩) hP hX ⟨hI.tm, hI.df, hR0⟩ hb he' (fun v' c w' ρ' e1 hv hR hS => ?_) (fun v' c w' ρ' e1 => by cases e1)
      simp only [AOut.ret.injEq] at e1; subst e1
      exact effK e v c ρ' w' hem hej hsl hv hR (by rw [hend]; exact hS)
    | new =>
      have hf := (g.op hr.op).1
      unfold OpF at hf
      rw [if_pos hwt, hk] at hf
      obtain ⟨v, x, hxm, hxj, hn, hsl⟩ := hf
      rcases g.chk with ⟨_, hA, _⟩ | ⟨_, hA, hD⟩
      · rw [hA] at hxm; cases hxm
      · have hc := List.all_eq_true.1 hA x hxm
        unfold newChk at hc
        simp only [List.all_eq_true, List.mem_range] at hc
        have hc := hc k (by have := hI.kle; omega)
        rw [hxj, hI.poss g hr] at hc
        simp only [Bool.not_true, Bool.false_or, Bool.and_eq_true, decide_eq_true_eq] at hc
        obtain ⟨hq, hc⟩ := hc
        split at hc
        · rename_i ob hg
          have hob := AO.beq_eq hc
          have hlive := AO.beq_live hc
          subst hob
          obtain ⟨n1, n2, n3⟩ := hI.new x hxm hq
          have hfree := n3 (by rw [hxj]; exact hr.un)
          have hn' : newAt P (mix ops listed s.tm st.tm) o x.r = some (v, x.obj) := by rw [newAt_congr (aEval_like (Inv.like g hr (by rw [hk]; simp))), ← hP]; exact hn
          obtain ⟨cv, y, hrun, hv, hx⟩ := newAt_run (P := P) (w := w) hI.tm hfree hn'
          have hnd : ∀ c, o.op ≠ .defer c := fun c e => by rw [e] at hk; simp [opKnd] at hk
          refine ⟨fun _ _ => trivial, ?_⟩
          rw [Oper.semAt_eq _ _ _ hnd, hrun]
          refine hK k _ _ _ (hI.next g hr hsl hI.kle (hI.effs_same g hr.op (by rw [hk]; simp)) (Rho.le_withObj hfree) hv (hI.rel.bindObj hb hg hlive hfree y hx) (hI.stp.bindObj hfree n1 y) (fun z hz hzq => ?_))
          obtain ⟨m1, m2, m3⟩ := hI.new z hz hzq
          refine ⟨m1, m2, fun hu => ?_⟩
          have hzr : z.r ≠ x.r := fun e => by
            have := newDist_spec hD z hz x hxm e
            subst this
            have hjl : j < listed.size := by rw [hI.size]; exact (Array.getElem?_eq_some_iff.1 hr.op).1
            rw [hxj, getD_set_self hjl] at hu; cases hu
          simp only [Rho.withObj, if_neg hzr]
          exact m3 (unlisted_of_set hu)
        · cases hc
  · rename_i hwt
    have hf := (g.op hr.op).1
    unfold OpF at hf
    rw [if_neg hwt] at hf
    refine ⟨fun _ _ => trivial, ?_⟩
    by_cases hk : opKnd X.P (o.dst.any (X.mu fn)) o.op = .eff
    · obtain ⟨e, hem, hej, hee⟩ := hf.2 hk
      obtain ⟨hat, _⟩ := hI.eff_at g hr hem hej
      have hend : endH st.E st.h k = e.hEnd := by simp [endH, hat]
      exact effK e undefA Go.undef ρ w hem hej hf.1 (VRel.undef ρ) (by rw [hee, ← hend]; exact hI.rel) (by rw [hee, ← hend]; exact Stp.refl _ _ _)
    · exact hK k ρ _ w (hI.next g hr hf.1 hI.kle (hI.effs_same g hr.op hk) (Rho.le_refl ρ) (VRel.undef ρ) hI.rel hI.stp (hI.new_keep (Stp.refl _ _ _)))
theorem Inv.all (g : GF X fn ops s T ord st) (hI : Inv ρ0 s w0 ops st listed k ρ a w) (hr : Region.ready .any ops listed = []) : ∀ i, i < ops.size → listed.getD i false = true := by
  intro i
  induction i using Nat.strongRecOn with
  | ind i ih =>
    intro hi
    cases hl : listed.getD i false with
    | true => rfl
    | false =>
      have his : i < listed.size := by rw [hI.size]; exact hi
      have : i ∈ Region.ready .any ops listed := by
        refine mem_ready.2 ⟨?_, ops[i], by simp [hi], fun e he hb => ?_⟩
        · simp only [Array.getD_eq_getD_getElem?, Array.getElem?_eq_getElem his, Option.getD_some] at hl ⊢; exact hl
        · have hlt : e.on < i := g.hT.back i (by rw [g.len]; exact hi) ops[i] (by simp [hi]) e.on (by
            simp only [dirOf, List.mem_filterMap]; exact ⟨e, by simpa using he, by rw [if_pos hb]⟩)
          exact ih e.on hlt (by omega)
      rw [hr] at this; cases this
theorem Inv.done (g : GF X fn ops s T ord st) (hI : Inv ρ0 s w0 ops st listed k ρ a w) (hr : Region.ready .any ops listed = []) : CP ρ0 s.h w0 (.normal, ⟨st.tm, s.df, st.h⟩) .normal a w := by
  have hall := hI.all g hr
  have hk : k = st.E.length := by
    rcases Nat.lt_or_ge k st.E.length with hlt | hge
    · obtain ⟨o, ho, _⟩ := g.E_eff st.E[k] (by simp)
      have := (hI.effs k _ (List.getElem?_eq_getElem hlt)).1 (hall _ (Array.getElem?_eq_some_iff.1 ho).1)
      omega
    · have := hI.kle; omega
  have hend : endH st.E st.h k = st.h := by simp [endH, hk]
  have hmix : mix ops listed s.tm st.tm = st.tm := by
    apply List.ext_getElem?
    intro t
    exact mix_done (by simpa using g.df.len) g.keep fun i o ho _ => hall i (Array.getElem?_eq_some_iff.1 ho).1
  have h1 := hI.tm
  have h2 := hI.rel
  have h3 := hI.stp
  rw [hmix] at h1
  rw [hend] at h2 h3
  exact ⟨ρ, trivial, ⟨h1, hI.df, h2⟩, h3⟩
theorem walk (hP : X.P = P) (hX : CallOK P X.call) (g : GF X fn ops s T ord st) (hb0 : ρ0.base ≤ w0.heap.size) {rd : Option Nat} {n : Nat} : ∀ (fuel : Nat) (S : List Nat) (listed : Array Bool) (k : Nat) (ρ : Rho) (a : Act) (w : World),
    S.length ≤ fuel → (∀ i, i < ops.size → listed.getD i false = false → i ∈ S) → Inv ρ0 s w0 ops st listed k ρ a w →
    wpAnyIn (FR rd) n P .any ops (CP ρ0 s.h w0 (.normal, ⟨st.tm, s.df, st.h⟩)) fuel listed a w
  | 0, S, listed, k, ρ, a, w, hl, hS, hI => by
    obtain rfl : S = [] := List.eq_nil_of_length_eq_zero (by omega)
    have hr : Region.ready .any ops listed = [] := by
      cases e : Region.ready .any ops listed with
      | nil => rfl
      | cons j r =>
        obtain ⟨o, hd⟩ := hI.rdy (j := j) (by rw [e]; simp)
        have := hS j (Array.getElem?_eq_some_iff.1 hd.op).1 hd.un
        cases this
    exact ⟨hr, hI.done g hr⟩
  | fuel + 1, S, listed, k, ρ, a, w, hl, hS, hI => by
    refine ⟨fun hr => hI.done g hr, fun j hj => ?_⟩
    refine step_op hP hX g hb0 hI hj fun k' ρ' a' w' hI' => ?_
    obtain ⟨o, hd⟩ := hI.rdy hj
    have hjS := hS j (Array.getElem?_eq_some_iff.1 hd.op).1 hd.un
    refine walk hP hX g hb0 fuel (S.erase j) _ k' ρ' a' w' ?_ (fun i hi hu => ?_) hI'
    · have := List.length_erase_of_mem hjS
      have := List.length_pos_of_mem hjS
      omega
    · have hij : i ≠ j := by
        rintro rfl
        rw [getD_set_self (by rw [hI.size]; exact hi)] at hu; cases hu
      exact (List.mem_erase_of_ne hij).2 (hS i hi (unlisted_of_set hu))
end
theorem drawn_ok (hm : P.follows .mixedOrders = true) {X : Cx} (hP : X.P = P) (hX : CallOK P X.call) (fn : FuncId) : RgnOK P (fun _ ops s => drawn X fn ops s) := by
  intro id ops rdA s r he ρ a w rd n hS hb hrd
  simp only [drawn] at he
  split at he
  · cases he
  · rename_i pl hpl
    split at he
    · cases he
    · rename_i st hst
      split at he
      · rename_i hck
        simp only [Option.some.injEq] at he; subst he
        unfold planOf at hpl
        split at hpl
        · rename_i T hT
          simp only at hpl
          split at hpl
          · rename_i hok
            simp only [Option.some.injEq] at hpl; subst hpl
            simp only [Bool.and_eq_true] at hok
            simp only at hst hck
            generalize ordGo T (ops.toList.map fun o => opKnd X.P (o.dst.any (X.mu fn)) o.op) ops.size 0 (List.range ops.size) = ord at hst hck hok
            have hT0 : MOK ops [] := ⟨fun j m h => by simp at h, fun j h => by simp at h⟩
            obtain ⟨hTok, hTl⟩ := masks_ok hT (fun i o hi => by simpa using hi) hT0
            obtain ⟨hdf, _, hsame⟩ := dgo_ok (h0 := s.h) (tm0 := s.tm) hTok hok.1 _ 0 0 _ _ hok.2 hst (fun e he => by simp at he) (.refl _) (fun _ _ => rfl) (fun _ _ => rfl) (fun i k h => by simp at h) (fun e he => by simp at he)
            have hall : ∀ i, i < ops.size → i ∈ ord := fun i hi => by
              rcases ordOK_all hok.2 i (by simp [Nat.testBit_two_pow_sub_one, hi]) with h1 | h1
              · exact h1
              · simp at h1
            have g : GF X fn ops s T ord st := by
              refine ⟨hTok, by simpa using hTl, fun i j o o' d h1 h2 h3 h4 => (dstOK_spec hok.1).2 i j o o' d (by simpa using h1) (by simpa using h2) h3 h4, hall, hdf, ?_⟩
              simp only [Bool.or_eq_true, Bool.and_eq_true, List.isEmpty_iff] at hck
              rcases hck with ⟨h1, h2⟩ | ⟨⟨h1, h2⟩, h3⟩
              · exact .inl ⟨h1, h2, hsame (h1 ▸ NoCh.nil) h2⟩
              · exact .inr ⟨h1, h2, h3⟩
            refine wpIn_region_any hm ?_
            have hR1 : Rel ρ s.h { w with drawn := w.drawn + 1 } := hS.rel.drew rfl
            have hS1 : Stp ρ s.h w ρ s.h { w with drawn := w.drawn + 1 } := Stp.grew (Grew.drawn w (w.drawn + 1))
            obtain ⟨hR2, hS2⟩ := (g.ext (q := 0) (Nat.zero_le _)).rel (show Rel ρ (begH s.h st.E 0) _ from hR1)
            have hun : ∀ i, (Array.replicate ops.size false).getD i false = false := fun i => by
              simp only [Array.getD_eq_getD_getElem?, Array.getElem?_replicate]
              split <;> rfl
            refine walk hP hX g hb ops.size (List.range ops.size) _ 0 ρ a _ (by simp) (fun i hi _ => by simpa using hi) ⟨by simp, fun j i h1 => ?_, Nat.zero_le _, fun q e hq => ?_, ?_, hS.df, hR2, hS1.trans hS2, fun x hx hq => ?_⟩
            · rw [hun] at h1; cases h1
            · rw [hun]; simp
            · have : mix ops (Array.replicate ops.size false) s.tm st.tm = s.tm := by
                apply List.ext_getElem?
                intro t
                rcases Nat.lt_or_ge t s.tm.length with ht | ht
                · rw [mix_get ht, if_neg (fun ⟨i, o, _, _, h3⟩ => by rw [hun] at h3; cases h3)]
                  simp [List.getD, ht]
                · rw [List.getElem?_eq_none (by rw [mix_length]; exact ht), List.getElem?_eq_none ht]
              rw [this]; exact hS.tm
            · have hq0 : x.q = 0 := by omega
              obtain ⟨q1, q2⟩ := g.newQ x hx
              rw [hq0] at q1 q2
              refine ⟨q1, q2, fun _ => ?_⟩
              cases e : ρ.obj x.r with
              | none => rfl
              | some b =>
                have := (hS.rel.bound _ _ e).2.2
                have q1' : s.h.next.nat ≤ x.r.nat := q1
                omega
          · cases hpl
        · cases hpl
      · cases he
def mkEv (P : Program) (mu : FuncId → Nat → Bool) (hk : Hooks) : Ev := ⟨P, mu, hk, fun X f _ ops s => drawn X f ops s⟩
end Go.Sk

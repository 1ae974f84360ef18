/- Lists that are written in place: the reference's Tree. Links, once more. -/
import Derived.Test.YtpepjbbbaolheaaGreatNtM3
import Derived.Test.YtpepjbbbaolheaaGreatSkOpen
import Derived.Deep.Slices
set_option linter.unusedVariables false
set_option linter.unusedSimpArgs false
set_option maxRecDepth 10000
namespace Go.Proofs.Nt
open Go.Sk

def mu1 : FuncId → Nat → Bool := fun f t => Nat.beq f 22 && (Nat.beq t 71 || Nat.beq t 127)
noncomputable abbrev B1 (tab : Nat → Option (List Nat)) (call : CallT) (rgn : RgnT) (n : Nat) (f : FuncId) (fn : Func) (args : List AV) (h : AH) := cBodyS Tryz.prog mu1 call rgn tab n f fn (codeOf fn) args h
noncomputable abbrev LB1 (tab : Nat → Option (List Nat)) (call : CallT) (rgn : RgnT) (n : Nat) (f : FuncId) (fn : Func) (i : Nat) : CF (AOut × AH) := cCode ⟨Tryz.prog, mu1, call⟩ rgn f tab none n (loopAt (codeOf fn) i)
theorem E01 : EvOK (mkEv Tryz.prog mu1 noHooks) := mkEv_ok (by kernel_rfl) (by kernel_rfl)
theorem mkEv_mu {P : Program} {mu mu' : FuncId → Nat → Bool} {hk : Hooks} (hE : EvOK (mkEv P mu hk)) (hE0 : EvOK (mkEv P mu' noHooks)) : EvOK (mkEv P mu' hk) where
  hk := hE.hk
  ng := hE.ng
  rgn := hE0.rgn
theorem E1Er : EvOK (mkEv Tryz.prog mu1 hkEr) := mkEv_mu EEr E01

theorem fits571 : tabFits Tryz.prog (mu1 57) tab57 (codeOf Tryz.f57) = true := by kernel_rfl

section
variable {i3 r : Sk.Id} {c w : AV} {f : Int}

theorem lLk1 (call rgn n) (x fv : AV) (s : List Ag) (nt : Nt) (hx : IsSig x s) (hc : IsL c (nt.cells.map intV)) (hw : IsL w (nt.wires.map wireV)) (hff : f = nt.free) (hfv : IsL fv ((firstL s nt.cells nt.free).map intV)) (ho : okF s nt) (hPl : hPl call) (m0 : Nat) (hok : ∀ w ∈ nt.wires, (0 ≤ placeN s nt (wA w) ∧ placeN s nt (wA w) < m0) ∧ 0 ≤ placeN s nt (wB w) ∧ placeN s nt (wB w) < m0) (hne : i3 ≠ r) {n0 : Nat} {gg : AH} (hr : n0 ≤ r.nat) {T : List Int} {K : KC (AOut × AH)} {Q : Option (AOut × AH) → Prop}
    (hK : ∀ {h : AH} {g0 g1 g2 g3 g4 g5 g6 g8 g9 aA aB aC aD aE aF aG aH aI aJ aK aL aM aN aO aP aQ aR aS aT aU aV aW aX aY aZ bA bB bC bD bE bF bG bH bI bJ bK bL bM bN bO bP bQ bR bS : AV}, h.get r = some (.cells (T.map intV) 3) → Kept n0 gg h → r.nat < h.next.nat → Q (K (.exit 0) ⟨(g0::g1::g2::g3::g4::g5::g6::.hsl r 0 m0 (.known m0)::g8::g9::aA::aB::aC::aD::aE::aF::aG::aH::aI::aJ::aK::aL::aM::aN::aO::aP::aQ::aR::aS::aT::aU::aV::aW::aX::aY::aZ::bA::bB::bC::bD::bE::bF::bG::bH::bI::bJ::bK::bL::bM::bN::bO::bP::bQ::bR::bS::[]), [], h⟩)) :
    ∀ (m i : Nat) {z : Int} {L : List Int} {h : AH} {g1 g2 g4 g6 g9 aA aB aC aD aE aF aG aH aI aJ aK aL aM aN aO aP aQ aR aS aT aU aV aW aX aY aZ bA bB bC bD bE bF bG bH bI bJ bK bL bM bN bO bP bQ bR bS : AV}, z = i → i ≤ nt.wires.length → nt.wires.length - i < m → L.length = m0 → h.get i3 = some (.cells [c, .int .i64 f, w] 43) → h.get r = some (.cells (L.map intV) 3) → Kept n0 gg h → r.nat < h.next.nat → T = links03 s nt (nt.wires.drop i) L →
    Q (cIter (LB1 tab57 call rgn n 57 Tryz.f57 0) m ⟨(x::g1::g2::.ptr i3 0::g4::fv::g6::.hsl r 0 m0 (.known m0)::.int .i64 z::g9::aA::aB::aC::aD::aE::aF::aG::aH::aI::aJ::aK::aL::aM::aN::aO::aP::aQ::aR::aS::aT::aU::aV::aW::aX::aY::aZ::bA::bB::bC::bD::bE::bF::bG::bH::bI::bJ::bK::bL::bM::bN::bO::bP::bQ::bR::bS::[]), [], h⟩ K) := by
  have u : Tryz.prog.underlying 41 = some (.slice 62) := by kernel_rfl
  have ui : Tryz.prog.underlying 40 = some (.slice 3) := by kernel_rfl
  have hlw := fun h => len_L (X := ⟨Tryz.prog, mu1, call⟩) (mu := false) (h := h) u hw
  rw [List.length_map] at hlw
  have hv : IsNet (.agg [c, .int .i64 f, w]) nt := ⟨c, w, by rw [hff], hc, hw⟩
  obtain ⟨o1, o2, o3, o4, o5⟩ := id ho
  intro m
  induction m with
  | zero => intros; omega
  | succ m ih =>
    intro i z L h g1 g2 g4 g6 g9 aA aB aC aD aE aF aG aH aI aJ aK aL aM aN aO aP aQ aR aS aT aU aV aW aX aY aZ bA bB bC bD bE bF bG bH bI bJ bK bL bM bN bO bP bQ bR bS hz hi hm hL g3 gr kp lr hT
    rw [cIter_succ]
    have lw : ∀ h, h.get i3 = some (.cells [c, .int .i64 f, w] 43) → vOf h (aLoad Tryz.prog 41 (.ptr i3 2) h) = some (.ret w, h) := fun h g => ld_ptr (n := 1) g (by kernel_rfl) (by kernel_rfl) rfl
    have ln : vOf h (aLoad Tryz.prog 43 (.ptr i3 0) h) = some (.ret (.agg [c, .int .i64 f, w]), h) := ld_agg (n := 3) g3 (by kernel_rfl) (by kernel_rfl) (by simp)
    conv => arg 1; whnf
    refine atCall_P (lw h g3) ?_
    conv => arg 1; whnf
    refine atCall_P (hlw _) ?_
    conv => arg 1; whnf
    split
    · rename_i hd
      have hlt : i < nt.wires.length := by simp at hd; omega
      have hdrop : nt.wires.drop i = nt.wires[i] :: nt.wires.drop (i + 1) := List.drop_eq_getElem_cons hlt
      have hg : (nt.wires.map wireV)[i]? = some (wireV nt.wires[i]) := by rw [List.getElem?_map, List.getElem?_eq_getElem hlt]; rfl
      have hidx := fun h => idx_L (P := Tryz.prog) (t := 41) (e := 62) (n := 4) (h := h) (k := .i64) u (by kernel_rfl) hw hz hg rfl
      have hz' : IntKind.i64.wrap (z + 1) = ((i + 1 : Nat) : Int) := by rw [hz]; exact wrap_succ (by omega)
      have hmem := hok nt.wires[i] (List.getElem_mem _)
      rw [hdrop] at hT
      simp only [links03] at hT
      generalize nt.wires[i] = ww at hidx hT hmem
      obtain ⟨wa, wb, wc, wd⟩ := ww
      have pA := hPl x (.agg [c, .int .i64 f, w]) fv (portV (wa, wb)) s nt (wa, wb) h hx hv hfv rfl ho
      have pB := hPl x (.agg [c, .int .i64 f, w]) fv (portV (wc, wd)) s nt (wc, wd) h hx hv hfv rfl ho
      rw [show wA (wa, wb, wc, wd) = (wa, wb) from rfl, show wB (wa, wb, wc, wd) = (wc, wd) from rfl] at hT hmem
      generalize placeN s nt (wa, wb) = a at pA hmem hT
      generalize placeN s nt (wc, wd) = b at pB hmem hT
      obtain ⟨⟨a0, am⟩, b0, bm⟩ := hmem
      conv => arg 1; whnf
      refine atCall_P (ln) ?_
      conv => arg 1; whnf
      refine atCall_P (lw h g3) ?_
      conv => arg 1; whnf
      refine atCall_P (hidx _) ?_
      conv => arg 1; whnf
      refine atQuiet_P pA ?_
      conv => arg 1; whnf
      refine atCall_P (ln) ?_
      conv => arg 1; whnf
      refine atCall_P (lw h g3) ?_
      conv => arg 1; whnf
      refine atCall_P (hidx _) ?_
      conv => arg 1; whnf
      refine atQuiet_P pB ?_
      have ia := fun h => hix (r := r) (m := m0) (a := a) (h := h) ui (by kernel_rfl) a0 am
      have ib := fun h => hix (r := r) (m := m0) (a := b) (h := h) ui (by kernel_rfl) b0 bm
      have s1 := hst (a := a) (v := .int .i64 b) gr (by kernel_rfl) rfl rfl (by simp; omega)
      have hm1 : (L.map intV).set a.toNat (.int .i64 b) = (L.set a.toNat b).map intV := by rw [List.map_set]; rfl
      rw [hm1] at s1
      conv => arg 1; whnf
      refine atCall_P (ia _) ?_
      conv => arg 1; whnf
      refine atCall_P (s1) ?_
      have kp2 := kp.set (r := r) (.cells ((L.set a.toNat b).map intV) 3) hr
      have g3' : (h.set r (.cells ((L.set a.toNat b).map intV) 3)).get i3 = some (.cells [c, .int .i64 f, w] 43) := by rw [AH.get_set, if_neg hne]; exact g3
      have gr' : (h.set r (.cells ((L.set a.toNat b).map intV) 3)).get r = some (.cells ((L.set a.toNat b).map intV) 3) := by rw [AH.get_set, if_pos rfl]
      have lr' : r.nat < (h.set r (.cells ((L.set a.toNat b).map intV) 3)).next.nat := by rw [AH.next_set]; exact lr
      generalize h.set r (.cells ((L.set a.toNat b).map intV) 3) = h2 at g3' gr' kp2 lr' ⊢
      have s2 := hst (a := b) (v := .int .i64 a) gr' (by kernel_rfl) rfl rfl (by simp; omega)
      have hm2 : ((L.set a.toNat b).map intV).set b.toNat (.int .i64 a) = ((L.set a.toNat b).set b.toNat a).map intV := by
        rw [show AV.int .i64 a = intV a from rfl, ← List.map_set]
      rw [hm2] at s2
      conv => arg 1; whnf
      refine atCall_P (ib _) ?_
      conv => arg 1; whnf
      refine atCall_P (s2) ?_
      conv => arg 1; whnf
      exact ih (i + 1) hz' (by omega) (by omega) (by simp; omega) (by rw [AH.get_set, if_neg hne]; exact g3') (by rw [AH.get_set, if_pos rfl]) (kp2.set _ hr) (by rw [AH.next_set]; exact lr') hT
    · rename_i hd
      have hlt : ¬ i < nt.wires.length := by simp at hd; omega
      rw [List.drop_eq_nil_of_le (by omega)] at hT
      simp only [links03] at hT
      subst hT
      exact hK gr kp lr
end

theorem bLk1 (call rgn n) (x v : AV) (s : List Ag) (nt : Nt) (hx : IsSig x s) (hv : IsNet v nt) (g : Good s nt) (hwl : nt.wires.length ≤ 1000000) (hF1 : hF1 call) (hPl : hPl call) (hn2 : nt.wires.length < n) (h : AH) :
    ∃ r h', B1 tab57 call rgn n 57 Tryz.f57 [x, v] h = some (.ret (.hsl r 0 (portsL s nt).length (.known (portsL s nt).length)), h') ∧ h'.get r = some (.cells ((links03 s nt nt.wires (List.replicate (portsL s nt).length 0)).map intV) 3) ∧ h.next.nat ≤ r.nat ∧ r.nat < h'.next.nat ∧ Kept h.next.nat h h' := by
  have hP := sigChk_ports g.sg
  have hml := ports_len' hP g.f1 g.cl
  have ho : okF s nt := ⟨g.sg, by have := g.cl; omega, by have := g.f0; omega, by have := g.f1; omega, hwl⟩
  have hme := most_eq (s := s) (n := nt) (fun a => (hP a).1) g.f0
  have hpl := fun p => place_lt (s := s) (n := nt) (fun a => (hP a).1) g.f0 p
  rw [hme, Int.toNat_natCast] at hpl
  have hok : ∀ w ∈ nt.wires, (0 ≤ placeN s nt (wA w) ∧ placeN s nt (wA w) < (portsL s nt).length) ∧ 0 ≤ placeN s nt (wB w) ∧ placeN s nt (wB w) < (portsL s nt).length := fun w hw => by
    obtain ⟨m1, m2⟩ := mem_ends hw
    obtain ⟨a, a1, _⟩ := place_at (fun a => (hP a).1) g.f0 (g.ip _ m1)
    obtain ⟨b, b1, _⟩ := place_at (fun a => (hP a).1) g.f0 (g.ip _ m2)
    exact ⟨⟨by omega, hpl _ (by omega)⟩, by omega, hpl _ (by omega)⟩
  have hfirst := fun h1 => hF1 x v s nt h1 hx hv ho
  simp only [firstV, hme] at hfirst
  generalize (portsL s nt).length = m0 at hok hfirst hml ⊢
  suffices hq : ∀ Q : Option (AOut × AH) → Prop, (∀ r h', h'.get r = some (.cells ((links03 s nt nt.wires (List.replicate m0 0)).map intV) 3) → h.next.nat ≤ r.nat → r.nat < h'.next.nat → Kept h.next.nat h h' → Q (some (.ret (.hsl r 0 m0 (.known m0)), h'))) → Q (B1 tab57 call rgn n 57 Tryz.f57 [x, v] h) from
    hq (fun y => ∃ r h', y = some (.ret (.hsl r 0 m0 (.known m0)), h') ∧ h'.get r = some (.cells ((links03 s nt nt.wires (List.replicate m0 0)).map intV) 3) ∧ h.next.nat ≤ r.nat ∧ r.nat < h'.next.nat ∧ Kept h.next.nat h h') (fun r h' a1 a2 a3 a4 => ⟨r, h', rfl, a1, a2, a3, a4⟩)
  intro Q hQ
  obtain ⟨c, w, rfl, hc, hw⟩ := hv
  have hcs := isL_scalar hc
  have hws := isL_scalar hw
  conv => arg 1; whnf
  refine atCall_P (box_new (cs := [c, .int .i64 nt.free, w]) rfl (by simp only [List.all_cons, hcs, hws, List.all_nil]; rfl)) ?_
  have kp := kept_one h (.cells [c, .int .i64 nt.free, w] 43)
  generalize hn0 : h.next.nat = n0 at kp hQ
  generalize hh_h1 : h.alloc (.cells [c, .int .i64 nt.free, w] 43) = h1 at *
  obtain ⟨a_i3, n_i3, k_h1⟩ := alloc_facts hh_h1
  clear hh_h1 k_h1
  generalize hi_i3 : h.next = i3 at *
  clear hi_i3
  have ln : vOf h1 (aLoad Tryz.prog 43 (.ptr i3 0) h1) = some (.ret (.agg [c, .int .i64 nt.free, w]), h1) := ld_agg (n := 3) a_i3 (by kernel_rfl) (by kernel_rfl) (by simp)
  have isf := listW_isL (enc := intV) (firstL s nt.cells nt.free)
  have hf1 := hfirst h1
  generalize hfv : listW intV (firstL s nt.cells nt.free) = fv at hf1 isf
  have hfv2 : fv = .nilsl ∨ ∃ xs cc, fv = .vsl xs cc := by
    rcases isf with ⟨h, _⟩ | ⟨cc, h⟩
    · exact .inl h
    · exact .inr ⟨_, cc, h⟩
  clear hfirst hfv
  conv => arg 1; whnf
  refine atCall_P (ln) ?_
  conv => arg 1; whnf
  refine atCall_P (hf1) ?_
  rcases hfv2 with hfv2 | ⟨xs, cc, hfv2⟩
  all_goals
    subst hfv2
    have hms := ms_new (t := 40) (e := 3) (m := m0) (h := h1) (z := .int .i64 0) (by kernel_rfl) (by kernel_rfl) (by kernel_rfl) rfl rfl (bs := 8) (by kernel_rfl) (by omega) (by omega)
    conv => arg 1; whnf
    refine atCall_P (hms) ?_
    have hrep : List.replicate m0 (AV.int .i64 0) = (List.replicate m0 (0 : Int)).map intV := by rw [List.map_replicate]; rfl
    rw [hrep]
    replace kp := kp.alloc (.cells ((List.replicate m0 (0 : Int)).map intV) 3)
    generalize hh_h2 : h1.alloc (.cells ((List.replicate m0 (0 : Int)).map intV) 3) = h2 at *
    obtain ⟨a_r, n_r, k_h2⟩ := alloc_facts hh_h2
    replace a_i3 := k_h2 _ _ a_i3 (by omega)
    clear hh_h2 k_h2
    generalize hi_r : h1.next = r at *
    clear hi_r
    have hne : i3 ≠ r := by rintro rfl; omega
    conv => arg 1; whnf
    refine lLk1 (c := c) (w := w) (f := nt.free) (n0 := n0) (gg := h) call rgn n x _ s nt hx hc hw rfl isf ho hPl m0 hok hne (by omega) (T := links03 s nt nt.wires (List.replicate m0 0)) ?_ n 0 (z := 0) (L := List.replicate m0 0) rfl (Nat.zero_le _) (by omega) (by simp) a_i3 a_r kp (by omega) (by rw [List.drop_zero])
    intro h3
    intros
    rename_i k1 k2 k3
    conv => arg 1; whnf
    exact atLeave_P (leave_plain (.inl rfl) rfl) (hQ r _ k1 (by omega) k3 k2)

theorem hP21_of {hk : Hooks} {n : Nat} (hk' : ∀ args h, hk 58 args h = hkP2 58 args h) (hn : 0 < n) : hP2 (evCall (mkEv Tryz.prog mu1 hk) n) := fun x s a h hx => ev_hk (by
  rw [hk']
  refine hk_top (by simp [freeL, freeV, sig_free hx]) ?_
  show (match sigOf (weakV x) with | some s => some (AV.int .i64 (portsN s a)) | none => none) = _
  rw [sigOf_of hx]) hn
theorem hF11_of {hk : Hooks} {n : Nat} (hk' : ∀ args h, hk 54 args h = hkF1 54 args h) (hn : 0 < n) : hF1 (evCall (mkEv Tryz.prog mu1 hk) n) := fun x v s nt h hx hv ho => ev_hk (by
  rw [hk']
  refine hk_top (by simp [freeL, sig_free hx, net_free hv]) ?_
  show (match sigOf (weakV x), netOf (weakV v) with | some s, some n => if okF s n then some (firstV s n) else none | _, _ => none) = _
  rw [sigOf_of hx, netOf_of hv]; simp only [if_pos ho]) hn
theorem hPl1_of {hk : Hooks} {n : Nat} (hk' : ∀ args h, hk 55 args h = hkPl 55 args h) (hn : 0 < n) : hPl (evCall (mkEv Tryz.prog mu1 hk) n) := fun x v f pv s nt p h hx hv hf hp ho => ev_hk (by
  rw [hk', hp]
  refine hk_top (by simp [freeL, sig_free hx, net_free hv, (intsOf_of hf).2]; rfl) ?_
  show (match sigOf (weakV x), netOf (weakV v), intsOf (weakV f), decPort (portV p) with
    | some s, some n, some l, some p => if okF s n ∧ l = firstL s n.cells n.free then some (AV.int .i64 (placeN s n p)) else none
    | _, _, _, _ => none) = _
  rw [sigOf_of hx, netOf_of hv, (intsOf_of hf).1]
  show (if okF s nt ∧ firstL s nt.cells nt.free = firstL s nt.cells nt.free then some (AV.int .i64 (placeN s nt p)) else none) = _
  rw [if_pos ⟨ho, rfl⟩]) hn
theorem hAl1_of {hk : Hooks} {n : Nat} (hk' : ∀ args h, hk 56 args h = hkAl 56 args h) (hn : 0 < n) : hAl (evCall (mkEv Tryz.prog mu1 hk) n) := fun x v s nt h hx hv ho => ev_hk (by
  rw [hk']
  refine hk_top (by simp [freeL, sig_free hx, net_free hv]) ?_
  show (match sigOf (weakV x), netOf (weakV v) with | some s, some n => if okF s n then some (listW portV (portsL s n)) else none | _, _ => none) = _
  rw [sigOf_of hx, netOf_of hv]; simp only [if_pos ho]) hn
def TodoAt (b0 : Nat) (h : AH) (t : AV) (L : List Int) : Prop := ∃ td cap cs, t = .hsl td 0 L.length cap ∧ h.get td = some (.cells cs 3) ∧ cs.take L.length = L.map intV ∧ L.length ≤ cs.length ∧ b0 < td.nat ∧ td.nat < h.next.nat ∧ ((cap = .known 1 ∧ cs.length = 1) ∨ cap = .room 1)

theorem len_todo {call : CallT} {b0 : Nat} {h : AH} {t : AV} {L : List Int} (ht : TodoAt b0 h t L) : aBuiltin ⟨Tryz.prog, mu1, call⟩ false .len #[40] [t] h = some (.ret (.int .i64 L.length), h) := by
  have u : Tryz.prog.underlying 40 = some (.slice 3) := by kernel_rfl
  obtain ⟨td, cap, cs, rfl, _⟩ := ht
  simp [aBuiltin, aLen, u, vOf]

theorem idx_todo {b0 : Nat} {h : AH} {t : AV} {L : List Int} {c a : Int} (ht : TodoAt b0 h t (L ++ [c])) (ha : a = L.length) : ∃ td, vOf h (aIndexAddr Tryz.prog 40 t (.int .i64 a)) = some (.ret (.ptr td (0 + a.toNat * 1)), h) ∧ vOf h (aLoad Tryz.prog 3 (.ptr td (0 + a.toNat * 1)) h) = some (.ret (.int .i64 c), h) := by
  have u : Tryz.prog.underlying 40 = some (.slice 3) := by kernel_rfl
  have hn : sizeT Tryz.prog 3 = some 1 := by kernel_rfl
  obtain ⟨td, cap, cs, rfl, hg, htk, hl, _⟩ := ht
  refine ⟨td, ?_, ?_⟩
  · simp only [aIndexAddr, u, hn]
    rw [if_pos ⟨by omega, by rw [List.length_append, List.length_singleton]; omega⟩]
    rfl
  · refine hld (v := .int .i64 c) hg (by kernel_rfl) hn ?_
    have h1 : (cs.take (L ++ [c]).length)[a.toNat]? = cs[a.toNat]? := by rw [List.getElem?_take, if_pos (by rw [List.length_append, List.length_singleton]; omega)]
    rw [← h1, htk, ha, Int.toNat_natCast, List.map_append, List.getElem?_append_right (by simp)]
    simp [intV]

theorem slice_todo {b0 : Nat} {h : AH} {t : AV} {L : List Int} {c a : Int} (ht : TodoAt b0 h t (L ++ [c])) (ha : a = L.length) : ∃ t', vOf h (aSlice Tryz.prog 40 t none (some (.int .i64 a)) none) = some (.ret t', h) ∧ TodoAt b0 h t' L := by
  have u : Tryz.prog.underlying 40 = some (.slice 3) := by kernel_rfl
  have hn : sizeT Tryz.prog 3 = some 1 := by kernel_rfl
  obtain ⟨td, cap, cs, rfl, hg, htk, hl, o1, o2, hcap⟩ := ht
  rw [List.length_append, List.length_singleton] at hl htk
  have htk2 : cs.take L.length = L.map intV := by
    have := congrArg (List.take L.length) htk
    rw [List.take_take, Nat.min_eq_left (by omega)] at this
    rw [this, List.map_append, List.take_left' (by simp)]
  subst ha
  rcases hcap with ⟨rfl, hc⟩ | rfl
  · have hb : aBounds (L ++ [c]).length 1 none (some (.int .i64 (L.length : Int))) none = some (0, L.length, 1) := by
      have : L.length = 0 := by omega
      simp [aBounds, aOptBound, aBound, this]
    refine ⟨.hsl td 0 L.length (.known 1), ?_, td, .known 1, cs, rfl, hg, htk2, by omega, o1, o2, .inl ⟨rfl, hc⟩⟩
    unfold aSlice
    simp only [u, hb, hn]
    simp [vOf]
  · have hb : aBounds (L ++ [c]).length (L ++ [c]).length none (some (.int .i64 (L.length : Int))) none = some (0, L.length, (L ++ [c]).length) := by
      simp [aBounds, aOptBound, aBound]
    refine ⟨.hsl td 0 L.length (.room 1), ?_, td, .room 1, cs, rfl, hg, htk2, by omega, o1, o2, .inr rfl⟩
    unfold aSlice
    simp only [u, hb, hn]
    simp [vOf]

theorem app_todo {call : CallT} {b0 : Nat} {h : AH} {t : AV} {L : List Int} {a : Int} (ht : TodoAt b0 h t L) (hl : L.length ≤ 1000000000) (hb : b0 < h.next.nat) :
    ∃ t' h', aBuiltin ⟨Tryz.prog, mu1, call⟩ true .append #[40, 40] [t, .vsl [.int .i64 a] .lit] h = some (.ret t', h') ∧ TodoAt b0 h' t' (L ++ [a]) ∧ h.next.nat ≤ h'.next.nat ∧ (∀ q o, h.get q = some o → q.nat ≤ b0 → q.nat < h.next.nat → h'.get q = some o) := by
  have u : Tryz.prog.underlying 40 = some (.slice 3) := by kernel_rfl
  have hn : sizeT Tryz.prog 3 = some 1 := by kernel_rfl
  have hz : zeroT Tryz.prog 3 = some (.int .i64 0) := by kernel_rfl
  have hby : Tryz.prog.bytesOf 3 = 8 := by kernel_rfl
  obtain ⟨td, cap, cs, rfl, hg, htk, hlc, o1, o2, hcap⟩ := ht
  have hm : (L ++ [a]).map intV = L.map intV ++ [.int .i64 a] := by simp [intV]
  have hlen : (L ++ [a]).length = L.length + 1 := by simp
  have hlm : (L.map intV).length = L.length := by simp
  rcases hcap with ⟨rfl, hc⟩ | rfl
  · by_cases h0 : L.length = 0
    · have : L = [] := List.eq_nil_of_length_eq_zero h0
      subst this
      refine ⟨.hsl td 0 1 (.known 1), h.set td (.cells [.int .i64 a] 3), ?_, ⟨td, .known 1, [.int .i64 a], rfl, by rw [AH.get_set, if_pos rfl], rfl, by simp, o1, by rw [AH.next_set]; exact o2, .inl ⟨rfl, rfl⟩⟩, by rw [AH.next_set]; exact Nat.le_refl _, fun q o hq hq0 _ => by rw [AH.get_set, if_neg (by rintro rfl; omega)]; exact hq⟩
      obtain ⟨v, rfl⟩ : ∃ v, cs = [v] := by
        match cs, hc with
        | [v], _ => exact ⟨v, rfl⟩
      show vhOf (aAppend Tryz.prog true #[40, 40] _ _ h) = _
      unfold aAppend
      simp [u, hn, hz, hby, hg, aElems, headOk, AV.cells, AV.scalar, vhOf, setCells, flat]
    · refine ⟨.hsl h.next 0 (L.length + 1) (.room 1), h.alloc (.cells (L.map intV ++ [.int .i64 a]) 3), ?_, ⟨h.next, .room 1, L.map intV ++ [.int .i64 a], by rw [hlen], by rw [AH.get_alloc, if_pos rfl], by rw [hm, List.take_of_length_le (by simp)], by simp, by omega, by rw [AH.next_alloc, Id.nat_succ]; omega, .inr rfl⟩, by rw [AH.next_alloc, Id.nat_succ]; omega, fun q o hq _ hlt => kept_alloc hq hlt⟩
      show vhOf (aAppend Tryz.prog true #[40, 40] _ _ h) = _
      unfold aAppend
      simp only [show (#[40, 40] : Array TypeId)[0]? = some 40 from rfl, show (#[40, 40] : Array TypeId)[1]? = some 40 from rfl, u, hn, hz, hby, hg, aElems]
      rw [if_neg (by simp [headOk, AV.cells, AV.scalar]), if_neg (by simp), if_neg (by simp; omega), if_neg (by omega), if_neg (by simp only [List.length_singleton]; omega)]
      simp [vhOf, flat, AV.cells, htk]
  · refine ⟨.hsl (h.set td .dead).next 0 (L.length + 1) (.room 1), (h.set td .dead).alloc (.cells (L.map intV ++ [.int .i64 a]) 3), ?_, ⟨(h.set td .dead).next, .room 1, L.map intV ++ [.int .i64 a], by rw [hlen], by rw [AH.get_alloc, if_pos rfl], by rw [hm, List.take_of_length_le (by simp)], by simp, by rw [AH.next_set]; omega, by rw [AH.next_alloc, Id.nat_succ]; omega, .inr rfl⟩, by rw [AH.next_alloc, Id.nat_succ, AH.next_set]; omega, fun q o hq hq0 hlt => kept_alloc (by rw [AH.get_set, if_neg (by rintro rfl; omega)]; exact hq) (by rw [AH.next_set]; exact hlt)⟩
    show vhOf (aAppend Tryz.prog true #[40, 40] _ _ h) = _
    unfold aAppend
    simp only [show (#[40, 40] : Array TypeId)[0]? = some 40 from rfl, show (#[40, 40] : Array TypeId)[1]? = some 40 from rfl, u, hn, hz, hby, hg, aElems]
    rw [if_neg (by simp [headOk, AV.cells, AV.scalar]), if_neg (by simp), if_neg (by simp; omega), if_pos (by simp; omega)]
    simp [vhOf, flat, AV.cells, htk, AH.next_set]

def seenB (k : Nat) (S : List Int) : List AV := (List.range k).map fun (i : Nat) => AV.bool (decide ((i : Int) ∈ S))
theorem seenB_nil (k : Nat) : List.replicate k (AV.bool false) = seenB k [] := by
  unfold seenB
  apply List.ext_getElem (by simp)
  intro i h1 h2
  simp
theorem seenB_get {k : Nat} {S : List Int} {c : Int} (h0 : 0 ≤ c) (hk : c < k) : (seenB k S)[c.toNat]? = some (.bool (decide (c ∈ S))) := by
  unfold seenB
  rw [List.getElem?_map, List.getElem?_range (by omega)]
  simp only [Option.map_some]
  rw [show ((c.toNat : Nat) : Int) = c by omega]
theorem seenB_set {k : Nat} {S : List Int} {c : Int} (h0 : 0 ≤ c) : (seenB k S).set c.toNat (.bool true) = seenB k (c :: S) := by
  unfold seenB
  apply List.ext_getElem (by simp)
  intro i h1 h2
  rw [List.getElem_set]
  simp only [List.getElem_map, List.getElem_range, List.mem_cons]
  split
  · rename_i e
    have : (i : Int) = c := by omega
    simp [this]
  · rename_i e
    have : ¬ (i : Int) = c := by omega
    simp [this]
theorem auxA_cons (M : Lk) (p : Pt) (r : List Pt) : auxA M (p :: r) = (((p.2 == 0 && decide (0 ≤ p.1)) || (decide (0 ≤ (valN M p).1) && (valN M p).2 == 0)) && auxA M r) := by
  unfold auxA
  simp

section
variable {i3 r sn : Sk.Id} {x c w av fv : AV} {f : Int} {m0 : Nat}

theorem lR0 (call rgn n) (all : List Pt) (M : Lk) (lk : List Int) (ha : IsL av (all.map portV)) (hm0 : all.length = m0) (hml : m0 ≤ 1000000)
    (hlk : ∀ (i : Nat) p, all[i]? = some p → ∃ b : Int, lk[i]? = some b ∧ 0 ≤ b ∧ b < m0 ∧ all[b.toNat]? = some (valN M p)) (o3 : i3.nat < r.nat) {b : Bool} {K : KC (AOut × AH)} {Q : Option (AOut × AH) → Prop}
    (hR : b = false → ∀ {h : AH} {g0 g1 g2 g3 g5 g6 g7 g8 g9 aA aB aC aD aE aF aG aH aI aJ aK aL aM aN aO aP aQ aR aS aT aU aV aW aX aY aZ bA bB bC bD bE bF bG bH bI bJ bK bL bM bN bO bP bQ bR bS bT bU bV bW bX bY bZ cA cB cC cD cE cF cG cH cI cJ cK cL cM cO cP cQ cT cU cV cW cX cY cZ dA dB dC dD dE dF dG dH dI dJ dK dL dM dN dO dP dQ dR dS dT dU dV dW dX dY dZ eA eB eC eD eE eF eG eH eI eJ eK eL eM eN eO eP eQ eR eS eT eU eV : AV}, Q (K .ret ⟨(g0::g1::g2::g3::.bool false::g5::g6::g7::g8::g9::aA::aB::aC::aD::aE::aF::aG::aH::aI::aJ::aK::aL::aM::aN::aO::aP::aQ::aR::aS::aT::aU::aV::aW::aX::aY::aZ::bA::bB::bC::bD::bE::bF::bG::bH::bI::bJ::bK::bL::bM::bN::bO::bP::bQ::bR::bS::bT::bU::bV::bW::bX::bY::bZ::cA::cB::cC::cD::cE::cF::cG::cH::cI::cJ::cK::cL::cM::cO::cP::cQ::cT::cU::cV::cW::cX::cY::cZ::dA::dB::dC::dD::dE::dF::dG::dH::dI::dJ::dK::dL::dM::dN::dO::dP::dQ::dR::dS::dT::dU::dV::dW::dX::dY::dZ::eA::eB::eC::eD::eE::eF::eG::eH::eI::eJ::eK::eL::eM::eN::eO::eP::eQ::eR::eS::eT::eU::eV::[]), [], h⟩))
    (hK : b = true → ∀ {h : AH} {g1 g2 g4 g7 g8 g9 aA aB aC aD aE aF aG aH aI aJ aK aL aM aN aO aP aQ aR aS aT aU aV aW aX aY aZ bA bB bC bD bE bF bG bH bI bJ bK bL bM bN bO bP bQ bR bS bT bU bV bW bX bY bZ cA cB cC cD cE cF cG cH cI cJ cK cL cM cO cP cQ cT cU cV cW cX cY cZ dA dB dC dD dE dF dG dH dI dJ dK dL dM dN dO dP dQ dR dS dT dU dV dW dX dY dZ eA eB eC eD eE eF eG eH eI eJ eK eL eM eN eO eP eQ eR eS eT eU eV : AV}, h.get i3 = some (.cells [c, .int .i64 f, w] 43) → h.get r = some (.cells (lk.map intV) 3) → r.nat < h.next.nat → Q (K (.exit 0) ⟨(x::g1::g2::.ptr i3 0::g4::av::.hsl r 0 m0 (.known m0)::g7::g8::g9::aA::aB::aC::aD::aE::aF::aG::aH::aI::aJ::aK::aL::aM::aN::aO::aP::aQ::aR::aS::aT::aU::aV::aW::aX::aY::aZ::bA::bB::bC::bD::bE::bF::bG::bH::bI::bJ::bK::bL::bM::bN::bO::bP::bQ::bR::bS::bT::bU::bV::bW::bX::bY::bZ::cA::cB::cC::cD::cE::cF::cG::cH::cI::cJ::cK::cL::cM::cO::cP::cQ::cT::cU::cV::cW::cX::cY::cZ::dA::dB::dC::dD::dE::dF::dG::dH::dI::dJ::dK::dL::dM::dN::dO::dP::dQ::dR::dS::dT::dU::dV::dW::dX::dY::dZ::eA::eB::eC::eD::eE::eF::eG::eH::eI::eJ::eK::eL::eM::eN::eO::eP::eQ::eR::eS::eT::eU::eV::[]), [], h⟩)) :
    ∀ (m i : Nat) {z : Int} {h : AH} {g1 g2 g4 g8 g9 aA aB aC aD aE aF aG aH aI aJ aK aL aM aN aO aP aQ aR aS aT aU aV aW aX aY aZ bA bB bC bD bE bF bG bH bI bJ bK bL bM bN bO bP bQ bR bS bT bU bV bW bX bY bZ cA cB cC cD cE cF cG cH cI cJ cK cL cM cO cP cQ cT cU cV cW cX cY cZ dA dB dC dD dE dF dG dH dI dJ dK dL dM dN dO dP dQ dR dS dT dU dV dW dX dY dZ eA eB eC eD eE eF eG eH eI eJ eK eL eM eN eO eP eQ eR eS eT eU eV : AV}, z = i → i ≤ all.length → all.length - i < m → h.get i3 = some (.cells [c, .int .i64 f, w] 43) → h.get r = some (.cells (lk.map intV) 3) → r.nat < h.next.nat → auxA M (all.drop i) = b →
    Q (cIter (LB1 shT call rgn n 22 Tryz.f22 0) m ⟨(x::g1::g2::.ptr i3 0::g4::av::.hsl r 0 m0 (.known m0)::.int .i64 z::g8::g9::aA::aB::aC::aD::aE::aF::aG::aH::aI::aJ::aK::aL::aM::aN::aO::aP::aQ::aR::aS::aT::aU::aV::aW::aX::aY::aZ::bA::bB::bC::bD::bE::bF::bG::bH::bI::bJ::bK::bL::bM::bN::bO::bP::bQ::bR::bS::bT::bU::bV::bW::bX::bY::bZ::cA::cB::cC::cD::cE::cF::cG::cH::cI::cJ::cK::cL::cM::cO::cP::cQ::cT::cU::cV::cW::cX::cY::cZ::dA::dB::dC::dD::dE::dF::dG::dH::dI::dJ::dK::dL::dM::dN::dO::dP::dQ::dR::dS::dT::dU::dV::dW::dX::dY::dZ::eA::eB::eC::eD::eE::eF::eG::eH::eI::eJ::eK::eL::eM::eN::eO::eP::eQ::eR::eS::eT::eU::eV::[]), [], h⟩ K) := by
  have u : Tryz.prog.underlying 84 = some (.slice 60) := by kernel_rfl
  have ui : Tryz.prog.underlying 40 = some (.slice 3) := by kernel_rfl
  have hla := fun h => len_L (X := ⟨Tryz.prog, mu1, call⟩) (mu := false) (h := h) u ha
  rw [List.length_map] at hla
  intro m
  induction m with
  | zero => intros; omega
  | succ m ih =>
    intro i z h g1 g2 g4 g8 g9 aA aB aC aD aE aF aG aH aI aJ aK aL aM aN aO aP aQ aR aS aT aU aV aW aX aY aZ bA bB bC bD bE bF bG bH bI bJ bK bL bM bN bO bP bQ bR bS bT bU bV bW bX bY bZ cA cB cC cD cE cF cG cH cI cJ cK cL cM cO cP cQ cT cU cV cW cX cY cZ dA dB dC dD dE dF dG dH dI dJ dK dL dM dN dO dP dQ dR dS dT dU dV dW dX dY dZ eA eB eC eD eE eF eG eH eI eJ eK eL eM eN eO eP eQ eR eS eT eU eV hz hi hm g3 gr lr hA
    rw [cIter_succ]
    conv => arg 1; whnf
    refine atCall_P (hla _) ?_
    conv => arg 1; whnf
    split
    · rename_i hd
      have hlt : i < all.length := by simp at hd; omega
      have hdrop : all.drop i = all[i] :: all.drop (i + 1) := List.drop_eq_getElem_cons hlt
      have hgi : all[i]? = some all[i] := List.getElem?_eq_getElem hlt
      have hg : (all.map portV)[i]? = some (portV all[i]) := by rw [List.getElem?_map, hgi]; rfl
      have hidx := fun h => idx_L (P := Tryz.prog) (t := 84) (e := 60) (n := 2) (h := h) (k := .i64) u (by kernel_rfl) ha hz hg rfl
      obtain ⟨b0, La, b1, b2, Lb⟩ := hlk i _ hgi
      have hgb : (all.map portV)[b0.toNat]? = some (portV (valN M all[i])) := by rw [List.getElem?_map, Lb]; rfl
      have hidb := fun h => idx_L (P := Tryz.prog) (t := 84) (e := 60) (n := 2) (h := h) (k := .i64) (i := b0.toNat) u (by kernel_rfl) ha (show b0 = ((b0.toNat : Nat) : Int) by omega) hgb rfl
      have hz' : IntKind.i64.wrap (z + 1) = ((i + 1 : Nat) : Int) := by rw [hz]; exact wrap_succ (by omega)
      have ia := fun h => hix (r := r) (m := m0) (a := z) (h := h) ui (by kernel_rfl) (by omega) (by omega)
      have la : vOf h (aLoad Tryz.prog 3 (.ptr r (0 + z.toNat * 1)) h) = some (.ret (.int .i64 b0), h) := hld (v := .int .i64 b0) gr (by kernel_rfl) (by kernel_rfl) (by rw [List.getElem?_map, hz, Int.toNat_natCast, La]; rfl)
      rw [hdrop, auxA_cons] at hA
      generalize all[i] = p at hidx hidb hA
      obtain ⟨p0, p1⟩ := p
      generalize valN M (p0, p1) = q at hidb hA
      obtain ⟨q0, q1⟩ := q
      simp only at hA
      conv => arg 1; whnf
      refine atCall_P (hidx _) ?_
      conv => arg 1; whnf
      cases e1 : (p1 == 0)
      rotate_left
      conv => arg 1; whnf
      refine atCall_P (hidx _) ?_
      conv => arg 1; whnf
      cases e2 : decide (p0 ≥ 0)
      rotate_left
      · have e2' : decide (0 ≤ p0) = true := e2
        rw [e1, e2'] at hA
        simp only [Bool.and_self, Bool.true_or, Bool.true_and] at hA
        conv => arg 1; whnf
        exact ih (i + 1) hz' (by omega) (by omega) g3 gr lr hA
      all_goals
        have hA' : ((decide (0 ≤ q0) && q1 == 0) && auxA M (all.drop (i + 1))) = b := by
          rw [← hA]
          first
            | (rw [show decide (0 ≤ p0) = false from e2]; simp; done)
            | (rw [e1]; simp; done)
        clear hA
        conv => arg 1; whnf
        refine atCall_P (ia _) ?_
        conv => arg 1; whnf
        refine atCall_P (la) ?_
        conv => arg 1; whnf
        refine atCall_P (hidb _) ?_
        conv => arg 1; whnf
        refine atCall_P (alloc_new (z := .agg [.int .i64 0, .int .i64 0]) (cs := [.int .i64 0, .int .i64 0]) (by kernel_rfl) rfl rfl) ?_
        generalize hh_h1 : h.alloc (.cells [.int .i64 0, .int .i64 0] 60) = h1 at *
        obtain ⟨a_i8, n_i8, k_h1⟩ := alloc_facts hh_h1
        replace g3 := k_h1 _ _ g3 (by omega)
        replace gr := k_h1 _ _ gr (by omega)
        clear hh_h1 k_h1
        generalize hi_i8 : h.next = i8 at *
        clear hi_i8
        have st : hOf (aStore Tryz.prog 60 (.ptr i8 0) (portV (q0, q1)) h1) = some (.ret undefA, h1.set i8 (.cells [.int .i64 q0, .int .i64 q1] 60)) := st_ptr (n := 2) a_i8 (by kernel_rfl) rfl (by simp) rfl
        conv => arg 1; whnf
        refine atCall_P (st) ?_
        generalize hh_h2 : h1.set i8 (.cells [.int .i64 q0, .int .i64 q1] 60) = h2 at *
        obtain ⟨b_i8, n_h2, k_h2⟩ := set_facts hh_h2
        replace g3 := k_h2 _ _ g3 (by rintro rfl; omega)
        replace gr := k_h2 _ _ gr (by rintro rfl; omega)
        clear hh_h2 k_h2
        replace n_h2 : h2.next.nat = h1.next.nat := congrArg Id.nat n_h2
        have x0 : vOf h2 (aLoad Tryz.prog 3 (.ptr i8 0) h2) = some (.ret (.int .i64 q0), h2) := ld_ptr (n := 1) b_i8 (by kernel_rfl) (by kernel_rfl) rfl
        have x1 : vOf h2 (aLoad Tryz.prog 3 (.ptr i8 1) h2) = some (.ret (.int .i64 q1), h2) := ld_ptr (n := 1) b_i8 (by kernel_rfl) (by kernel_rfl) rfl
        conv => arg 1; whnf
        refine atCall_P (x0) ?_
        conv => arg 1; whnf
        cases e3 : decide (q0 < 0)
        rotate_left
        · have hb : b = false := by rw [← hA', show decide (0 ≤ q0) = false by simp at e3 ⊢; omega]; rfl
          conv => arg 1; whnf
          exact hR hb
        conv => arg 1; whnf
        refine atCall_P (x1) ?_
        conv => arg 1; whnf
        cases e4 : (q1 != 0)
        rotate_left
        · have hb : b = false := by rw [← hA', show (q1 == 0) = false by simpa using e4]; simp
          conv => arg 1; whnf
          exact hR hb
        have hA2 : auxA M (all.drop (i + 1)) = b := by
          rw [← hA', show decide (0 ≤ q0) = true by simp at e3 ⊢; omega, show (q1 == 0) = true by simpa using e4]; rfl
        conv => arg 1; whnf
        exact ih (i + 1) hz' (by omega) (by omega) g3 gr (by omega) hA2
    · rename_i hd
      have hlt : ¬ i < all.length := by simp at hd; omega
      rw [List.drop_eq_nil_of_le (by omega)] at hA
      exact hK hA.symm g3 gr lr

structure WalkOK (s : List Ag) (cells : List Int) (M : Lk) (all : List Pt) (lk first : List Int) (m0 : Nat) : Prop where
  ar : ∀ cc : Int, 0 ≤ cc → cc < cells.length → ∀ y, cells[cc.toNat]? = some y → portsN s y = (arC s cells cc : Nat) + 1
  a7 : ∀ cc : Int, arC s cells cc ≤ 7
  kid : ∀ (cc : Int) (i : Nat), 0 ≤ cc → cc < cells.length → 1 ≤ i → i ≤ arC s cells cc → ∃ fc b : Int, first[cc.toNat]? = some fc ∧ 0 ≤ fc ∧ 0 ≤ fc + i ∧ fc + i < m0 ∧ lk[(fc + i).toNat]? = some b ∧ 0 ≤ b ∧ b < m0 ∧ all[b.toNat]? = some (valN M (cc, (i : Int)))
  kin : ∀ (cc : Int) (i : Nat), 0 ≤ cc → cc < cells.length → 1 ≤ i → i ≤ arC s cells cc → 0 ≤ (valN M (cc, (i : Int))).1 ∧ (valN M (cc, (i : Int))).1 < cells.length

theorem lR4 (call rgn n) (s : List Ag) (cells : List Int) (M : Lk) (all : List Pt) (lk first : List Int) (hx : IsSig x s) (hc : IsL c (cells.map intV)) (ha : IsL av (all.map portV)) (hf : IsL fv (first.map intV)) (hm0 : all.length = m0) (hml : m0 ≤ 1000000) (hfl : first.length = cells.length) (W : WalkOK s cells M all lk first m0) (hP2 : hP2 call) (cc : Int) (hc0 : 0 ≤ cc) (hck : cc < cells.length) (o1 : i3.nat ≤ sn.nat) (o2 : r.nat ≤ sn.nat) {ss : List AV} {rr : AV} {L : List Int} (hL : L.length ≤ 1000000) {K : KC (AOut × AH)} {Q : Option (AOut × AH) → Prop}
    (hK : ∀ {h : AH} {t : AV} {g1 g2 g4 g7 g8 aD aE aF aG aH aI aJ aK aL aM aN aO aP aQ aR aS aT aU aV aW aX aY aZ bA bB bC bD bE bF bG bH bI bJ bK bL bM bN bO bP bQ bR bS bT bU bV bW bX bY bZ cA cB cC cD cE cF cG cH cI cJ cK cL cM cO cP cQ cT cU cV cW cX cY cZ dA dB dC dD dE dF dG dH dI dJ dK dL dM dN dO dP dQ dR dS dT dU dV dW dX dY dZ eA eB eC eD eE eF eG eH eI eJ eK eL eM eN eO eP eQ eR eS eT eU eV : AV}, h.get i3 = some (.cells [c, .int .i64 f, w] 43) → h.get r = some (.cells (lk.map intV) 3) → h.get sn = some (.cells ss 4) → sn.nat < h.next.nat → TodoAt sn.nat h t (L ++ kidsF M (arC s cells) cc) → Q (K (.exit 4) ⟨(x::g1::g2::.ptr i3 0::g4::av::.hsl r 0 m0 (.known m0)::g7::g8::.hsl sn 0 cells.length (.known cells.length)::t::rr::fv::aD::aE::aF::aG::aH::aI::aJ::aK::aL::aM::aN::aO::aP::aQ::aR::aS::aT::aU::aV::aW::aX::aY::aZ::bA::bB::bC::bD::bE::bF::bG::bH::bI::bJ::bK::bL::bM::bN::bO::bP::bQ::bR::bS::bT::bU::bV::bW::bX::bY::bZ::cA::cB::cC::cD::cE::cF::cG::cH::cI::cJ::cK::cL::cM::cO::cP::cQ::cT::cU::cV::cW::cX::cY::cZ::dA::dB::dC::dD::dE::dF::dG::dH::dI::dJ::dK::dL::dM::dN::dO::dP::dQ::dR::dS::dT::dU::dV::dW::dX::dY::dZ::eA::eB::eC::eD::eE::eF::eG::eH::eI::eJ::eK::eL::eM::eN::eO::eP::eQ::eR::eS::eT::eU::eV::[]), [], h⟩)) :
    ∀ (m i : Nat) {z : Int} {t : AV} {h : AH} {g1 g2 g4 g7 g8 aD aG aH aI aJ aK aL aM aN aO aP aQ aR aS aT aU aV aW aX aY aZ bA bB bC bD bE bF bG bH bI bJ bK bL bM bN bO bP bQ bR bS bT bU bV bW bX bY bZ cA cB cC cD cE cF cG cH cI cJ cK cL cM cO cP cQ cT cU cV cW cX cY cZ dA dB dC dD dE dF dG dH dI dJ dK dL dM dN dO dP dQ dR dS dT dU dV dW dX dY dZ eA eB eC eD eE eF eG eH eI eJ eK eL eM eN eO eP eQ eR eS eT eU eV : AV}, z = (i : Int) + 1 → i ≤ arC s cells cc → arC s cells cc - i < m → h.get i3 = some (.cells [c, .int .i64 f, w] 43) → h.get r = some (.cells (lk.map intV) 3) → h.get sn = some (.cells ss 4) → sn.nat < h.next.nat → TodoAt sn.nat h t (L ++ (List.range' 1 i).map fun (i : Nat) => (valN M (cc, (i : Int))).1) →
    Q (cIter (LB1 shT call rgn n 22 Tryz.f22 2) m ⟨(x::g1::g2::.ptr i3 0::g4::av::.hsl r 0 m0 (.known m0)::g7::g8::.hsl sn 0 cells.length (.known cells.length)::t::rr::fv::aD::.int .i64 cc::.int .i64 z::aG::aH::aI::aJ::aK::aL::aM::aN::aO::aP::aQ::aR::aS::aT::aU::aV::aW::aX::aY::aZ::bA::bB::bC::bD::bE::bF::bG::bH::bI::bJ::bK::bL::bM::bN::bO::bP::bQ::bR::bS::bT::bU::bV::bW::bX::bY::bZ::cA::cB::cC::cD::cE::cF::cG::cH::cI::cJ::cK::cL::cM::cO::cP::cQ::cT::cU::cV::cW::cX::cY::cZ::dA::dB::dC::dD::dE::dF::dG::dH::dI::dJ::dK::dL::dM::dN::dO::dP::dQ::dR::dS::dT::dU::dV::dW::dX::dY::dZ::eA::eB::eC::eD::eE::eF::eG::eH::eI::eJ::eK::eL::eM::eN::eO::eP::eQ::eR::eS::eT::eU::eV::[]), [], h⟩ K) := by
  have u : Tryz.prog.underlying 84 = some (.slice 60) := by kernel_rfl
  have ui : Tryz.prog.underlying 40 = some (.slice 3) := by kernel_rfl
  have a7 := W.a7 cc
  intro m
  induction m with
  | zero => intros; omega
  | succ m ih =>
    intro i z t h g1 g2 g4 g7 g8 aD aG aH aI aJ aK aL aM aN aO aP aQ aR aS aT aU aV aW aX aY aZ bA bB bC bD bE bF bG bH bI bJ bK bL bM bN bO bP bQ bR bS bT bU bV bW bX bY bZ cA cB cC cD cE cF cG cH cI cJ cK cL cM cO cP cQ cT cU cV cW cX cY cZ dA dB dC dD dE dF dG dH dI dJ dK dL dM dN dO dP dQ dR dS dT dU dV dW dX dY dZ eA eB eC eD eE eF eG eH eI eJ eK eL eM eN eO eP eQ eR eS eT eU eV hz hi hm g3 gr gs ls hT
    rw [cIter_succ]
    have lc : ∀ h, h.get i3 = some (.cells [c, .int .i64 f, w] 43) → vOf h (aLoad Tryz.prog 40 (.ptr i3 0) h) = some (.ret c, h) := fun h g => ld_ptr (n := 1) g (by kernel_rfl) (by kernel_rfl) rfl
    obtain ⟨y, y1, y2⟩ := idx_ints (h := h) (a := cc) hc hc0 hck
    have hy := W.ar cc hc0 hck y y1
    have p2 := hP2 x s y h hx
    rw [hy] at p2
    conv => arg 1; whnf
    refine atCall_P (lc h g3) ?_
    conv => arg 1; whnf
    refine atCall_P (y2) ?_
    conv => arg 1; whnf
    refine atCall_P (p2) ?_
    conv => arg 1; whnf
    cases e1 : decide (z < ((arC s cells cc : Nat) : Int) + 1)
    · have hie : i = arC s cells cc := by simp at e1; omega
      subst hie
      conv => arg 1; whnf
      exact hK g3 gr gs ls hT
    · have hlt : i < arC s cells cc := by simp at e1; omega
      obtain ⟨fc, b, f1, f0, fi0, fim, Lk, b0, bm, Lb⟩ := W.kid cc (i + 1) hc0 hck (by omega) (by omega)
      obtain ⟨y', y3, y4⟩ := idx_ints (h := h) (a := cc) hf hc0 (by omega)
      rw [f1] at y3
      simp only [Option.some.injEq] at y3
      subst y3
      have hz2 : IntKind.i64.wrap (fc + z) = fc + ((i + 1 : Nat) : Int) := by rw [hz, wrap_small (by omega) (by omega)]; omega
      have hz' : IntKind.i64.wrap (z + 1) = ((i + 1 : Nat) : Int) + 1 := by rw [hz, wrap_small (by omega) (by omega)]; omega
      have ia := hix (r := r) (m := m0) (a := fc + ((i + 1 : Nat) : Int)) (h := h) ui (by kernel_rfl) (by omega) (by omega)
      have la : vOf h (aLoad Tryz.prog 3 (.ptr r (0 + (fc + ((i + 1 : Nat) : Int)).toNat * 1)) h) = some (.ret (.int .i64 b), h) := hld (v := .int .i64 b) gr (by kernel_rfl) (by kernel_rfl) (by rw [List.getElem?_map, Lk]; rfl)
      have hgb : (all.map portV)[b.toNat]? = some (portV (valN M (cc, ((i + 1 : Nat) : Int)))) := by rw [List.getElem?_map, Lb]; rfl
      have hidb := idx_L (P := Tryz.prog) (t := 84) (e := 60) (n := 2) (h := h) (k := .i64) (i := b.toNat) u (by kernel_rfl) ha (show b = ((b.toNat : Nat) : Int) by omega) hgb rfl
      have hnew : L ++ (List.range' 1 (i + 1)).map (fun (i : Nat) => (valN M (cc, (i : Int))).1) = (L ++ (List.range' 1 i).map fun (i : Nat) => (valN M (cc, (i : Int))).1) ++ [(valN M (cc, ((i + 1 : Nat) : Int))).1] := by
        rw [List.range'_concat, List.map_append, List.append_assoc]
        simp [Nat.add_comm]
      generalize valN M (cc, ((i + 1 : Nat) : Int)) = q at hidb hnew
      obtain ⟨q0, q1⟩ := q
      simp only at hnew
      obtain ⟨t', h2, q2, hT2, kn, ke⟩ := app_todo (call := call) (a := q0) hT (by simp; omega) ls
      have e3 := ke _ _ g3 (by omega) (by omega)
      have er := ke _ _ gr (by omega) (by omega)
      have es := ke _ _ gs (by omega) (by omega)
      conv => arg 1; whnf
      conv => arg 1; whnf
      refine atCall_P (y4) ?_
      conv => arg 1; whnf
      rw [hz2]
      conv => arg 1; whnf
      refine atCall_P (ia) ?_
      conv => arg 1; whnf
      refine atCall_P (la) ?_
      conv => arg 1; whnf
      refine atCall_P (hidb) ?_
      conv => arg 1; whnf
      refine atCall_P (q2) ?_
      conv => arg 1; whnf
      exact ih (i + 1) hz' (by omega) (by omega) e3 er es (by omega) (by rw [hnew]; exact hT2)
end
theorem stack_some {M : Lk} {ar : Int → Nat} {N : Nat} {P : List Pt} (t : TreeOK M ar N P) (hA : AuxOK M P) : ∃ R, stackF M ar (N + 1) [(valN M (-1, 0)).1] [] = some R := by
  obtain ⟨c0, c1⟩ := hA _ t.rt (by simp)
  have hv : valN M (-1, 0) = ((valN M (-1, 0)).1, 0) := by ext; exact rfl; exact c1
  obtain ⟨v1, v2⟩ := t.val _ t.rt
  have cN := t.lt _ v1 c0
  obtain ⟨R, h, _⟩ := stack_ok t hA (N + 1) [(valN M (-1, 0)).1] [] ⟨⟨by simp, by simp; exact ⟨c0, cN⟩⟩, (by
    intro e he
    simp only [List.append_nil, List.mem_singleton] at he
    subst he
    rw [hv] at v2
    exact .inl v2), ⟨_, by simp, hv⟩, by simp, (by
    intro e he
    simp only [List.append_nil, List.mem_singleton] at he
    subst he
    exact .here hv)⟩ (by simp)
  exact ⟨R, h⟩

theorem todo_set {b0 : Nat} {h : AH} {t : AV} {L : List Int} {i : Sk.Id} {o : AO} (ht : TodoAt b0 h t L) (hi : i.nat ≤ b0) : TodoAt b0 (h.set i o) t L := by
  obtain ⟨td, cap, cs, q1, q2, q3, q4, q5, q6, q7⟩ := ht
  exact ⟨td, cap, cs, q1, by rw [AH.get_set, if_neg (by rintro rfl; omega)]; exact q2, q3, q4, q5, by rw [AH.next_set]; exact q6, q7⟩

section
variable {i3 r sn : Sk.Id} {x c w av fv : AV} {f : Int} {m0 : Nat}

theorem lR2 (call rgn n) (s : List Ag) (cells : List Int) (M : Lk) (all : List Pt) (lk first : List Int) (hx : IsSig x s) (hc : IsL c (cells.map intV)) (ha : IsL av (all.map portV)) (hf : IsL fv (first.map intV)) (hm0 : all.length = m0) (hml : m0 ≤ 1000000) (hfl : first.length = cells.length) (W : WalkOK s cells M all lk first m0) (hP2 : hP2 call) (o1 : i3.nat < sn.nat) (o2 : r.nat < sn.nat) (hn : 10 < n) {R : List Int} {K : KC (AOut × AH)} {Q : Option (AOut × AH) → Prop}
    (hK : ∀ {h : AH} {g0 g1 g2 g4 g5 g6 g7 g8 g9 aA aC aD aE aF aG aH aI aJ aK aL aM aN aO aP aQ aR aS aT aU aV aW aX aY aZ bA bB bC bD bE bF bG bH bI bJ bK bL bM bN bO bP bQ bR bS bT bU bV bW bX bY bZ cA cB cC cD cE cF cG cH cI cJ cK cL cM cO cP cQ cT cU cV cW cX cY cZ dA dB dC dD dE dF dG dH dI dJ dK dL dM dN dO dP dQ dR dS dT dU dV dW dX dY dZ eA eB eC eD eE eF eG eH eI eJ eK eL eM eN eO eP eQ eR eS eT eU eV : AV}, h.get i3 = some (.cells [c, .int .i64 f, w] 43) → Q (K (.exit 2) ⟨(g0::g1::g2::.ptr i3 0::g4::g5::g6::g7::g8::g9::aA::.int .i64 R.length::aC::aD::aE::aF::aG::aH::aI::aJ::aK::aL::aM::aN::aO::aP::aQ::aR::aS::aT::aU::aV::aW::aX::aY::aZ::bA::bB::bC::bD::bE::bF::bG::bH::bI::bJ::bK::bL::bM::bN::bO::bP::bQ::bR::bS::bT::bU::bV::bW::bX::bY::bZ::cA::cB::cC::cD::cE::cF::cG::cH::cI::cJ::cK::cL::cM::cO::cP::cQ::cT::cU::cV::cW::cX::cY::cZ::dA::dB::dC::dD::dE::dF::dG::dH::dI::dJ::dK::dL::dM::dN::dO::dP::dQ::dR::dS::dT::dU::dV::dW::dX::dY::dZ::eA::eB::eC::eD::eE::eF::eG::eH::eI::eJ::eK::eL::eM::eN::eO::eP::eQ::eR::eS::eT::eU::eV::[]), [], h⟩)) :
    ∀ (m m' : Nat) {zr : Int} {t : AV} {h : AH} {L S : List Int} {g1 g2 g4 g7 g8 aD aE aF aG aH aI aJ aK aL aM aN aO aP aQ aR aS aT aU aV aW aX aY aZ bA bB bC bD bE bF bG bH bI bJ bK bL bM bN bO bP bQ bR bS bT bU bV bW bX bY bZ cA cB cC cD cE cF cG cH cI cJ cK cL cM cO cP cQ cT cU cV cW cX cY cZ dA dB dC dD dE dF dG dH dI dJ dK dL dM dN dO dP dQ dR dS dT dU dV dW dX dY dZ eA eB eC eD eE eF eG eH eI eJ eK eL eM eN eO eP eQ eR eS eT eU eV : AV}, m ≤ m' → zr = S.length → S.length + m ≤ 1000000 → L.length + 7 * m ≤ 1000000 → (∀ cc ∈ L, 0 ≤ cc ∧ cc < cells.length) → stackF M (arC s cells) m L S = some R → h.get i3 = some (.cells [c, .int .i64 f, w] 43) → h.get r = some (.cells (lk.map intV) 3) → h.get sn = some (.cells (seenB cells.length S) 4) → sn.nat < h.next.nat → TodoAt sn.nat h t L →
    Q (cIter (LB1 shT call rgn n 22 Tryz.f22 1) m' ⟨(x::g1::g2::.ptr i3 0::g4::av::.hsl r 0 m0 (.known m0)::g7::g8::.hsl sn 0 cells.length (.known cells.length)::t::.int .i64 zr::fv::aD::aE::aF::aG::aH::aI::aJ::aK::aL::aM::aN::aO::aP::aQ::aR::aS::aT::aU::aV::aW::aX::aY::aZ::bA::bB::bC::bD::bE::bF::bG::bH::bI::bJ::bK::bL::bM::bN::bO::bP::bQ::bR::bS::bT::bU::bV::bW::bX::bY::bZ::cA::cB::cC::cD::cE::cF::cG::cH::cI::cJ::cK::cL::cM::cO::cP::cQ::cT::cU::cV::cW::cX::cY::cZ::dA::dB::dC::dD::dE::dF::dG::dH::dI::dJ::dK::dL::dM::dN::dO::dP::dQ::dR::dS::dT::dU::dV::dW::dX::dY::dZ::eA::eB::eC::eD::eE::eF::eG::eH::eI::eJ::eK::eL::eM::eN::eO::eP::eQ::eR::eS::eT::eU::eV::[]), [], h⟩ K) := by
  have ub : Tryz.prog.underlying 94 = some (.slice 4) := by kernel_rfl
  intro m
  induction m with
  | zero => intros; rename_i hF _ _ _ _ _; simp [stackF] at hF
  | succ m ih =>
    intro m' zr t h L S g1 g2 g4 g7 g8 aD aE aF aG aH aI aJ aK aL aM aN aO aP aQ aR aS aT aU aV aW aX aY aZ bA bB bC bD bE bF bG bH bI bJ bK bL bM bN bO bP bQ bR bS bT bU bV bW bX bY bZ cA cB cC cD cE cF cG cH cI cJ cK cL cM cO cP cQ cT cU cV cW cX cY cZ dA dB dC dD dE dF dG dH dI dJ dK dL dM dN dO dP dQ dR dS dT dU dV dW dX dY dZ eA eB eC eD eE eF eG eH eI eJ eK eL eM eN eO eP eQ eR eS eT eU eV hm hz hS hL hin hF g3 gr gs ls hT
    obtain ⟨m', rfl⟩ : ∃ q, m' = q + 1 := ⟨m' - 1, by omega⟩
    rw [cIter_succ]
    rcases List.eq_nil_or_concat L with rfl | ⟨L, cc, rfl⟩
    · simp only [stackF, List.getLast?_nil, Option.some.injEq] at hF
      subst hF
      have hlen := fun (call : CallT) => len_todo (call := call) hT
      conv => arg 1; whnf
      refine atCall_P (hlen call) ?_
      have hd : decide ((([] : List Int).length : Int) > 0) = false := rfl
      conv => arg 1; whnf
      rw [hz]
      exact hK g3
    · rw [List.concat_eq_append] at *
      simp only [stackF, List.getLast?_concat, List.dropLast_concat] at hF
      split at hF
      · cases hF
      rename_i hcS
      obtain ⟨c0, ck⟩ := hin cc (by simp)
      have hlen := len_todo (call := call) hT
      have hw : IntKind.i64.wrap (((L ++ [cc]).length : Int) - 1) = L.length := by
        rw [List.length_append, List.length_singleton] at *
        rw [wrap_small (by omega) (by omega)]; omega
      have hd : decide (((L ++ [cc]).length : Int) > 0) = true := by rw [List.length_append, List.length_singleton]; simp
      obtain ⟨td, x1, x2⟩ := idx_todo hT hw
      obtain ⟨t', x3, hT2⟩ := slice_todo hT hw
      have ia := fun h => hix (r := sn) (m := cells.length) (a := cc) (h := h) ub (by kernel_rfl) c0 ck
      have la : vOf h (aLoad Tryz.prog 4 (.ptr sn (0 + cc.toNat * 1)) h) = some (.ret (.bool false), h) := hld (v := .bool false) gs (by kernel_rfl) (by kernel_rfl) (by rw [seenB_get c0 ck]; simp [hcS])
      have s1 := hst (a := cc) (v := .bool true) gs (by kernel_rfl) rfl rfl (by unfold seenB; simp; omega)
      rw [seenB_set c0] at s1
      conv => arg 1; whnf
      refine atCall_P (hlen) ?_
      conv => arg 1; whnf
      rw [hd]
      conv => arg 1; whnf
      refine atCall_P (hlen) ?_
      conv => arg 1; whnf
      refine atCall_P (x1) ?_
      conv => arg 1; whnf
      refine atCall_P (x2) ?_
      conv => arg 1; whnf
      refine atCall_P (hlen) ?_
      conv => arg 1; whnf
      refine atCall_P (x3) ?_
      conv => arg 1; whnf
      refine atCall_P (ia h) ?_
      conv => arg 1; whnf
      refine atCall_P (la) ?_
      conv => arg 1; whnf
      refine atCall_P (ia h) ?_
      conv => arg 1; whnf
      refine atCall_P (s1) ?_
      have hT3 := todo_set (o := .cells (seenB cells.length (cc :: S)) 4) hT2 (Nat.le_refl _)
      generalize hh_h2 : h.set sn (.cells (seenB cells.length (cc :: S)) 4) = h2 at *
      obtain ⟨b_sn, n_h2, k_h2⟩ := set_facts hh_h2
      replace g3 := k_h2 _ _ g3 (by rintro rfl; omega)
      replace gr := k_h2 _ _ gr (by rintro rfl; omega)
      clear hh_h2 k_h2
      replace n_h2 : h2.next.nat = h.next.nat := congrArg Id.nat n_h2
      have hz' : IntKind.i64.wrap (zr + 1) = (((cc :: S).length : Nat) : Int) := by rw [hz, wrap_small (by omega) (by omega)]; simp
      conv => arg 1; whnf
      refine lR4 (c := c) (w := w) (f := f) call rgn n s cells M all lk first hx hc ha hf hm0 hml hfl W hP2 cc c0 ck (by omega) (by omega) (L := L) (by simp at hL; omega) ?_ n 0 (z := 1) rfl (Nat.zero_le _) (by have := W.a7 cc; omega) g3 gr b_sn (by omega) (by simpa using hT3)
      intro h3 t3 g1 g2 g4 g7 g8 aD aE aF aG aH aI aJ aK aL aM aN aO aP aQ aR aS aT aU aV aW aX aY aZ bA bB bC bD bE bF bG bH bI bJ bK bL bM bN bO bP bQ bR bS bT bU bV bW bX bY bZ cA cB cC cD cE cF cG cH cI cJ cK cL cM cO cP cQ cT cU cV cW cX cY cZ dA dB dC dD dE dF dG dH dI dJ dK dL dM dN dO dP dQ dR dS dT dU dV dW dX dY dZ eA eB eC eD eE eF eG eH eI eJ eK eL eM eN eO eP eQ eR eS eT eU eV e3 er es ln hT4
      conv => arg 1; whnf
      exact ih m' (by omega) hz' (by simp; omega) (by
        have := W.a7 cc
        unfold kidsF; simp at hL ⊢; omega) (by
        intro d hd
        rcases List.mem_append.1 hd with hd | hd
        · exact hin d (List.mem_append_left _ hd)
        · unfold kidsF at hd
          obtain ⟨i, hi, rfl⟩ := List.mem_map.1 hd
          rw [List.mem_range'_1] at hi
          exact W.kin cc i c0 ck (by omega) (by omega)) hF e3 er es ln hT4
end
theorem lk_at {s : List Ag} {nt : Nt} (g : Good s nt) {p : Pt} (hp : p ∈ portsL s nt) : ∃ v b : Nat, placeN s nt p = v ∧ v < (portsL s nt).length ∧ (links03 s nt nt.wires (List.replicate (portsL s nt).length 0))[v]? = some ((b : Nat) : Int) ∧ b < (portsL s nt).length ∧ (portsL s nt)[b]? = some (valN (linksOf nt.wires) p) := by
  have hP := fun a => (sigChk_ports g.sg a).1
  obtain ⟨i1, i2, _, _⟩ := g.inv.val hp
  obtain ⟨v, v1, v2⟩ := place_at hP g.f0 (isPort_iff.2 hp)
  obtain ⟨b, b1, b2⟩ := place_at hP g.f0 (isPort_iff.2 i1)
  refine ⟨v, b, v1, (List.getElem?_eq_some_iff.1 v2).1, ?_, (List.getElem?_eq_some_iff.1 b2).1, b2⟩
  rw [links_good g, List.getElem?_map, v2]
  simp only [Option.map_some, vP, i2]
  rw [b1]

theorem walk_ok {s : List Ag} {nt : Nt} (g : Good s nt) (h1 : nt.free = 1) (hA : AuxOK (linksOf nt.wires) (portsL s nt)) : WalkOK s nt.cells (linksOf nt.wires) (portsL s nt) (links03 s nt nt.wires (List.replicate (portsL s nt).length 0)) (firstL s nt.cells nt.free) (portsL s nt).length where
  ar := fun cc h0 hk y hy => by
    obtain ⟨nm, a, s1, s2, s3, s4, s5, s6⟩ := good_cell g hy
    rw [show ((cc.toNat : Nat) : Int) = cc by omega] at s6
    omega
  a7 := fun cc => by
    have := sigChk_ports g.sg (nt.cells.getD cc.toNat 0)
    unfold arC; omega
  kid := fun cc i h0 hk i1 i2 => by
    have tk := tree_ok g h1
    have hm := tk.kid cc h0 hk i i2
    have hm0 := tk.kid cc h0 hk 0 (Nat.zero_le _)
    obtain ⟨v, b, v1, v2, v3, v4, v5⟩ := lk_at g hm
    obtain ⟨v0, _, w1, _⟩ := lk_at g hm0
    have e : ((cc.toNat : Nat) : Int) = cc := by omega
    rw [← e] at hm hm0 v1 w1
    have f1 := first_place hm
    have f2 := first_place hm0
    have hl := firstL_len s nt.cells nt.free
    refine ⟨(firstL s nt.cells nt.free).getD cc.toNat 0, b, ?_, by omega, by omega, by omega, ?_, by omega, by omega, by rw [Int.toNat_natCast]; exact v5⟩
    · rw [List.getD_eq_getElem?_getD, List.getElem?_eq_getElem (by omega)]; rfl
    · rw [show ((firstL s nt.cells nt.free).getD cc.toNat 0 + (i : Int)).toNat = v by omega]; exact v3
  kin := fun cc i h0 hk i1 i2 => by
    have tk := tree_ok g h1
    have hm := tk.kid cc h0 hk i i2
    obtain ⟨a0, _⟩ := hA _ hm (by simp; omega)
    exact ⟨a0, tk.lt _ (tk.val _ hm).1 a0⟩

def treeQ (s : List Ag) (n : Nt) : Bool := n.free == 1 && treeR (linksOf n.wires) (arC s n.cells) n.cells.length (portsL s n)

set_option maxHeartbeats 4000000 in
theorem bRT (call rgn n) (x v : AV) (s : List Ag) (nt : Nt) (hx : IsSig x s) (hv : IsNet v nt) (g : Good s nt) (hwl : nt.wires.length ≤ 1000000) (hAl : hAl call) (hF1 : hF1 call) (hP2 : hP2 call) (hn : 1000000 < n)
    (hLk : ∀ v h, IsNet v nt → ∃ r h', call (.func 57) [x, v] h = some (.ret (.hsl r 0 (portsL s nt).length (.known (portsL s nt).length)), h') ∧ h'.get r = some (.cells ((links03 s nt nt.wires (List.replicate (portsL s nt).length 0)).map intV) 3) ∧ h.next.nat ≤ r.nat ∧ r.nat < h'.next.nat ∧ Kept h.next.nat h h') (h : AH) :
    ∃ h', B1 shT call rgn n 22 Tryz.f22 [x, v] h = some (.ret (.bool (treeQ s nt)), h') := by
  suffices hq : ∀ Q : Option (AOut × AH) → Prop, (∀ b h', treeQ s nt = b → Q (some (.ret (.bool b), h'))) → Q (B1 shT call rgn n 22 Tryz.f22 [x, v] h) from
    hq (fun y => ∃ h', y = some (.ret (.bool (treeQ s nt)), h')) (fun b h' he => ⟨h', by rw [he]⟩)
  intro Q hQ
  have hv0 := hv
  obtain ⟨c, w, rfl, hc, hw⟩ := hv
  have hcs := isL_scalar hc
  have hws := isL_scalar hw
  have u : Tryz.prog.underlying 84 = some (.slice 60) := by kernel_rfl
  have ui : Tryz.prog.underlying 40 = some (.slice 3) := by kernel_rfl
  have hlc := fun h => len_L (X := ⟨Tryz.prog, mu1, call⟩) (mu := false) (h := h) ui hc
  rw [List.length_map] at hlc
  conv => arg 1; whnf
  refine atCall_P (box_new (cs := [c, .int .i64 nt.free, w]) rfl (by simp only [List.all_cons, hcs, hws, List.all_nil]; rfl)) ?_
  generalize hh_h1 : h.alloc (.cells [c, .int .i64 nt.free, w] 43) = h1 at *
  obtain ⟨a_i3, n_i3, k_h1⟩ := alloc_facts hh_h1
  clear hh_h1 k_h1
  generalize hi_i3 : h.next = i3 at *
  clear hi_i3
  have ln : ∀ h, h.get i3 = some (.cells [c, .int .i64 nt.free, w] 43) → vOf h (aLoad Tryz.prog 43 (.ptr i3 0) h) = some (.ret (.agg [c, .int .i64 nt.free, w]), h) := fun h g => ld_agg (n := 3) g (by kernel_rfl) (by kernel_rfl) (by simp)
  have lc : ∀ h, h.get i3 = some (.cells [c, .int .i64 nt.free, w] 43) → vOf h (aLoad Tryz.prog 40 (.ptr i3 0) h) = some (.ret c, h) := fun h g => ld_ptr (n := 1) g (by kernel_rfl) (by kernel_rfl) rfl
  have lf : vOf h1 (aLoad Tryz.prog 3 (.ptr i3 1) h1) = some (.ret (.int .i64 nt.free), h1) := ld_ptr (n := 1) a_i3 (by kernel_rfl) (by kernel_rfl) rfl
  conv => arg 1; whnf
  refine atCall_P (lf) ?_
  conv => arg 1; whnf
  cases e1 : (nt.free != 1)
  rotate_left
  · have f1 : nt.free ≠ 1 := by simpa using e1
    conv => arg 1; whnf
    exact atLeave_P (leave_plain (.inl rfl) rfl) (hQ _ _ (by unfold treeQ; rw [show (nt.free == 1) = false by simpa using f1]; rfl))
  have f1 : nt.free = 1 := by simpa using e1
  have hP := sigChk_ports g.sg
  have hml := ports_len' hP g.f1 g.cl
  have hcl := g.cl
  have ho : okF s nt := ⟨g.sg, by omega, by have := g.f0; omega, by have := g.f1; omega, hwl⟩
  have tk := tree_ok g f1
  have hq : treeQ s nt = (auxA (linksOf nt.wires) (portsL s nt) && (match stackF (linksOf nt.wires) (arC s nt.cells) (nt.cells.length + 1) [(valN (linksOf nt.wires) (-1, 0)).1] [] with | some R => R.length == nt.cells.length | none => false)) := by
    unfold treeQ treeR
    rw [show (nt.free == 1) = true by simpa using f1]; rfl
  have hlk : ∀ (i : Nat) p, (portsL s nt)[i]? = some p → ∃ b : Int, (links03 s nt nt.wires (List.replicate (portsL s nt).length 0))[i]? = some b ∧ 0 ≤ b ∧ b < (portsL s nt).length ∧ (portsL s nt)[b.toNat]? = some (valN (linksOf nt.wires) p) := fun i p hp => by
    obtain ⟨v, b, v1, v2, v3, v4, v5⟩ := lk_at g (List.mem_of_getElem? hp)
    obtain ⟨v', w1, w2⟩ := place_at (fun a => (hP a).1) g.f0 (isPort_iff.2 (List.mem_of_getElem? hp))
    have : v' = v := by omega
    subst this
    have hnd := nodup_ports s nt
    have hiv : i = v' := by
      obtain ⟨a1, a2⟩ := List.getElem?_eq_some_iff.1 hp
      obtain ⟨b1, b2⟩ := List.getElem?_eq_some_iff.1 w2
      exact (List.getElem_inj hnd).1 (a2.trans b2.symm)
    subst hiv
    exact ⟨b, v3, by omega, by omega, by rw [Int.toNat_natCast]; exact v5⟩
  have isa := listW_isL (enc := portV) (portsL s nt)
  have hall := fun h => hAl x (.agg [c, .int .i64 nt.free, w]) s nt h hx hv0 ho
  generalize listW portV (portsL s nt) = av at isa hall
  have isf := listW_isL (enc := intV) (firstL s nt.cells nt.free)
  have hfirst := fun h => hF1 x (.agg [c, .int .i64 nt.free, w]) s nt h hx hv0 ho
  unfold firstV at hfirst
  generalize listW intV (firstL s nt.cells nt.free) = fv at isf hfirst
  have hfv2 := isL_cases' isf
  conv => arg 1; whnf
  refine atCall_P (ln h1 a_i3) ?_
  conv => arg 1; whnf
  refine atCall_P (hall h1) ?_
  conv => arg 1; whnf
  refine atCall_P (ln h1 a_i3) ?_
  obtain ⟨r, h2, q1, q2, q3, q4, q5⟩ := hLk (.agg [c, .int .i64 nt.free, w]) h1 hv0
  have z1 := q5.1 _ _ a_i3 (by omega)
  conv => arg 1; whnf
  refine atCall_P (q1) ?_
  conv => arg 1; whnf
  refine lR0 (c := c) (w := w) (f := nt.free) (x := x) call rgn n (portsL s nt) (linksOf nt.wires) (links03 s nt nt.wires (List.replicate (portsL s nt).length 0)) isa rfl (by omega) hlk (by omega) (b := auxA (linksOf nt.wires) (portsL s nt)) ?_ ?_ n 0 (z := 0) rfl (Nat.zero_le _) (by omega) z1 q2 q4 (by rw [List.drop_zero])
  · intro hb h3
    intros
    exact atLeave_P (leave_plain (.inl rfl) rfl) (hQ _ _ (by rw [hq, hb]; rfl))
  intro hb h3 g1 g2 g4 g7 g8 g9 aA aB aC aD aE aF aG aH aI aJ aK aL aM aN aO aP aQ aR aS aT aU aV aW aX aY aZ bA bB bC bD bE bF bG bH bI bJ bK bL bM bN bO bP bQ bR bS bT bU bV bW bX bY bZ cA cB cC cD cE cF cG cH cI cJ cK cL cM cO cP cQ cT cU cV cW cX cY cZ dA dB dC dD dE dF dG dH dI dJ dK dL dM dN dO dP dQ dR dS dT dU dV dW dX dY dZ eA eB eC eD eE eF eG eH eI eJ eK eL eM eN eO eP eQ eR eS eT eU eV g3 gr lr
  have hA := auxA_iff.1 hb
  obtain ⟨R, hR⟩ := stack_some tk hA
  have hqR : treeQ s nt = ((R.length : Int) == (nt.cells.length : Int)) := by rw [hq, hb, hR, int_beq]; rfl
  have W := walk_ok g f1 hA
  obtain ⟨v, b, v1, v2, v3, v4, v5⟩ := lk_at g tk.rt
  have v0 : v = 0 := by
    have : placeN s nt (-1, 0) = 0 := by unfold placeN; rw [if_pos rfl, if_neg (by simp [f1])]
    omega
  subst v0
  obtain ⟨c0, c1⟩ := hA _ tk.rt (by simp)
  have cN := tk.lt _ (tk.val _ tk.rt).1 c0
  generalize valN (linksOf nt.wires) (-1, 0) = q at v5 hR c0 cN
  obtain ⟨q00, q01⟩ := q
  simp only at hR c0 cN
  have hgb : ((portsL s nt).map portV)[b]? = some (portV (q00, q01)) := by rw [List.getElem?_map, v5]; rfl
  have hidb := fun h => idx_L (P := Tryz.prog) (t := 84) (e := 60) (n := 2) (h := h) (k := .i64) (i := b) (y := ((b : Nat) : Int)) u (by kernel_rfl) isa rfl hgb rfl
  have hfl := firstL_len s nt.cells nt.free
  generalize firstL s nt.cells nt.free = first at isf hfl W
  generalize hlkk : links03 s nt nt.wires (List.replicate (portsL s nt).length 0) = lk at *
  generalize hall0 : portsL s nt = all at *
  generalize hm0 : all.length = m0 at *
  conv => arg 1; whnf
  refine atCall_P (lc h3 g3) ?_
  conv => arg 1; whnf
  refine atCall_P (hlc h3) ?_
  conv => arg 1; whnf
  refine atCall_P (ms_new (t := 94) (e := 4) (m := nt.cells.length) (h := h3) (z := .bool false) (by kernel_rfl) (by kernel_rfl) (by kernel_rfl) rfl rfl (bs := 1) (by kernel_rfl) (by omega) (by omega)) ?_
  rw [seenB_nil]
  generalize hh_h4 : h3.alloc (.cells (seenB nt.cells.length []) 4) = h4 at *
  obtain ⟨a_sn, n_sn, k_h4⟩ := alloc_facts hh_h4
  replace g3 := k_h4 _ _ g3 (by omega)
  replace gr := k_h4 _ _ gr (by omega)
  clear hh_h4 k_h4
  generalize hi_sn : h3.next = sn at *
  clear hi_sn
  have ia := fun h => hix (r := r) (m := m0) (a := 0) (h := h) ui (by kernel_rfl) (by omega) (by omega)
  have la : vOf h4 (aLoad Tryz.prog 3 (.ptr r (0 + (0 : Int).toNat * 1)) h4) = some (.ret (.int .i64 b), h4) := hld (v := .int .i64 b) gr (by kernel_rfl) (by kernel_rfl) (by rw [List.getElem?_map, show (0 : Int).toNat = 0 from rfl, v3]; rfl)
  conv => arg 1; whnf
  refine atCall_P (ia h4) ?_
  conv => arg 1; whnf
  refine atCall_P (la) ?_
  conv => arg 1; whnf
  refine atCall_P (hidb h4) ?_
  conv => arg 1; whnf
  have ln5 := ln (h4.alloc (.cells [.int .i64 q00] 3)) (kept_alloc g3 (by omega))
  refine atCall_P ln5 ?_
  clear ln5
  generalize hh_h5 : h4.alloc (.cells [.int .i64 q00] 3) = h5 at *
  obtain ⟨a_td, n_td, k_h5⟩ := alloc_facts hh_h5
  replace g3 := k_h5 _ _ g3 (by omega)
  replace gr := k_h5 _ _ gr (by omega)
  replace a_sn := k_h5 _ _ a_sn (by omega)
  clear hh_h5 k_h5
  generalize hi_td : h4.next = td at *
  clear hi_td
  conv => arg 1; whnf
  refine atCall_P (hfirst h5) ?_
  rcases hfv2 with hfv2 | ⟨ys, cc, hfv2⟩
  all_goals
    subst hfv2
    conv => arg 1; whnf
    refine lR2 (c := c) (w := w) (f := nt.free) call rgn n s nt.cells (linksOf nt.wires) all lk first hx hc isa isf hm0 (by omega) hfl W hP2 (by omega) (by omega) (by omega) (R := R) ?_ (nt.cells.length + 1) n (zr := 0) (L := [q00]) (S := []) (by omega) rfl (by simp; omega) (by simp; omega) (by simp only [List.mem_singleton, forall_eq]; omega) hR g3 gr a_sn (by omega) ⟨td, .known 1, [.int .i64 q00], rfl, a_td, rfl, by simp, by omega, by omega, .inl ⟨rfl, rfl⟩⟩
    intro h6 g0 g1 g2 g4 g5 g6 g7 g8 g9 aA aC aD aE aF aG aH aI aJ aK aL aM aN aO aP aQ aR aS aT aU aV aW aX aY aZ bA bB bC bD bE bF bG bH bI bJ bK bL bM bN bO bP bQ bR bS bT bU bV bW bX bY bZ cA cB cC cD cE cF cG cH cI cJ cK cL cM cO cP cQ cT cU cV cW cX cY cZ dA dB dC dD dE dF dG dH dI dJ dK dL dM dN dO dP dQ dR dS dT dU dV dW dX dY dZ eA eB eC eD eE eF eG eH eI eJ eK eL eM eN eO eP eQ eR eS eT eU eV e3
    conv => arg 1; whnf
    refine atCall_P (lc h6 e3) ?_
    conv => arg 1; whnf
    refine atCall_P (hlc h6) ?_
    conv => arg 1; whnf
    exact atLeave_P (leave_plain (.inl rfl) rfl) (hQ _ _ hqR)

theorem mkEv_addy {P : Program} {mu mu' : FuncId → Nat → Bool} {hk hk0 : Hooks} {f : FuncId} {s : List AV → Option AV} (hE : EvOK (mkEv P mu hk)) (hE0 : EvOK (mkEv P mu' hk0))
    (hs : ∀ args v, s args = some v → plainV v = true ∧ ∃ n h', evCall (mkEv P mu' hk0) n (.func f) args .empty = some (.ret v, h')) : EvOK (mkEv P mu (addHk hk f s)) where
  hk := fun g args hh v hh' h ρ w cargs hR hb ha => by
    by_cases hg : g = f
    · subst hg
      obtain ⟨hfr, h', rfl⟩ := addHk_inv h
      obtain ⟨p2, n, h1, he⟩ := hs _ v h'
      exact ev_hook2 hE0 he hR ha hfr p2
    · have h' : hk g args hh = some (v, hh') := by rw [← addHk_other hk s args hh hg]; exact h
      exact hE.hk g args hh v hh' h' ρ w cargs hR hb ha
  ng := hE.ng
  rgn := hE.rgn

theorem fits22 : tabFits Tryz.prog (mu1 22) shT (codeOf Tryz.f22) = true := by kernel_rfl
def sRT : List AV → Option AV
  | [x, v] => match sigOf x, netOf v with | some s, some n => if n.wires.length ≤ 1000000 ∧ (netChk s n).1 = 0 then some (.bool (treeQ s n)) else none | _, _ => none
  | _ => none
def hkRT := addHk hkEr 22 sRT
theorem ERT : EvOK (mkEv Tryz.prog mu0 hkRT) := mkEv_addy EEr E1Er fun args v hs => by
  unfold sRT at hs; split at hs
  · rename_i x v'
    split at hs
    · rename_i s n h1 h2
      split at hs
      · rename_i hl
        cases hs
        refine ⟨rfl, ?_⟩
        obtain ⟨N, hN⟩ : ∃ N, N = n.wires.length + 1000001 := ⟨_, rfl⟩
        obtain ⟨h', hb⟩ := bRT (evCall (mkEv Tryz.prog mu1 hkEr) (N + 1)) (rg Tryz.prog mu1 hkEr (N + 1) 22) (N + 1) x v' s n (decL_inv h1) (netOf_inv h2) (good_of hl.2) hl.1 (hAl1_of (fun _ _ => rfl) (by omega)) (hF11_of (fun _ _ => rfl) (by omega)) (hP21_of (fun _ _ => rfl) (by omega)) (by omega)
          (fun v h hv => by
            obtain ⟨r, h', q0, q⟩ := bLk1 (evCall (mkEv Tryz.prog mu1 hkEr) N) (rg Tryz.prog mu1 hkEr N 57) N x v s n (decL_inv h1) hv (good_of hl.2) hl.1 (hF11_of (fun _ _ => rfl) (by omega)) (hPl1_of (fun _ _ => rfl) (by omega)) (by omega) h
            exact ⟨r, h', ev_of_cBodyS tab57 rfl Tryz.func57 rfl fits571 q0, q⟩) .empty
        exact ⟨_, h', ev_of_cBodyS shT rfl Tryz.func22 rfl fits22 hb⟩
      · cases hs
    · cases hs
  · cases hs
def hRT (call : CallT) : Prop := ∀ x v s n h, IsSig x s → IsNet v n → n.wires.length ≤ 1000000 → (netChk s n).1 = 0 → call (.func 22) [x, v] h = some (.ret (.bool (treeQ s n)), h)
theorem hRT_of {hk : Hooks} {n : Nat} (hk' : ∀ args h, hk 22 args h = hkRT 22 args h) (hn : 0 < n) : hRT (evCall (mkEv Tryz.prog mu0 hk) n) := fun x v s nt h hx hv hl h0 => ev_hk (by
  rw [hk']
  refine hk_top (by simp [freeL, sig_free hx, net_free hv]) ?_
  show (match sigOf (weakV x), netOf (weakV v) with | some s, some n => if n.wires.length ≤ 1000000 ∧ (netChk s n).1 = 0 then some (AV.bool (treeQ s n)) else none | _, _ => none) = _
  rw [sigOf_of hx, netOf_of hv]; simp only [if_pos (And.intro hl h0)]) hn
theorem cp_ints {call : CallT} {Y : List Int} {h : AH} {x : AV} (hx : IsL x (Y.map intV)) (hb : Y.length ≤ 1000000000) :
    ∃ l' h', aBuiltin ⟨Tryz.prog, mu0, call⟩ false .append #[40, 40] [.nilsl, x] h = some (.ret l', h') ∧ IsN intV l' Y ∧ Grow h' l' (Y.map intV) ∧ h.next.nat ≤ h'.next.nat ∧ (∀ q o, h.get q = some o → NotGrp h q → q.nat < h.next.nat → h'.get q = some o) := by
  by_cases hY : Y = []
  · subst hY
    have ht : Tryz.prog.underlying 40 = some (.slice 3) := by kernel_rfl
    have hn : sizeT Tryz.prog 3 = some 1 := by kernel_rfl
    have hz : zeroT Tryz.prog 3 = some (.int .i64 0) := by kernel_rfl
    have hel : aElems Tryz.prog 3 x h = some [] := by rcases hx with ⟨rfl, h1⟩ | ⟨c, rfl⟩ <;> simp_all [aElems]
    refine ⟨.nilsl, h, ?_, .inl ⟨rfl, rfl⟩, .inl ⟨rfl, rfl⟩, Nat.le_refl _, fun q o hq _ _ => hq⟩
    show vhOf (aAppend Tryz.prog false #[40, 40] .nilsl x h) = _
    have : aAppend Tryz.prog false #[40, 40] .nilsl x h = some (.nilsl, h) := by
      unfold aAppend
      simp only [show (#[40, 40] : Array TypeId)[0]? = some 40 from rfl, show (#[40, 40] : Array TypeId)[1]? = some 40 from rfl, ht, hel, hn, hz]
      rw [if_neg (by simp [headOk, AV.cells, AV.scalar])]
      simp
    rw [this]; rfl
  · obtain ⟨l', h', a1, _, a2, a3, a4⟩ := app_ints (call := call) (W := []) (Y := Y) (h := h) (l := .nilsl) (x := x) (.inl (.inl ⟨rfl, rfl⟩)) hx (by simpa using hb)
    have hg := a2 hY
    rw [List.nil_append] at hg
    exact ⟨l', h', a1, IsN.of_grow hg, hg, a3, a4⟩

theorem len_H {X : Cx} {t e : TypeId} {r : Sk.Id} {m : Nat} {h : AH} (ht : X.P.underlying t = some (.slice e)) : aBuiltin X false .len #[t] [.hsl r 0 m (.known m)] h = some (.ret (.int .i64 m), h) := by
  simp [aBuiltin, aLen, ht, vOf]

def IsNetC (u : AV) (n : Nt) : Prop := ∃ c w, u = .agg [c, .int .i64 n.free, w] ∧ IsN intV c n.cells ∧ IsN wireV w n.wires

section
variable {n0 : Nat} {gg : AH} {i8 i9 r : Sk.Id} {av cl : AV} {f : Int} {m0 : Nat}

theorem KeptC.app {n0 : Nat} {g h h' : AH} (hk : KeptC n0 g h) (ha : ∀ q o, h.get q = some o → NotGrp h q → q.nat < h.next.nat → h'.get q = some o) (hn : h.next.nat ≤ h'.next.nat) : KeptC n0 g h' :=
  ⟨fun q o hq hg hlt => ha q o (hk.1 q o hq hg hlt) (fun n hn => by rw [hk.1 q o hq hg hlt] at hn; exact hg n (by simpa using hn)) (Nat.lt_of_lt_of_le hlt hk.2), Nat.le_trans hk.2 hn⟩

structure InvN (n0 : Nat) (gg : AH) (i8 i9 r : Sk.Id) (cl : AV) (f : Int) (lk : List Int) (W : List Wr) (h : AH) : Prop where
  g8 : h.get i8 = some (.cells [.nilsl, .int .i64 0, .nilsl] 43)
  g9 : ∃ wl, h.get i9 = some (.cells [cl, .int .i64 f, wl] 43) ∧ Grow h wl (W.map wireV)
  gr : h.get r = some (.cells (lk.map intV) 3)
  o1 : r.nat < i8.nat
  o2 : i8.nat < i9.nat
  lt : i9.nat < h.next.nat
  kc : KeptC n0 gg h

theorem one_wireG {call : CallT} {W : List Wr} {t : Wr} {h : AH} {l : AV} (hl : Grow h l (W.map wireV)) (hb : W.length ≤ 100000000) :
    ∃ l' h', aBuiltin ⟨Tryz.prog, mu0, call⟩ false .append #[41, 41] [l, .vsl [wireV t] .lit] h = some (.ret l', h') ∧ Grow h' l' ((W ++ [t]).map wireV) ∧ h.next.nat ≤ h'.next.nat ∧ (∀ q o, h.get q = some o → NotGrp h q → q.nat < h.next.nat → h'.get q = some o) := by
  obtain ⟨l', h', a1, _, a2, a3, a4⟩ := app_wires (call := call) (W := W) (Y := [t]) (h := h) (l := l) (x := .vsl [wireV t] .lit) (.inl hl) (.inr ⟨_, rfl⟩) (by simp; omega)
  exact ⟨l', h', a1, a2 (by simp), a3, a4⟩

theorem lNt (call rgn n) (on : n0 ≤ i8.nat) (all : List Pt) (lk : List Int) (ha : IsL av (all.map portV)) (hm0 : all.length = m0) (hml : m0 ≤ 1000000) (hll : lk.length = m0) (hb : ∀ (i : Nat) (b : Int), lk[i]? = some b → 0 ≤ b ∧ b < m0) (hrg : ∀ id ops st, rgn id ops st = drawn ⟨Tryz.prog, mu0, call⟩ 86 ops st) {T : List Wr}
    {K : KC (AOut × AH)} {Q : Option (AOut × AH) → Prop} (hN : ¬ Q none)
    (hK : ∀ {h : AH} {g0 g1 g2 g3 g4 g5 g6 g7 aA aB aC aD aE aF aG aH aI aJ aK aL aM aN aO aP aQ aR aS aT aU aV aW aX aY aZ bA bB bC bD bE bF bG bH bI bJ bK bL bM bN bO bP : AV}, InvN n0 gg i8 i9 r cl f lk T h → Q (K (.exit 0) ⟨(g0::g1::g2::g3::g4::g5::g6::g7::.ptr i8 0::.ptr i9 0::aA::aB::aC::aD::aE::aF::aG::aH::aI::aJ::aK::aL::aM::aN::aO::aP::aQ::aR::aS::aT::aU::aV::aW::aX::aY::aZ::bA::bB::bC::bD::bE::bF::bG::bH::bI::bJ::bK::bL::bM::bN::bO::bP::[]), [], h⟩)) :
    ∀ (m i : Nat) {z : Int} {W : List Wr} {h : AH} {g0 g1 g2 g4 g5 g6 g7 aC aD aE aF aG aH aI aJ aK aL aM aN aO aP aQ aR aS aT aU aV aW aX aY aZ bA bB bC bD bE bF bG bH bI bJ bK bL bM bN bO bP : AV}, z = i → i ≤ lk.length → lk.length - i < m → W.length ≤ i → W ++ neatF all (lk.drop i) i = T → InvN n0 gg i8 i9 r cl f lk W h →
    Q (cIter (LB shT call rgn n 86 Tryz.f86 0) m ⟨(g0::g1::g2::.hsl r 0 m0 (.known m0)::g4::g5::g6::g7::.ptr i8 0::.ptr i9 0::av::.int .i64 z::aC::aD::aE::aF::aG::aH::aI::aJ::aK::aL::aM::aN::aO::aP::aQ::aR::aS::aT::aU::aV::aW::aX::aY::aZ::bA::bB::bC::bD::bE::bF::bG::bH::bI::bJ::bK::bL::bM::bN::bO::bP::[]), [], h⟩ K) := by
  have u : Tryz.prog.underlying 84 = some (.slice 60) := by kernel_rfl
  have ui : Tryz.prog.underlying 40 = some (.slice 3) := by kernel_rfl
  have hlen := fun h => len_H (X := ⟨Tryz.prog, mu0, call⟩) (r := r) (m := m0) (h := h) ui
  intro m
  induction m with
  | zero => intros; omega
  | succ m ih =>
    intro i z W h g0 g1 g2 g4 g5 g6 g7 aC aD aE aF aG aH aI aJ aK aL aM aN aO aP aQ aR aS aT aU aV aW aX aY aZ bA bB bC bD bE bF bG bH bI bJ bK bL bM bN bO bP hz hi hm hW hT hI
    rw [cIter_succ]
    conv => arg 1; whnf
    refine atCall_P (hlen h) ?_
    conv => arg 1; whnf
    split
    · rename_i hd
      have hlt : i < lk.length := by simp at hd; omega
      obtain ⟨g8, ⟨wl, g9, gw⟩, gr, o1, o2, lt, kc⟩ := hI
      have hdrop : lk.drop i = lk[i] :: lk.drop (i + 1) := List.drop_eq_getElem_cons hlt
      have hgi : lk[i]? = some lk[i] := List.getElem?_eq_getElem hlt
      obtain ⟨b0, bm⟩ := hb i _ hgi
      rw [hdrop] at hT
      simp only [neatF] at hT
      generalize lk[i] = b at hgi b0 bm hT
      have hz' : IntKind.i64.wrap (z + 1) = ((i + 1 : Nat) : Int) := by rw [hz]; exact wrap_succ (by omega)
      have ia := fun h => hix (r := r) (m := m0) (a := z) (h := h) ui (by kernel_rfl) (by omega) (by omega)
      have la : ∀ h, h.get r = some (.cells (lk.map intV) 3) → vOf h (aLoad Tryz.prog 3 (.ptr r (0 + z.toNat * 1)) h) = some (.ret (.int .i64 b), h) := fun h gr => hld (v := .int .i64 b) gr (by kernel_rfl) (by kernel_rfl) (by rw [List.getElem?_map, hz, Int.toNat_natCast, hgi]; rfl)
      conv => arg 1; whnf
      refine atCall_P (ia h) ?_
      conv => arg 1; whnf
      refine atCall_P (la h gr) ?_
      conv => arg 1; whnf
      cases e1 : decide (b > z)
      · have hn : ¬ b > (i : Int) := by simp at e1; omega
        rw [if_neg hn] at hT
        conv => arg 1; whnf
        exact ih (i + 1) hz' (by omega) (by omega) (by omega) hT ⟨g8, ⟨wl, g9, gw⟩, gr, o1, o2, lt, kc⟩
      · have hn : b > (i : Int) := by simp at e1; omega
        rw [if_pos hn] at hT
        have hgi2 : all[i]? = some all[i] := List.getElem?_eq_getElem (by omega)
        have hgb2 : all[b.toNat]? = some all[b.toNat] := List.getElem?_eq_getElem (by omega)
        rw [getD_some hgi2, getD_some hgb2] at hT
        have hg : (all.map portV)[i]? = some (portV all[i]) := by rw [List.getElem?_map, hgi2]; rfl
        have hgb : (all.map portV)[b.toNat]? = some (portV all[b.toNat]) := by rw [List.getElem?_map, hgb2]; rfl
        have hidx := fun h => idx_L (P := Tryz.prog) (t := 84) (e := 60) (n := 2) (h := h) (k := .i64) u (by kernel_rfl) ha hz hg rfl
        have hidb := fun h => idx_L (P := Tryz.prog) (t := 84) (e := 60) (n := 2) (h := h) (k := .i64) (i := b.toNat) u (by kernel_rfl) ha (show b = ((b.toNat : Nat) : Int) by omega) hgb rfl
        generalize all[i] = p at hidx hT
        generalize all[b.toNat] = q at hidb hT
        obtain ⟨p0, p1⟩ := p
        obtain ⟨q0, q1⟩ := q
        have lw : ∀ h, h.get i9 = some (.cells [cl, .int .i64 f, wl] 43) → vOf h (aLoad Tryz.prog 41 (.ptr i9 2) h) = some (.ret wl, h) := fun h g => ld_ptr (n := 1) g (by kernel_rfl) (by kernel_rfl) rfl
        obtain ⟨wl', h2, r1, r2, r3, r4⟩ := one_wireG (call := call) (t := (p0, p1, q0, q1)) gw (by omega)
        conv => arg 1; whnf
        refine atRgn_N true (fun hh => hh.get i9 = some (.cells [cl, .int .i64 f, wl] 43) ∧ hh.get r = some (.cells (lk.map intV) 3)) (T := [0, 1, 0, 0, 12, 28, 0, 0, 0, 384, 896, 1984, 4032, 8188, 16380, 32767, 65535, 131071]) (ord := [0, 1, 2, 3, 4, 5, 6, 7, 8, 9, 10, 11, 12, 13, 14, 15, 16, 17]) (by kernel_rfl) (hrg _ _ _) hN ?_
        conv => arg 1; whnf
        refine atCall_P (lw h g9) ?_
        conv => arg 1; whnf
        refine atCall_P (hidx h) ?_
        conv => arg 1; whnf
        refine atCall_P (ia h) ?_
        conv => arg 1; whnf
        refine atCall_P (la h gr) ?_
        conv => arg 1; whnf
        refine atCall_P (hidb h) ?_
        conv => arg 1; whnf
        refine atCall_P (r1) ?_
        have e9 := r4 _ _ g9 (notGrp g9) lt
        have er := r4 _ _ gr (notGrp gr) (by omega)
        have e8 := r4 _ _ g8 (notGrp g8) (by omega)
        have hls : wl'.scalar = true := isL_scalar (grow_isL r2)
        have st : hOf (aStore Tryz.prog 41 (.ptr i9 2) wl' h2) = some (.ret undefA, h2.set i9 (.cells [cl, .int .i64 f, wl'] 43)) := by
          have hcl : wl'.cells = [wl'] := isL_cells (grow_isL r2)
          rw [st_ptr (n := 1) e9 (by kernel_rfl) (by rw [hcl]; rfl) (by simp) (by rw [hcl]; simp only [List.all_cons, hls, List.all_nil]; rfl), hcl]; rfl
        conv => arg 1; whnf
        refine atCall_P (st) ?_
        conv => arg 1; whnf
        refine atP_P ⟨?_, (fun k hk hp => match k, hk, hp with
          | 0, _, _ => ⟨g9, gr⟩
          | 1, _, hp => no_pos hp (by kernel_rfl)
          | 2, _, hp => no_pos hp (by kernel_rfl)
          | k + 3, hk, hp => absurd hk (by simp)), (fun a ha => by cases ha), rfl⟩ ?_
        · refine ⟨trivial, fun _ hh g => ⟨hh, lw hh g.1⟩, trivial, trivial, trivial, fun _ hh g => ⟨hh, rfl⟩, trivial, trivial, trivial, trivial, fun _ hh g => ⟨hh, la hh g.2⟩, trivial, fun _ hh g => ⟨hh, rfl⟩, trivial, trivial, trivial, trivial, trivial, trivial⟩
        have gw3 := grow_set r2 (.cells [cl, .int .i64 f, wl'] 43) (notGrp e9)
        clear st
        have kc2 := kc.app r4 r3
        generalize hh_h3 : h2.set i9 (.cells [cl, .int .i64 f, wl'] 43) = h3 at *
        obtain ⟨b_i9, n_h3, k_h3⟩ := set_facts hh_h3
        replace e8 := k_h3 _ _ e8 (by rintro rfl; omega)
        replace er := k_h3 _ _ er (by rintro rfl; omega)
        replace kc2 : KeptC _ _ h3 := hh_h3 ▸ kc2.set _ (by omega)
        clear hh_h3 k_h3
        replace n_h3 : h3.next.nat = h2.next.nat := congrArg Id.nat n_h3
        conv => arg 1; whnf
        exact ih (i + 1) hz' (by omega) (by omega) (by simp; omega) (by rw [List.append_assoc]; exact hT) ⟨e8, ⟨wl', b_i9, gw3⟩, er, o1, o2, by omega, kc2⟩
    · rename_i hd
      have hlt : ¬ i < lk.length := by simp at hd; omega
      rw [List.drop_eq_nil_of_le (by omega)] at hT
      simp only [neatF, List.append_nil] at hT
      subst hT
      exact hK hI
end

set_option maxHeartbeats 1000000 in
theorem bNt (call rgn n) (x cv : AV) (r : Sk.Id) (s : List Ag) (nt : Nt) (lk : List Int) (m0 : Nat) (hx : IsSig x s) (hc : IsL cv (nt.cells.map intV)) (ho : okF s ⟨nt.cells, nt.free, []⟩) (hAl : hAl call) (hm0 : (portsL s nt).length = m0) (hml : m0 ≤ 1000000) (hll : lk.length = m0) (hb : ∀ (i : Nat) (b : Int), lk[i]? = some b → 0 ≤ b ∧ b < m0) (hn : 1000000 < n)
    (hrg : ∀ id ops st, rgn id ops st = drawn ⟨Tryz.prog, mu0, call⟩ 86 ops st) (h : AH) (gr : h.get r = some (.cells (lk.map intV) 3)) (lr : r.nat < h.next.nat) :
    ∃ u h', B shT call rgn n 86 Tryz.f86 [x, cv, .int .i64 nt.free, .hsl r 0 m0 (.known m0)] h = some (.ret u, h') ∧ IsNetC u ⟨nt.cells, nt.free, neatF (portsL s nt) lk 0⟩ ∧ KeptC h.next.nat h h' := by
  suffices hq : ∀ Q : Option (AOut × AH) → Prop, ¬ Q none → (∀ u h', IsNetC u ⟨nt.cells, nt.free, neatF (portsL s nt) lk 0⟩ → KeptC h.next.nat h h' → Q (some (.ret u, h'))) → Q (B shT call rgn n 86 Tryz.f86 [x, cv, .int .i64 nt.free, .hsl r 0 m0 (.known m0)] h) from
    hq (fun y => ∃ u h', y = some (.ret u, h') ∧ IsNetC u ⟨nt.cells, nt.free, neatF (portsL s nt) lk 0⟩ ∧ KeptC h.next.nat h h') (by rintro ⟨_, _, h, _⟩; cases h) (fun u h' h1 h2 => ⟨u, h', rfl, h1, h2⟩)
  intro Q hN hQ
  have kc0 : KeptC h.next.nat h h := ⟨fun q o hq _ _ => hq, Nat.le_refl _⟩
  generalize hn0 : h.next.nat = n0 at kc0 hQ
  obtain ⟨gg, hgg⟩ : ∃ gg, gg = h := ⟨h, rfl⟩
  have kc : KeptC n0 gg h := by rw [hgg]; exact kc0
  rw [← hgg] at hQ
  clear hgg kc0
  have hcs := isL_scalar hc
  have fin : ∀ (hh : AH) (c0 w0 : AV), IsNetC (.agg [c0, .int .i64 nt.free, w0]) ⟨nt.cells, nt.free, neatF (portsL s nt) lk 0⟩ → KeptC n0 gg hh → ∀ {i8 : Sk.Id}, hh.get i8 = some (.cells [c0, .int .i64 nt.free, w0] 43) → ∀ {g0 g1 g2 g3 g4 g5 g6 g7 g9 aA aB aC aD aE aF aG aH aI aJ aK aL aM aN aO aP aQ aR aS aT aU aV aW aX aY aZ bA bB bC bD bE bF bG bH bI bJ bK bL bM bN bO bP : AV}, Q (atLeave Tryz.prog Tryz.f86 .ret ⟨(g0::g1::g2::g3::g4::g5::g6::g7::.ptr i8 0::g9::aA::aB::aC::aD::aE::aF::aG::aH::aI::aJ::aK::aL::aM::aN::aO::aP::aQ::aR::aS::aT::aU::aV::aW::aX::aY::aZ::bA::bB::bC::bD::bE::bF::bG::bH::bI::bJ::bK::bL::bM::bN::bO::bP::[]), [], hh⟩) := by
    intro hh c0 w0 he hk i8 hg
    intros
    have ld : aLoad Tryz.prog 43 (.ptr i8 0) hh = some (.agg [c0, .int .i64 nt.free, w0]) := ld_val (ld_agg (r := i8) (off := 0) (cs := [c0, .int .i64 nt.free, w0]) (T := 43) (n := 3) hg (by kernel_rfl) (by kernel_rfl) (by simp))
    refine atLeave_P (leave_plain (.inl rfl) (l := [.agg [c0, .int .i64 nt.free, w0]]) ?_) (hQ _ _ he hk)
    show (match aLoad Tryz.prog 43 (.ptr i8 0) hh, some ([] : List AV) with | some v, some l => some (v :: l) | _, _ => none) = _
    rw [ld]
  conv => arg 1; whnf
  refine atCall_P (alloc_new (z := .agg [.nilsl, .int .i64 0, .nilsl]) (cs := [.nilsl, .int .i64 0, .nilsl]) (by kernel_rfl) rfl rfl) ?_
  generalize hh_h1 : h.alloc (.cells [.nilsl, .int .i64 0, .nilsl] 43) = h1 at *
  obtain ⟨a_i8, n_i8, k_h1⟩ := alloc_facts hh_h1
  replace gr := k_h1 _ _ gr (by omega)
  replace kc : KeptC _ _ h1 := hh_h1 ▸ kc.alloc _
  clear hh_h1 k_h1
  generalize hi_i8 : h.next = i8 at *
  clear hi_i8
  conv => arg 1; whnf
  refine atCall_P (alloc_new (z := .agg [.nilsl, .int .i64 0, .nilsl]) (cs := [.nilsl, .int .i64 0, .nilsl]) (by kernel_rfl) rfl rfl) ?_
  generalize hh_h2 : h1.alloc (.cells [.nilsl, .int .i64 0, .nilsl] 43) = h2 at *
  obtain ⟨a_i9, n_i9, k_h2⟩ := alloc_facts hh_h2
  replace gr := k_h2 _ _ gr (by omega)
  replace a_i8 := k_h2 _ _ a_i8 (by omega)
  replace kc : KeptC _ _ h2 := hh_h2 ▸ kc.alloc _
  clear hh_h2 k_h2
  generalize hi_i9 : h1.next = i9 at *
  clear hi_i9
  have st : hOf (aStore Tryz.prog 43 (.ptr i9 0) (.agg [.nilsl, .int .i64 nt.free, .nilsl]) h2) = some (.ret undefA, h2.set i9 (.cells [.nilsl, .int .i64 nt.free, .nilsl] 43)) := st_ptr (n := 3) a_i9 (by kernel_rfl) rfl (by simp) rfl
  conv => arg 1; whnf
  refine atCall_P (st) ?_
  clear st
  generalize hh_h3 : h2.set i9 (.cells [.nilsl, .int .i64 nt.free, .nilsl] 43) = h3 at *
  obtain ⟨b_i9, n_h3, k_h3⟩ := set_facts hh_h3
  replace gr := k_h3 _ _ gr (by rintro rfl; omega)
  replace a_i8 := k_h3 _ _ a_i8 (by rintro rfl; omega)
  replace kc : KeptC _ _ h3 := hh_h3 ▸ kc.set _ (by omega)
  clear hh_h3 k_h3
  replace n_h3 : h3.next.nat = h2.next.nat := congrArg Id.nat n_h3
  have l0 : vOf h3 (aLoad Tryz.prog 40 (.ptr i9 0) h3) = some (.ret .nilsl, h3) := ld_ptr (n := 1) b_i9 (by kernel_rfl) (by kernel_rfl) rfl
  conv => arg 1; whnf
  refine atCall_P (l0) ?_
  obtain ⟨l1, h4, r1, r2, r3, r4, r5⟩ := cp_ints (call := call) (h := h3) hc (by have := ho.2.1; simp at this; omega)
  conv => arg 1; whnf
  refine atCall_P (r1) ?_
  have e9 := r5 _ _ b_i9 (notGrp b_i9) (by omega)
  have e8 := r5 _ _ a_i8 (notGrp a_i8) (by omega)
  have er := r5 _ _ gr (notGrp gr) (by omega)
  replace kc := kc.app r5 r4
  have hl1 := isL_scalar r2.isL
  have st : hOf (aStore Tryz.prog 40 (.ptr i9 0) l1 h4) = some (.ret undefA, h4.set i9 (.cells [l1, .int .i64 nt.free, .nilsl] 43)) := by
    have hcl : l1.cells = [l1] := isL_cells r2.isL
    rw [st_ptr (n := 1) e9 (by kernel_rfl) (by rw [hcl]; rfl) (by simp) (by rw [hcl]; simp only [List.all_cons, hl1, List.all_nil]; rfl), hcl]; rfl
  conv => arg 1; whnf
  refine atCall_P (st) ?_
  clear st l0 r1 r5
  generalize hh_h5 : h4.set i9 (.cells [l1, .int .i64 nt.free, .nilsl] 43) = h5 at *
  obtain ⟨b_i9, n_h5, k_h5⟩ := set_facts hh_h5
  replace er := k_h5 _ _ er (by rintro rfl; omega)
  replace e8 := k_h5 _ _ e8 (by rintro rfl; omega)
  replace kc : KeptC _ _ h5 := hh_h5 ▸ kc.set _ (by omega)
  clear hh_h5 k_h5
  replace n_h5 : h5.next.nat = h4.next.nat := congrArg Id.nat n_h5
  have ln : vOf h5 (aLoad Tryz.prog 43 (.ptr i9 0) h5) = some (.ret (.agg [l1, .int .i64 nt.free, .nilsl]), h5) := ld_agg (n := 3) b_i9 (by kernel_rfl) (by kernel_rfl) (by simp)
  have pA := hAl x (.agg [l1, .int .i64 nt.free, .nilsl]) s ⟨nt.cells, nt.free, []⟩ h5 hx ⟨_, _, rfl, r2.isL, .inl ⟨rfl, rfl⟩⟩ ho
  rw [show portsL s ⟨nt.cells, nt.free, []⟩ = portsL s nt from rfl] at pA
  have isa := listW_isL (enc := portV) (portsL s nt)
  generalize listW portV (portsL s nt) = av at isa pA
  conv => arg 1; whnf
  refine atCall_P (ln) ?_
  conv => arg 1; whnf
  refine atCall_P (pA) ?_
  conv => arg 1; whnf
  refine lNt (n0 := n0) (gg := gg) (cl := l1) (f := nt.free) call rgn n (by omega) (portsL s nt) lk isa hm0 hml hll hb hrg (T := neatF (portsL s nt) lk 0) hN ?_ n 0 (z := 0) (W := []) rfl (Nat.zero_le _) (by omega) (Nat.le_refl _) (by rw [List.drop_zero]; rfl) ⟨e8, ⟨.nilsl, b_i9, .inl ⟨rfl, rfl⟩⟩, er, by omega, by omega, by omega, kc⟩
  intro h6 g0 g1 g2 g3 g4 g5 g6 g7 aA aB aC aD aE aF aG aH aI aJ aK aL aM aN aO aP aQ aR aS aT aU aV aW aX aY aZ bA bB bC bD bE bF bG bH bI bJ bK bL bM bN bO bP hI
  obtain ⟨f8, ⟨wl, f9, gw⟩, fr, p1, p2, p3, kd⟩ := hI
  have ln2 : vOf h6 (aLoad Tryz.prog 43 (.ptr i9 0) h6) = some (.ret (.agg [l1, .int .i64 nt.free, wl]), h6) := ld_agg (n := 3) f9 (by kernel_rfl) (by kernel_rfl) (by simp)
  have hls := isL_scalar (grow_isL gw)
  have st2 : hOf (aStore Tryz.prog 43 (.ptr i8 0) (.agg [l1, .int .i64 nt.free, wl]) h6) = some (.ret undefA, h6.set i8 (.cells [l1, .int .i64 nt.free, wl] 43)) := st_ptr (n := 3) f8 (by kernel_rfl) rfl (by simp) (by show (l1.scalar && (true && (wl.scalar && true))) = true; rw [hl1, hls]; rfl)
  conv => arg 1; whnf
  refine atCall_P (ln2) ?_
  conv => arg 1; whnf
  refine atCall_P (st2) ?_
  conv => arg 1; whnf
  exact fin _ _ _ ⟨_, _, rfl, r2, IsN.of_grow gw⟩ (kd.set _ (by omega)) (by rw [AH.get_set, if_pos rfl])
theorem bNe (call rgn n) (x v : AV) (s : List Ag) (nt : Nt) (hx : IsSig x s) (hv : IsNet v nt) (N' : Nt) (hf' : N'.free = nt.free) (lk : List Int) (m0 : Nat)
    (hLk : ∀ v h, IsNet v nt → ∃ r h', call (.func 57) [x, v] h = some (.ret (.hsl r 0 m0 (.known m0)), h') ∧ h'.get r = some (.cells (lk.map intV) 3) ∧ h.next.nat ≤ r.nat ∧ r.nat < h'.next.nat ∧ Kept h.next.nat h h')
    (hNt : ∀ (cv : AV) (r : Sk.Id) (h : AH), IsL cv (nt.cells.map intV) → h.get r = some (.cells (lk.map intV) 3) → r.nat < h.next.nat → ∃ u h', call (.func 86) [x, cv, .int .i64 nt.free, .hsl r 0 m0 (.known m0)] h = some (.ret u, h') ∧ IsNetC u N' ∧ KeptC h.next.nat h h')
    (hrg : ∀ id ops st, rgn id ops st = drawn ⟨Tryz.prog, mu0, call⟩ 48 ops st) (h : AH) :
    ∃ u h', B shT call rgn n 48 Tryz.f48 [x, v] h = some (.ret u, h') ∧ IsNetC u N' := by
  suffices hq : ∀ Q : Option (AOut × AH) → Prop, ¬ Q none → (∀ u h', IsNetC u N' → Q (some (.ret u, h'))) → Q (B shT call rgn n 48 Tryz.f48 [x, v] h) from
    hq (fun y => ∃ u h', y = some (.ret u, h') ∧ IsNetC u N') (by rintro ⟨_, _, h, _⟩; cases h) (fun u h' h1 => ⟨u, h', rfl, h1⟩)
  intro Q hN hQ
  have hv0 := hv
  obtain ⟨c, w, rfl, hc, hw⟩ := hv
  have hcs := isL_scalar hc
  have hws := isL_scalar hw
  conv => arg 1; whnf
  refine atCall_P (box_new (cs := [c, .int .i64 nt.free, w]) rfl (by simp only [List.all_cons, hcs, hws, List.all_nil]; rfl)) ?_
  generalize hh_h1 : h.alloc (.cells [c, .int .i64 nt.free, w] 43) = h1 at *
  obtain ⟨a_i3, n_i3, k_h1⟩ := alloc_facts hh_h1
  clear hh_h1 k_h1
  generalize hi_i3 : h.next = i3 at *
  clear hi_i3
  conv => arg 1; whnf
  refine atCall_P (alloc_new (z := .agg [.nilsl, .int .i64 0, .nilsl]) (cs := [.nilsl, .int .i64 0, .nilsl]) (by kernel_rfl) rfl rfl) ?_
  generalize hh_h2 : h1.alloc (.cells [.nilsl, .int .i64 0, .nilsl] 43) = h2 at *
  obtain ⟨a_i4, n_i4, k_h2⟩ := alloc_facts hh_h2
  replace a_i3 := k_h2 _ _ a_i3 (by omega)
  clear hh_h2 k_h2
  generalize hi_i4 : h1.next = i4 at *
  clear hi_i4
  have ln : ∀ h, h.get i3 = some (.cells [c, .int .i64 nt.free, w] 43) → vOf h (aLoad Tryz.prog 43 (.ptr i3 0) h) = some (.ret (.agg [c, .int .i64 nt.free, w]), h) := fun h g => ld_agg (n := 3) g (by kernel_rfl) (by kernel_rfl) (by simp)
  have lc : ∀ h, h.get i3 = some (.cells [c, .int .i64 nt.free, w] 43) → vOf h (aLoad Tryz.prog 40 (.ptr i3 0) h) = some (.ret c, h) := fun h g => ld_ptr (n := 1) g (by kernel_rfl) (by kernel_rfl) rfl
  have lf : ∀ h, h.get i3 = some (.cells [c, .int .i64 nt.free, w] 43) → vOf h (aLoad Tryz.prog 3 (.ptr i3 1) h) = some (.ret (.int .i64 nt.free), h) := fun h g => ld_ptr (n := 1) g (by kernel_rfl) (by kernel_rfl) rfl
  obtain ⟨r, h3, q1, q2, q3, q4, q5⟩ := hLk (.agg [c, .int .i64 nt.free, w]) h2 hv0
  have e3 := q5.1 _ _ a_i3 (by omega)
  have e4 := q5.1 _ _ a_i4 (by omega)
  have n3 := q5.2
  obtain ⟨u, h4, r1, r2, r3⟩ := hNt c r h3 hc q2 q4
  have f4 := r3.1 _ _ e4 (fun n => by simp) (by omega)
  obtain ⟨c0, w0, rfl, s1, s2⟩ := r2
  have t1 := isL_scalar s1.isL
  have t2 := isL_scalar s2.isL
  have st : hOf (aStore Tryz.prog 43 (.ptr i4 0) (.agg [c0, .int .i64 N'.free, w0]) h4) = some (.ret undefA, h4.set i4 (.cells [c0, .int .i64 N'.free, w0] 43)) := st_ptr (n := 3) f4 (by kernel_rfl) rfl (by simp) (by show (c0.scalar && (true && (w0.scalar && true))) = true; rw [t1, t2]; rfl)
  conv => arg 1; whnf
  refine atRgn_N true (fun hh => hh.get i3 = some (.cells [c, .int .i64 nt.free, w] 43)) (T := [0, 0, 2, 0, 8, 0, 0, 96, 255, 511]) (ord := [0, 1, 2, 3, 4, 5, 6, 7, 8, 9]) (by kernel_rfl) (hrg _ _ _) hN ?_
  conv => arg 1; whnf
  refine atCall_P (lc h2 a_i3) ?_
  conv => arg 1; whnf
  refine atCall_P (lf h2 a_i3) ?_
  conv => arg 1; whnf
  refine atCall_P (ln h2 a_i3) ?_
  conv => arg 1; whnf
  refine atCall_P (q1) ?_
  conv => arg 1; whnf
  refine atCall_P (r1) ?_
  conv => arg 1; whnf
  refine atCall_P (st) ?_
  conv => arg 1; whnf
  refine atP_P ⟨?_, (fun k hk hp => match k, hk, hp with
    | 0, _, _ => a_i3
    | 1, _, _ => e3
    | 2, _, hp => no_pos hp (by kernel_rfl)
    | 3, _, hp => no_pos hp (by kernel_rfl)
    | k + 4, hk, hp => absurd hk (by simp)), (fun a ha => by cases ha), rfl⟩ ?_
  · refine ⟨trivial, trivial, fun _ hh g => ⟨hh, lc hh g⟩, trivial, fun _ hh g => ⟨hh, lf hh g⟩, trivial, fun _ hh g => ⟨hh, ln hh g⟩, trivial, trivial, trivial, trivial⟩
  conv => arg 1; whnf
  have ld : aLoad Tryz.prog 43 (.ptr i4 0) (h4.set i4 (.cells [c0, .int .i64 N'.free, w0] 43)) = some (.agg [c0, .int .i64 N'.free, w0]) := ld_val (ld_agg (r := i4) (off := 0) (cs := [c0, .int .i64 N'.free, w0]) (T := 43) (n := 3) (by rw [AH.get_set, if_pos rfl]) (by kernel_rfl) (by kernel_rfl) (by simp))
  refine atLeave_P (leave_plain (.inl rfl) (l := [.agg [c0, .int .i64 N'.free, w0]]) ?_) (hQ _ _ ⟨_, _, rfl, s1, s2⟩)
  show (match aLoad Tryz.prog 43 (.ptr i4 0) (h4.set i4 (.cells [c0, .int .i64 N'.free, w0] 43)), some ([] : List AV) with | some v, some l => some (v :: l) | _, _ => none) = _
  rw [ld]

def sNe : List AV → Option AV
  | [x, v] => match sigOf x, netOf v with | some s, some n => if n.wires.length ≤ 1000000 ∧ (netChk s n).1 = 0 then some (netC (tidyN s n)) else none | _, _ => none
  | _ => none
def hkNe := addHk hkRT 48 sNe
theorem ENe : EvOK (mkEv Tryz.prog mu0 hkNe) := mkEv_add3 ERT fun args v hs => by
  unfold sNe at hs; split at hs
  · rename_i x v'
    split at hs
    · rename_i s n h1 h2
      split at hs
      · rename_i hl
        cases hs
        have g := good_of hl.2
        have hP := sigChk_ports g.sg
        have hml := ports_len' hP g.f1 g.cl
        have ho : okF s ⟨n.cells, n.free, []⟩ := ⟨g.sg, by have := g.cl; simp; omega, by have := g.f0; simp; omega, by have := g.f1; simp; omega, by simp⟩
        obtain ⟨N, hN⟩ : ∃ N, N = n.wires.length + 1000001 := ⟨_, rfl⟩
        obtain ⟨u, h', hb, hu⟩ := bNe (evCall (mkEv Tryz.prog mu0 hkRT) (N + 1)) (rg Tryz.prog mu0 hkRT (N + 1) 48) (N + 1) x v' s n (decL_inv h1) (netOf_inv h2) (tidyN s n) rfl (links03 s n n.wires (List.replicate (portsL s n).length 0)) (portsL s n).length
          (fun v h hv => by
            obtain ⟨r, h', q0, q⟩ := bLk (evCall (mkEv Tryz.prog mu0 hkRT) N) (rg Tryz.prog mu0 hkRT N 57) N x v s n (decL_inv h1) hv g hl.1 (hF1_of (fun _ _ => rfl) (by omega)) (hPl_of (fun _ _ => rfl) (by omega)) (by omega) h
            exact ⟨r, h', ev_of_cBodyS tab57 rfl Tryz.func57 rfl fits57 q0, q⟩)
          (fun cv r h hc gr lr => by
            obtain ⟨u, h', q0, q1, q2⟩ := bNt (evCall (mkEv Tryz.prog mu0 hkRT) N) (rg Tryz.prog mu0 hkRT N 86) N x cv r s n (links03 s n n.wires (List.replicate (portsL s n).length 0)) (portsL s n).length (decL_inv h1) hc ho (hAl_of (fun _ _ => rfl) (by omega)) rfl (by omega) (by rw [links03_len, List.length_replicate]) (fun i b hb => by
              rw [links_good g, List.getElem?_map] at hb
              cases hp : (portsL s n)[i]? with
              | none => rw [hp] at hb; cases hb
              | some p =>
                rw [hp] at hb
                obtain ⟨v, b', _, _, v3, v4, _⟩ := lk_at g (List.mem_of_getElem? hp)
                obtain ⟨i1, i2, _, _⟩ := g.inv.val (List.mem_of_getElem? hp)
                obtain ⟨w, w1, w2⟩ := place_at (fun a => (hP a).1) g.f0 (isPort_iff.2 i1)
                have hw := (List.getElem?_eq_some_iff.1 w2).1
                simp only [Option.map_some, Option.some.injEq, vP, i2] at hb
                omega) (by omega) (fun _ _ _ => rfl) h gr lr
            refine ⟨u, h', ev_of_cBodyS shT rfl Tryz.func86 rfl (by kernel_rfl) q0, ?_, q2⟩
            rw [links_good g] at q1
            rw [← neat_tidy g]; exact q1) (fun _ _ _ => rfl) .empty
        obtain ⟨c0, w0, rfl, s1, s2⟩ := hu
        obtain ⟨e1, f1⟩ := s1.weak (fun _ => rfl) (fun _ => rfl)
        obtain ⟨e2, f2⟩ := s2.weak (fun _ => rfl) (fun _ => rfl)
        refine ⟨_, ?_, ?_, ev_ofS shT rfl Tryz.func48 rfl (by kernel_rfl) hb⟩
        · show (freeV c0 && (true && (freeV w0 && true))) = true
          rw [f1, f2]; rfl
        · show _ = AV.agg [weakV c0, .int .i64 (tidyN s n).free, weakV w0]
          rw [e1, e2]; rfl
      · cases hs
    · cases hs
  · cases hs
def hNe (call : CallT) : Prop := ∀ x v s n h, IsSig x s → IsNet v n → n.wires.length ≤ 1000000 → (netChk s n).1 = 0 → call (.func 48) [x, v] h = some (.ret (netC (tidyN s n)), h)
theorem hNe_of {hk : Hooks} {n : Nat} (hk' : ∀ args h, hk 48 args h = hkNe 48 args h) (hn : 0 < n) : hNe (evCall (mkEv Tryz.prog mu0 hk) n) := fun x v s nt h hx hv hl h0 => ev_hk (by
  rw [hk']
  refine hk_top (by simp [freeL, sig_free hx, net_free hv]) ?_
  show (match sigOf (weakV x), netOf (weakV v) with | some s, some n => if n.wires.length ≤ 1000000 ∧ (netChk s n).1 = 0 then some (netC (tidyN s n)) else none | _, _ => none) = _
  rw [sigOf_of hx, netOf_of hv]; simp only [if_pos (And.intro hl h0)]) hn
section
variable {i4 i6 i10 : Sk.Id} {sv cl c0 w : AV} {nf f : Int} {c : Nat}

structure InvR (i4 i6 i10 : Sk.Id) (c0 w : AV) (nf : Int) (cl : AV) (f : Int) (W : List Wr) (h : AH) : Prop where
  g4 : h.get i4 = some (.cells [c0, .int .i64 nf, w] 43)
  g6 : h.get i6 = some (.cells [.nilsl, .int .i64 0, .nilsl] 43)
  aA : ∃ wl, h.get i10 = some (.cells [cl, .int .i64 f, wl] 43) ∧ GrowB h wl (W.map wireV)
  o1 : i4.nat < i6.nat
  o2 : i6.nat < i10.nat
  lt : i10.nat < h.next.nat

theorem lMR (call rgn n) (wires : List Wr) (hw : IsL w (wires.map wireV)) (hwl : wires.length ≤ 1000000) (hRa : hRa call) {W0 : List Wr} (hW0 : W0.length ≤ 64)
    {K : KC (AOut × AH)} {Q : Option (AOut × AH) → Prop}
    (hK : ∀ {h : AH} {g0 g1 g2 g3 g4 g5 g7 g9 aB aC aD aE aF aG aH aI aJ aK aL aM aN aO aP aQ aR aS aT aU aV aW aX aY aZ bA bB bC bD bE bF bG bH bI bJ bK bL bM bN bO bP bQ bR bS bT bU bV bW bX bY bZ cA cB cC cD cE cF cG cH cI cJ cK cL cM cO cP cQ cT cU cV cW cX cY cZ dA dB dC dD dE dF dG dH dI dJ dK dL dM dN dO dP dQ dR dS dT dU dV dW dX dY dZ eA eB eC eD eE eF eG : AV}, InvR i4 i6 i10 c0 w nf cl f (W0 ++ wires.map (rootW c)) h → Q (K (.exit 0) ⟨(g0::g1::g2::g3::g4::g5::.ptr i6 0::g7::sv::g9::.ptr i10 0::aB::aC::aD::aE::aF::aG::aH::aI::aJ::aK::aL::aM::aN::aO::aP::aQ::aR::aS::aT::aU::aV::aW::aX::aY::aZ::bA::bB::bC::bD::bE::bF::bG::bH::bI::bJ::bK::bL::bM::bN::bO::bP::bQ::bR::bS::bT::bU::bV::bW::bX::bY::bZ::cA::cB::cC::cD::cE::cF::cG::cH::cI::cJ::cK::cL::cM::cO::cP::cQ::cT::cU::cV::cW::cX::cY::cZ::dA::dB::dC::dD::dE::dF::dG::dH::dI::dJ::dK::dL::dM::dN::dO::dP::dQ::dR::dS::dT::dU::dV::dW::dX::dY::dZ::eA::eB::eC::eD::eE::eF::eG::[]), [], h⟩)) :
    ∀ (m i : Nat) {z : Int} {h : AH} {g0 g1 g2 g3 g5 g7 g9 aD aE aF aG aH aI aJ aK aL aM aN aO aP aQ aR aS aT aU aV aW aX aY aZ bA bB bC bD bE bF bG bH bI bJ bK bL bM bN bO bP bQ bR bS bT bU bV bW bX bY bZ cA cB cC cD cE cF cG cH cI cJ cK cL cM cO cP cQ cT cU cV cW cX cY cZ dA dB dC dD dE dF dG dH dI dJ dK dL dM dN dO dP dQ dR dS dT dU dV dW dX dY dZ eA eB eC eD eE eF eG : AV}, z = i → i ≤ wires.length → wires.length - i < m → InvR i4 i6 i10 c0 w nf cl f (W0 ++ (wires.take i).map (rootW c)) h →
    Q (cIter (LB shT call rgn n 24 Tryz.f24 0) m ⟨(g0::g1::g2::g3::.ptr i4 0::g5::.ptr i6 0::g7::sv::g9::.ptr i10 0::.int .i64 c::.int .i64 z::aD::aE::aF::aG::aH::aI::aJ::aK::aL::aM::aN::aO::aP::aQ::aR::aS::aT::aU::aV::aW::aX::aY::aZ::bA::bB::bC::bD::bE::bF::bG::bH::bI::bJ::bK::bL::bM::bN::bO::bP::bQ::bR::bS::bT::bU::bV::bW::bX::bY::bZ::cA::cB::cC::cD::cE::cF::cG::cH::cI::cJ::cK::cL::cM::cO::cP::cQ::cT::cU::cV::cW::cX::cY::cZ::dA::dB::dC::dD::dE::dF::dG::dH::dI::dJ::dK::dL::dM::dN::dO::dP::dQ::dR::dS::dT::dU::dV::dW::dX::dY::dZ::eA::eB::eC::eD::eE::eF::eG::[]), [], h⟩ K) := by
  have u : Tryz.prog.underlying 41 = some (.slice 62) := by kernel_rfl
  have hlw := fun h => len_L (X := ⟨Tryz.prog, mu0, call⟩) (mu := false) (h := h) u hw
  rw [List.length_map] at hlw
  intro m
  induction m with
  | zero => intros; omega
  | succ m ih =>
    intro i z h g0 g1 g2 g3 g5 g7 g9 aD aE aF aG aH aI aJ aK aL aM aN aO aP aQ aR aS aT aU aV aW aX aY aZ bA bB bC bD bE bF bG bH bI bJ bK bL bM bN bO bP bQ bR bS bT bU bV bW bX bY bZ cA cB cC cD cE cF cG cH cI cJ cK cL cM cO cP cQ cT cU cV cW cX cY cZ dA dB dC dD dE dF dG dH dI dJ dK dL dM dN dO dP dQ dR dS dT dU dV dW dX dY dZ eA eB eC eD eE eF eG hz hi hm hI
    rw [cIter_succ]
    obtain ⟨g4, g6, ⟨wl, aA, gw⟩, o1, o2, lt⟩ := hI
    have lw : ∀ h, h.get i4 = some (.cells [c0, .int .i64 nf, w] 43) → vOf h (aLoad Tryz.prog 41 (.ptr i4 2) h) = some (.ret w, h) := fun h g => ld_ptr (n := 1) g (by kernel_rfl) (by kernel_rfl) rfl
    conv => arg 1; whnf
    refine atCall_P (lw h g4) ?_
    conv => arg 1; whnf
    refine atCall_P (hlw h) ?_
    conv => arg 1; whnf
    split
    · rename_i hd
      have hlt : i < wires.length := by simp at hd; omega
      have htake : wires.take (i + 1) = wires.take i ++ [wires[i]] := List.take_succ_eq_append_getElem hlt
      have hg : (wires.map wireV)[i]? = some (wireV wires[i]) := by rw [List.getElem?_map, List.getElem?_eq_getElem hlt]; rfl
      have hidx := fun h => idx_L (P := Tryz.prog) (t := 41) (e := 62) (n := 4) (h := h) (k := .i64) u (by kernel_rfl) hw hz hg rfl
      have hz' : IntKind.i64.wrap (z + 1) = ((i + 1 : Nat) : Int) := by rw [hz]; exact wrap_succ (by omega)
      generalize wires[i] = ww at hidx htake
      obtain ⟨wa, wb, wc, wd⟩ := ww
      conv => arg 1; whnf
      refine atCall_P (lw h g4) ?_
      conv => arg 1; whnf
      refine atCall_P (hidx _) ?_
      conv => arg 1; whnf
      refine atCall_P (alloc_new (z := .agg [.int .i64 0, .int .i64 0, .int .i64 0, .int .i64 0]) (cs := [.int .i64 0, .int .i64 0, .int .i64 0, .int .i64 0]) (by kernel_rfl) rfl rfl) ?_
      have gw := growB_alloc gw (.cells [.int .i64 0, .int .i64 0, .int .i64 0, .int .i64 0] 62)
      generalize hh_h1 : h.alloc (.cells [.int .i64 0, .int .i64 0, .int .i64 0, .int .i64 0] 62) = h1 at *
      obtain ⟨a_q, n_q, k_h1⟩ := alloc_facts hh_h1
      replace g4 := k_h1 _ _ g4 (by omega)
      replace g6 := k_h1 _ _ g6 (by omega)
      replace aA := k_h1 _ _ aA (by omega)
      clear hh_h1 k_h1
      generalize hi_q : h.next = q at *
      clear hi_q
      have st : hOf (aStore Tryz.prog 62 (.ptr q 0) (wireV (wa, wb, wc, wd)) h1) = some (.ret undefA, h1.set q (.cells [.int .i64 wa, .int .i64 wb, .int .i64 wc, .int .i64 wd] 62)) := st_ptr (n := 4) a_q (by kernel_rfl) rfl (by simp) rfl
      conv => arg 1; whnf
      refine atCall_P (st) ?_
      have gw := growB_set gw (.cells [.int .i64 wa, .int .i64 wb, .int .i64 wc, .int .i64 wd] 62) (notGrp a_q)
      clear st
      generalize hh_h2 : h1.set q (.cells [.int .i64 wa, .int .i64 wb, .int .i64 wc, .int .i64 wd] 62) = h2 at *
      obtain ⟨b_q, n_h2, k_h2⟩ := set_facts hh_h2
      replace g4 := k_h2 _ _ g4 (by rintro rfl; omega)
      replace g6 := k_h2 _ _ g6 (by rintro rfl; omega)
      replace aA := k_h2 _ _ aA (by rintro rfl; omega)
      clear hh_h2 k_h2
      replace n_h2 : h2.next.nat = h1.next.nat := congrArg Id.nat n_h2
      have lwl : ∀ h, h.get i10 = some (.cells [cl, .int .i64 f, wl] 43) → vOf h (aLoad Tryz.prog 41 (.ptr i10 2) h) = some (.ret wl, h) := fun h g => ld_ptr (n := 1) g (by kernel_rfl) (by kernel_rfl) rfl
      have lA : vOf h2 (aLoad Tryz.prog 3 (.ptr q 0) h2) = some (.ret (.int .i64 wa), h2) := ld_ptr (n := 1) b_q (by kernel_rfl) (by kernel_rfl) rfl
      have hnew : W0 ++ (wires.take (i + 1)).map (rootW c) = (W0 ++ (wires.take i).map (rootW c)) ++ [rootW c (wa, wb, wc, wd)] := by rw [htake, List.map_append, List.append_assoc]; rfl
      have hlen : (W0 ++ (wires.take i).map (rootW c)).length ≤ 100000000 := by simp; omega
      conv => arg 1; whnf
      refine atCall_P (lA) ?_
      conv => arg 1; whnf
      cases e1 : decide (wa < 0)
      · have n1 : ¬ wa < 0 := by simpa using e1
        have lB : vOf h2 (aLoad Tryz.prog 3 (.ptr q 2) h2) = some (.ret (.int .i64 wc), h2) := ld_ptr (n := 1) b_q (by kernel_rfl) (by kernel_rfl) rfl
        conv => arg 1; whnf
        refine atCall_P (lB) ?_
        conv => arg 1; whnf
        cases e2 : decide (wc < 0)
        · have n2 : ¬ wc < 0 := by simpa using e2
          have hrw : rootW c (wa, wb, wc, wd) = (wa, wb, wc, wd) := by unfold rootW rootP wA wB mkW; simp only [n1, if_false]; simp [n2]
          have lW : vOf h2 (aLoad Tryz.prog 62 (.ptr q 0) h2) = some (.ret (wireV (wa, wb, wc, wd)), h2) := ld_agg (n := 4) b_q (by kernel_rfl) (by kernel_rfl) (by simp)
          obtain ⟨wl', h7, q1, q2, q3, q4⟩ := one_wire (call := call) (t := (wa, wb, wc, wd)) gw hlen
          conv => arg 1; whnf
          refine atCall_P (lwl h2 aA) ?_
          conv => arg 1; whnf
          refine atCall_P (lW) ?_
          conv => arg 1; whnf
          refine atCall_P (q1) ?_
          have r4 := q4 _ _ g4 (notGrp g4) (by omega)
          have r6 := q4 _ _ g6 (notGrp g6) (by omega)
          have r10 := q4 _ _ aA (notGrp aA) (by omega)
          have hls : wl'.scalar = true := isL_scalar q2.isL
          have st : hOf (aStore Tryz.prog 41 (.ptr i10 2) wl' h7) = some (.ret undefA, h7.set i10 (.cells [cl, .int .i64 f, wl'] 43)) := by
            have hcl : wl'.cells = [wl'] := isL_cells q2.isL
            rw [st_ptr (n := 1) r10 (by kernel_rfl) (by rw [hcl]; rfl) (by simp) (by rw [hcl]; simp only [List.all_cons, hls, List.all_nil]; rfl), hcl]; rfl
          conv => arg 1; whnf
          refine atCall_P (st) ?_
          have gw3 := growB_set q2 (.cells [cl, .int .i64 f, wl'] 43) (notGrp r10)
          clear st
          generalize hh_h9 : h7.set i10 (.cells [cl, .int .i64 f, wl'] 43) = h9 at *
          obtain ⟨b_i10, n_h9, k_h9⟩ := set_facts hh_h9
          replace r4 := k_h9 _ _ r4 (by rintro rfl; omega)
          replace r6 := k_h9 _ _ r6 (by rintro rfl; omega)
          clear hh_h9 k_h9
          replace n_h9 : h9.next.nat = h7.next.nat := congrArg Id.nat n_h9
          conv => arg 1; whnf
          exact ih (i + 1) hz' (by omega) (by omega) ⟨r4, r6, ⟨wl', b_i10, by rw [hnew, hrw]; exact gw3⟩, o1, o2, by omega⟩
        · have n2 : wc < 0 := by simpa using e2
          conv => arg 1; whnf
          refine atCall_P (hRa c 0 h2) ?_
          have st : hOf (aStore Tryz.prog 60 (.ptr q 2) (portV ((c : Int), 0)) h2) = some (.ret undefA, h2.set q (.cells [.int .i64 wa, .int .i64 wb, .int .i64 c, .int .i64 0] 62)) := st_ptr (n := 2) b_q (by kernel_rfl) rfl (by simp) rfl
          conv => arg 1; whnf
          refine atCall_P (st) ?_
          have gw := growB_set gw (.cells [.int .i64 wa, .int .i64 wb, .int .i64 c, .int .i64 0] 62) (notGrp b_q)
          clear st
          have b_q0 := b_q
          clear b_q
          generalize hh_h5 : h2.set q (.cells [.int .i64 wa, .int .i64 wb, .int .i64 c, .int .i64 0] 62) = h5 at *
          obtain ⟨b_q, n_h5, k_h5⟩ := set_facts hh_h5
          replace g4 := k_h5 _ _ g4 (by rintro rfl; omega)
          replace g6 := k_h5 _ _ g6 (by rintro rfl; omega)
          replace aA := k_h5 _ _ aA (by rintro rfl; omega)
          clear hh_h5 k_h5
          replace n_h5 : h5.next.nat = h2.next.nat := congrArg Id.nat n_h5
          have hrw : rootW c (wa, wb, wc, wd) = (wa, wb, (c : Int), 0) := by unfold rootW rootP wA wB mkW; simp only [n1, if_false]; simp [n2]
          have lW : vOf h5 (aLoad Tryz.prog 62 (.ptr q 0) h5) = some (.ret (wireV (wa, wb, (c : Int), 0)), h5) := ld_agg (n := 4) b_q (by kernel_rfl) (by kernel_rfl) (by simp)
          obtain ⟨wl', h7, q1, q2, q3, q4⟩ := one_wire (call := call) (t := (wa, wb, (c : Int), 0)) gw hlen
          conv => arg 1; whnf
          refine atCall_P (lwl h5 aA) ?_
          conv => arg 1; whnf
          refine atCall_P (lW) ?_
          conv => arg 1; whnf
          refine atCall_P (q1) ?_
          have r4 := q4 _ _ g4 (notGrp g4) (by omega)
          have r6 := q4 _ _ g6 (notGrp g6) (by omega)
          have r10 := q4 _ _ aA (notGrp aA) (by omega)
          have hls : wl'.scalar = true := isL_scalar q2.isL
          have st : hOf (aStore Tryz.prog 41 (.ptr i10 2) wl' h7) = some (.ret undefA, h7.set i10 (.cells [cl, .int .i64 f, wl'] 43)) := by
            have hcl : wl'.cells = [wl'] := isL_cells q2.isL
            rw [st_ptr (n := 1) r10 (by kernel_rfl) (by rw [hcl]; rfl) (by simp) (by rw [hcl]; simp only [List.all_cons, hls, List.all_nil]; rfl), hcl]; rfl
          conv => arg 1; whnf
          refine atCall_P (st) ?_
          have gw3 := growB_set q2 (.cells [cl, .int .i64 f, wl'] 43) (notGrp r10)
          clear st
          generalize hh_h9 : h7.set i10 (.cells [cl, .int .i64 f, wl'] 43) = h9 at *
          obtain ⟨b_i10, n_h9, k_h9⟩ := set_facts hh_h9
          replace r4 := k_h9 _ _ r4 (by rintro rfl; omega)
          replace r6 := k_h9 _ _ r6 (by rintro rfl; omega)
          clear hh_h9 k_h9
          replace n_h9 : h9.next.nat = h7.next.nat := congrArg Id.nat n_h9
          conv => arg 1; whnf
          exact ih (i + 1) hz' (by omega) (by omega) ⟨r4, r6, ⟨wl', b_i10, by rw [hnew, hrw]; exact gw3⟩, o1, o2, by omega⟩
      · have n1 : wa < 0 := by simpa using e1
        conv => arg 1; whnf
        refine atCall_P (hRa c 0 h2) ?_
        have st : hOf (aStore Tryz.prog 60 (.ptr q 0) (portV ((c : Int), 0)) h2) = some (.ret undefA, h2.set q (.cells [.int .i64 c, .int .i64 0, .int .i64 wc, .int .i64 wd] 62)) := st_ptr (n := 2) b_q (by kernel_rfl) rfl (by simp) rfl
        conv => arg 1; whnf
        refine atCall_P (st) ?_
        have gw := growB_set gw (.cells [.int .i64 c, .int .i64 0, .int .i64 wc, .int .i64 wd] 62) (notGrp b_q)
        clear st lA b_q
        generalize hh_h3 : h2.set q (.cells [.int .i64 c, .int .i64 0, .int .i64 wc, .int .i64 wd] 62) = h3 at *
        obtain ⟨b_q, n_h3, k_h3⟩ := set_facts hh_h3
        replace g4 := k_h3 _ _ g4 (by rintro rfl; omega)
        replace g6 := k_h3 _ _ g6 (by rintro rfl; omega)
        replace aA := k_h3 _ _ aA (by rintro rfl; omega)
        clear hh_h3 k_h3
        replace n_h3 : h3.next.nat = h2.next.nat := congrArg Id.nat n_h3
        have lB : vOf h3 (aLoad Tryz.prog 3 (.ptr q 2) h3) = some (.ret (.int .i64 wc), h3) := ld_ptr (n := 1) b_q (by kernel_rfl) (by kernel_rfl) rfl
        conv => arg 1; whnf
        refine atCall_P (lB) ?_
        conv => arg 1; whnf
        cases e2 : decide (wc < 0)
        · have n2 : ¬ wc < 0 := by simpa using e2
          have hrw : rootW c (wa, wb, wc, wd) = ((c : Int), 0, wc, wd) := by unfold rootW rootP wA wB mkW; simp only [n1, if_true]; simp [n2]
          have lW : vOf h3 (aLoad Tryz.prog 62 (.ptr q 0) h3) = some (.ret (wireV ((c : Int), 0, wc, wd)), h3) := ld_agg (n := 4) b_q (by kernel_rfl) (by kernel_rfl) (by simp)
          obtain ⟨wl', h7, q1, q2, q3, q4⟩ := one_wire (call := call) (t := ((c : Int), 0, wc, wd)) gw hlen
          conv => arg 1; whnf
          refine atCall_P (lwl h3 aA) ?_
          conv => arg 1; whnf
          refine atCall_P (lW) ?_
          conv => arg 1; whnf
          refine atCall_P (q1) ?_
          have r4 := q4 _ _ g4 (notGrp g4) (by omega)
          have r6 := q4 _ _ g6 (notGrp g6) (by omega)
          have r10 := q4 _ _ aA (notGrp aA) (by omega)
          have hls : wl'.scalar = true := isL_scalar q2.isL
          have st : hOf (aStore Tryz.prog 41 (.ptr i10 2) wl' h7) = some (.ret undefA, h7.set i10 (.cells [cl, .int .i64 f, wl'] 43)) := by
            have hcl : wl'.cells = [wl'] := isL_cells q2.isL
            rw [st_ptr (n := 1) r10 (by kernel_rfl) (by rw [hcl]; rfl) (by simp) (by rw [hcl]; simp only [List.all_cons, hls, List.all_nil]; rfl), hcl]; rfl
          conv => arg 1; whnf
          refine atCall_P (st) ?_
          have gw3 := growB_set q2 (.cells [cl, .int .i64 f, wl'] 43) (notGrp r10)
          clear st
          generalize hh_h9 : h7.set i10 (.cells [cl, .int .i64 f, wl'] 43) = h9 at *
          obtain ⟨b_i10, n_h9, k_h9⟩ := set_facts hh_h9
          replace r4 := k_h9 _ _ r4 (by rintro rfl; omega)
          replace r6 := k_h9 _ _ r6 (by rintro rfl; omega)
          clear hh_h9 k_h9
          replace n_h9 : h9.next.nat = h7.next.nat := congrArg Id.nat n_h9
          conv => arg 1; whnf
          exact ih (i + 1) hz' (by omega) (by omega) ⟨r4, r6, ⟨wl', b_i10, by rw [hnew, hrw]; exact gw3⟩, o1, o2, by omega⟩
        · have n2 : wc < 0 := by simpa using e2
          conv => arg 1; whnf
          refine atCall_P (hRa c 0 h3) ?_
          have st : hOf (aStore Tryz.prog 60 (.ptr q 2) (portV ((c : Int), 0)) h3) = some (.ret undefA, h3.set q (.cells [.int .i64 (c : Int), .int .i64 0, .int .i64 c, .int .i64 0] 62)) := st_ptr (n := 2) b_q (by kernel_rfl) rfl (by simp) rfl
          conv => arg 1; whnf
          refine atCall_P (st) ?_
          have gw := growB_set gw (.cells [.int .i64 (c : Int), .int .i64 0, .int .i64 c, .int .i64 0] 62) (notGrp b_q)
          clear st
          have b_q0 := b_q
          clear b_q
          generalize hh_h5 : h3.set q (.cells [.int .i64 (c : Int), .int .i64 0, .int .i64 c, .int .i64 0] 62) = h5 at *
          obtain ⟨b_q, n_h5, k_h5⟩ := set_facts hh_h5
          replace g4 := k_h5 _ _ g4 (by rintro rfl; omega)
          replace g6 := k_h5 _ _ g6 (by rintro rfl; omega)
          replace aA := k_h5 _ _ aA (by rintro rfl; omega)
          clear hh_h5 k_h5
          replace n_h5 : h5.next.nat = h3.next.nat := congrArg Id.nat n_h5
          have hrw : rootW c (wa, wb, wc, wd) = ((c : Int), 0, (c : Int), 0) := by unfold rootW rootP wA wB mkW; simp only [n1, if_true]; simp [n2]
          have lW : vOf h5 (aLoad Tryz.prog 62 (.ptr q 0) h5) = some (.ret (wireV ((c : Int), 0, (c : Int), 0)), h5) := ld_agg (n := 4) b_q (by kernel_rfl) (by kernel_rfl) (by simp)
          obtain ⟨wl', h7, q1, q2, q3, q4⟩ := one_wire (call := call) (t := ((c : Int), 0, (c : Int), 0)) gw hlen
          conv => arg 1; whnf
          refine atCall_P (lwl h5 aA) ?_
          conv => arg 1; whnf
          refine atCall_P (lW) ?_
          conv => arg 1; whnf
          refine atCall_P (q1) ?_
          have r4 := q4 _ _ g4 (notGrp g4) (by omega)
          have r6 := q4 _ _ g6 (notGrp g6) (by omega)
          have r10 := q4 _ _ aA (notGrp aA) (by omega)
          have hls : wl'.scalar = true := isL_scalar q2.isL
          have st : hOf (aStore Tryz.prog 41 (.ptr i10 2) wl' h7) = some (.ret undefA, h7.set i10 (.cells [cl, .int .i64 f, wl'] 43)) := by
            have hcl : wl'.cells = [wl'] := isL_cells q2.isL
            rw [st_ptr (n := 1) r10 (by kernel_rfl) (by rw [hcl]; rfl) (by simp) (by rw [hcl]; simp only [List.all_cons, hls, List.all_nil]; rfl), hcl]; rfl
          conv => arg 1; whnf
          refine atCall_P (st) ?_
          have gw3 := growB_set q2 (.cells [cl, .int .i64 f, wl'] 43) (notGrp r10)
          clear st
          generalize hh_h9 : h7.set i10 (.cells [cl, .int .i64 f, wl'] 43) = h9 at *
          obtain ⟨b_i10, n_h9, k_h9⟩ := set_facts hh_h9
          replace r4 := k_h9 _ _ r4 (by rintro rfl; omega)
          replace r6 := k_h9 _ _ r6 (by rintro rfl; omega)
          clear hh_h9 k_h9
          replace n_h9 : h9.next.nat = h7.next.nat := congrArg Id.nat n_h9
          conv => arg 1; whnf
          exact ih (i + 1) hz' (by omega) (by omega) ⟨r4, r6, ⟨wl', b_i10, by rw [hnew, hrw]; exact gw3⟩, o1, o2, by omega⟩
    · rename_i hd
      have hlt : ¬ i < wires.length := by simp at hd; omega
      rw [List.take_of_length_le (by omega)] at *
      exact hK ⟨g4, g6, ⟨wl, aA, gw⟩, o1, o2, lt⟩
end
def madeRV (s : List Ag) (n : Nt) (a : Int) (f : Nat) : AV :=
  if sigE s ≠ 0 then .tup [zNet, .int .i64 (sigE s)]
  else if (netChk s n).1 ≠ 0 then .tup [zNet, .int .i64 (netChk s n).1]
  else if treeQ s n = false then .tup [zNet, .int .i64 62]
  else if n.cells.length ≥ 4096 then .tup [zNet, .int .i64 15]
  else .tup [netC (tidyN (sig2 s) (madeNt n a f)), .int .i64 0]

theorem netC_key (n : Nt) : ∃ c0 f0 w0, netC n = .agg [c0, f0, w0] ∧ c0.scalar = true ∧ f0.scalar = true ∧ w0.scalar = true :=
  ⟨_, _, _, rfl, isL_scalar (listW_isL n.cells (enc := intV)), rfl, isL_scalar (listW_isL n.wires (enc := wireV))⟩
theorem treeQ_free {s : List Ag} {n : Nt} (h : treeQ s n = true) : n.free = 1 := by
  unfold treeQ at h
  simp at h
  exact h.1

set_option maxHeartbeats 400000 in
theorem bMR (call rgn n) (x v : AV) (s : List Ag) (nt : Nt) (er : Bool) (a : Int) (F : Nat) (her : (er = true ∧ a = (s.length : Int) + 1 ∧ F = 0) ∨ (er = false ∧ a = s.length ∧ F = 2)) (hx : IsSig x s) (hv : IsNet v nt) (hRS : hRS call) (hK3 : hK3 call) (hRT : hRT call) (hRf : hRf call) (hRa : hRa call) (hNe : hNe call) (hwl : nt.wires.length ≤ 999000) (hsl : s.length ≤ 1000000) (hn : 1000000 < n)
    (hrg : ∀ id ops st, rgn id ops st = drawn ⟨Tryz.prog, mu0, call⟩ 24 ops st) (h : AH) :
    ∃ h', B shT call rgn n 24 Tryz.f24 [x, v, .bool er] h = some (.ret (madeRV s nt a F), h') := by
  suffices hq : ∀ Q : Option (AOut × AH) → Prop, ¬ Q none → (∀ u h', madeRV s nt a F = u → Q (some (.ret u, h'))) → Q (B shT call rgn n 24 Tryz.f24 [x, v, .bool er] h) from
    hq (fun y => ∃ h', y = some (.ret (madeRV s nt a F), h')) (by rintro ⟨_, h⟩; cases h) (fun u h' he => ⟨h', by rw [he]⟩)
  intro Q hN hQ
  have hv0 := hv
  obtain ⟨c, w, rfl, hc, hw⟩ := hv
  have hcs := isL_scalar hc
  have hws := isL_scalar hw
  have us : Tryz.prog.underlying 22 = some (.slice 58) := by kernel_rfl
  have ui : Tryz.prog.underlying 40 = some (.slice 3) := by kernel_rfl
  have hlc := fun h => len_L (X := ⟨Tryz.prog, mu0, call⟩) (mu := false) (h := h) ui hc
  have hls := fun h => len_L (X := ⟨Tryz.prog, mu0, call⟩) (mu := false) (h := h) us hx
  rw [List.length_map] at hlc hls
  conv => arg 1; whnf
  refine atCall_P (box_new (cs := [c, .int .i64 nt.free, w]) rfl (by simp only [List.all_cons, hcs, hws, List.all_nil]; rfl)) ?_
  generalize hh_h1 : h.alloc (.cells [c, .int .i64 nt.free, w] 43) = h1 at *
  obtain ⟨a_i4, n_i4, k_h1⟩ := alloc_facts hh_h1
  clear hh_h1 k_h1
  generalize hi_i4 : h.next = i4 at *
  clear hi_i4
  conv => arg 1; whnf
  refine atCall_P (alloc_new (z := .agg [.nilsl, .int .i64 0, .nilsl]) (cs := [.nilsl, .int .i64 0, .nilsl]) (by kernel_rfl) rfl rfl) ?_
  generalize hh_h2 : h1.alloc (.cells [.nilsl, .int .i64 0, .nilsl] 43) = h2 at *
  obtain ⟨a_i6, n_i6, k_h2⟩ := alloc_facts hh_h2
  replace a_i4 := k_h2 _ _ a_i4 (by omega)
  clear hh_h2 k_h2
  generalize hi_i6 : h1.next = i6 at *
  clear hi_i6
  have ln : ∀ h, h.get i4 = some (.cells [c, .int .i64 nt.free, w] 43) → vOf h (aLoad Tryz.prog 43 (.ptr i4 0) h) = some (.ret (.agg [c, .int .i64 nt.free, w]), h) := fun h g => ld_agg (n := 3) g (by kernel_rfl) (by kernel_rfl) (by simp)
  have lc : ∀ h, h.get i4 = some (.cells [c, .int .i64 nt.free, w] 43) → vOf h (aLoad Tryz.prog 40 (.ptr i4 0) h) = some (.ret c, h) := fun h g => ld_ptr (n := 1) g (by kernel_rfl) (by kernel_rfl) rfl
  have fin : ∀ (hh : AH) (c0 f0 w0 : AV) (e0 : Int), madeRV s nt a F = .tup [.agg [c0, f0, w0], .int .i64 e0] → hh.get i6 = some (.cells [c0, f0, w0] 43) → ∀ {g0 g1 g2 g3 g4 g5 g8 g9 aA aB aC aD aE aF aG aH aI aJ aK aL aM aN aO aP aQ aR aS aT aU aV aW aX aY aZ bA bB bC bD bE bF bG bH bI bJ bK bL bM bN bO bP bQ bR bS bT bU bV bW bX bY bZ cA cB cC cD cE cF cG cH cI cJ cK cL cM cO cP cQ cT cU cV cW cX cY cZ dA dB dC dD dE dF dG dH dI dJ dK dL dM dN dO dP dQ dR dS dT dU dV dW dX dY dZ eA eB eC eD eE eF eG : AV}, Q (atLeave Tryz.prog Tryz.f24 .ret ⟨(g0::g1::g2::g3::g4::g5::.ptr i6 0::.int .i64 e0::g8::g9::aA::aB::aC::aD::aE::aF::aG::aH::aI::aJ::aK::aL::aM::aN::aO::aP::aQ::aR::aS::aT::aU::aV::aW::aX::aY::aZ::bA::bB::bC::bD::bE::bF::bG::bH::bI::bJ::bK::bL::bM::bN::bO::bP::bQ::bR::bS::bT::bU::bV::bW::bX::bY::bZ::cA::cB::cC::cD::cE::cF::cG::cH::cI::cJ::cK::cL::cM::cO::cP::cQ::cT::cU::cV::cW::cX::cY::cZ::dA::dB::dC::dD::dE::dF::dG::dH::dI::dJ::dK::dL::dM::dN::dO::dP::dQ::dR::dS::dT::dU::dV::dW::dX::dY::dZ::eA::eB::eC::eD::eE::eF::eG::[]), [], hh⟩) := by
    intro hh c0 f0 w0 e0 he hg
    intros
    have ld : aLoad Tryz.prog 43 (.ptr i6 0) hh = some (.agg [c0, f0, w0]) := ld_val (ld_agg (r := i6) (off := 0) (cs := [c0, f0, w0]) (T := 43) (n := 3) hg (by kernel_rfl) (by kernel_rfl) (by simp))
    refine atLeave_P (leave_plain (.inl rfl) (l := [.agg [c0, f0, w0], .int .i64 e0]) ?_) (hQ _ _ he)
    show (match aLoad Tryz.prog 43 (.ptr i6 0) hh, some [AV.int .i64 e0] with | some v, some l => some (v :: l) | _, _ => none) = _
    rw [ld]
  have fin0 : ∀ (e0 : Int), (∀ a f, madeRV s nt a f = .tup [zNet, .int .i64 e0]) → ∀ hh, hh.get i6 = some (.cells [.nilsl, .int .i64 0, .nilsl] 43) → ∀ {g0 g1 g2 g3 g4 g5 g8 g9 aA aB aC aD aE aF aG aH aI aJ aK aL aM aN aO aP aQ aR aS aT aU aV aW aX aY aZ bA bB bC bD bE bF bG bH bI bJ bK bL bM bN bO bP bQ bR bS bT bU bV bW bX bY bZ cA cB cC cD cE cF cG cH cI cJ cK cL cM cO cP cQ cT cU cV cW cX cY cZ dA dB dC dD dE dF dG dH dI dJ dK dL dM dN dO dP dQ dR dS dT dU dV dW dX dY dZ eA eB eC eD eE eF eG : AV}, Q (atLeave Tryz.prog Tryz.f24 .ret ⟨(g0::g1::g2::g3::g4::g5::.ptr i6 0::.int .i64 e0::g8::g9::aA::aB::aC::aD::aE::aF::aG::aH::aI::aJ::aK::aL::aM::aN::aO::aP::aQ::aR::aS::aT::aU::aV::aW::aX::aY::aZ::bA::bB::bC::bD::bE::bF::bG::bH::bI::bJ::bK::bL::bM::bN::bO::bP::bQ::bR::bS::bT::bU::bV::bW::bX::bY::bZ::cA::cB::cC::cD::cE::cF::cG::cH::cI::cJ::cK::cL::cM::cO::cP::cQ::cT::cU::cV::cW::cX::cY::cZ::dA::dB::dC::dD::dE::dF::dG::dH::dI::dJ::dK::dL::dM::dN::dO::dP::dQ::dR::dS::dT::dU::dV::dW::dX::dY::dZ::eA::eB::eC::eD::eE::eF::eG::[]), [], hh⟩) := by
    intro e0 he hh hg
    intros
    exact fin hh .nilsl (.int .i64 0) .nilsl e0 (he _ _) hg
  have stz : hOf (aStore Tryz.prog 43 (.ptr i6 0) (.agg [.nilsl, .int .i64 0, .nilsl]) h2) = some (.ret undefA, h2.set i6 (.cells [.nilsl, .int .i64 0, .nilsl] 43)) := st_ptr (n := 3) a_i6 (by kernel_rfl) rfl (by simp) rfl
  have gz : (h2.set i6 (.cells [.nilsl, .int .i64 0, .nilsl] 43)).get i6 = some (.cells [.nilsl, .int .i64 0, .nilsl] 43) := by rw [AH.get_set, if_pos rfl]
  have pS := hRS x s h2 hx
  have pC := hK3 x (.agg [c, .int .i64 nt.free, w]) s nt h2 hx hv0 (by omega)
  unfold sigXV at pS
  by_cases s0 : sigE s = 0
  rotate_left
  · rw [if_neg s0] at pS
    have hr : ∀ a f, madeRV s nt a f = .tup [zNet, .int .i64 (sigE s)] := fun a f => by unfold madeRV; rw [if_pos s0]
    generalize sigE s = e at *
    conv => arg 1; whnf
    refine atCall_P (pS) ?_
    conv => arg 1; whnf
    cases e1 : (e != 0)
    · exact absurd (by simpa using e1) s0
    conv => arg 1; whnf
    refine atCall_P (stz) ?_
    conv => arg 1; whnf
    exact fin0 _ hr _ gz
  rw [if_pos s0] at pS
  have iss := listW_isL (enc := agV) (sig2 s)
  generalize listW agV (sig2 s) = sv at pS iss
  have hsv := isL_cases' iss
  conv => arg 1; whnf
  refine atCall_P (pS) ?_
  rcases hsv with hsv | ⟨sy, sc, hsv⟩
  · exfalso
    subst hsv
    rcases iss with ⟨_, h⟩ | ⟨_, h⟩
    · unfold sig2 at h; simp at h
    · cases h
  subst hsv
  conv => arg 1; whnf
  conv => arg 1; whnf
  refine atCall_P (ln h2 a_i4) ?_
  by_cases t0 : (netChk s nt).1 = 0
  rotate_left
  · have hr : ∀ a f, madeRV s nt a f = .tup [zNet, .int .i64 (netChk s nt).1] := fun a f => by unfold madeRV; rw [if_neg (by simpa using s0), if_pos t0]
    generalize (netChk s nt).1 = e at *
    generalize (netChk s nt).2 = e' at *
    conv => arg 1; whnf
    refine atCall_P (pC) ?_
    conv => arg 1; whnf
    cases e1 : (e != 0)
    · exact absurd (by simpa using e1) t0
    conv => arg 1; whnf
    refine atCall_P (stz) ?_
    conv => arg 1; whnf
    exact fin0 _ hr _ gz
  rw [t0] at pC
  generalize (netChk s nt).2 = e' at pC
  conv => arg 1; whnf
  refine atCall_P (pC) ?_
  conv => arg 1; whnf
  refine atCall_P (ln h2 a_i4) ?_
  conv => arg 1; whnf
  refine atCall_P (hRT x (.agg [c, .int .i64 nt.free, w]) s nt h2 hx hv0 (by omega) t0) ?_
  cases hb : treeQ s nt
  · have hr : ∀ a f, madeRV s nt a f = .tup [zNet, .int .i64 62] := fun a f => by unfold madeRV; rw [if_neg (by simpa using s0), if_neg (by simpa using t0), if_pos hb]
    conv => arg 1; whnf
    refine atCall_P (stz) ?_
    conv => arg 1; whnf
    exact fin0 _ hr _ gz
  have g := good_of t0
  have hcl := g.cl
  have f1 := treeQ_free hb
  conv => arg 1; whnf
  refine atCall_P (lc h2 a_i4) ?_
  conv => arg 1; whnf
  refine atCall_P (hlc h2) ?_
  conv => arg 1; whnf
  cases e4 : decide ((nt.cells.length : Int) ≥ 4096)
  rotate_left
  · have hl : nt.cells.length ≥ 4096 := by simp at e4; omega
    have hr : ∀ a f, madeRV s nt a f = .tup [zNet, .int .i64 15] := fun a f => by unfold madeRV; rw [if_neg (by simpa using s0), if_neg (by simpa using t0), if_neg (by simp [hb]), if_pos hl]
    conv => arg 1; whnf
    refine atCall_P (stz) ?_
    conv => arg 1; whnf
    exact fin0 _ hr _ gz
  have hl : ¬ nt.cells.length ≥ 4096 := by simp at e4; omega
  have hr : ∀ a f, madeRV s nt a f = .tup [netC (tidyN (sig2 s) (madeNt nt a f)), .int .i64 0] := fun a f => by unfold madeRV; rw [if_neg (by simpa using s0), if_neg (by simpa using t0), if_neg (by simp [hb]), if_neg hl]
  have s2l : (sig2 s).length = s.length + 2 := by unfold sig2; simp
  clear stz gz pS pC fin0
  conv => arg 1; whnf
  refine atCall_P (alloc_new (z := .agg [.nilsl, .int .i64 0, .nilsl]) (cs := [.nilsl, .int .i64 0, .nilsl]) (by kernel_rfl) rfl rfl) ?_
  generalize hh_h3 : h2.alloc (.cells [.nilsl, .int .i64 0, .nilsl] 43) = h3 at *
  obtain ⟨a_i10, n_i10, k_h3⟩ := alloc_facts hh_h3
  replace a_i4 := k_h3 _ _ a_i4 (by omega)
  replace a_i6 := k_h3 _ _ a_i6 (by omega)
  clear hh_h3 k_h3
  generalize hi_i10 : h2.next = i10 at *
  clear hi_i10
  have st : hOf (aStore Tryz.prog 43 (.ptr i10 0) (.agg [.nilsl, .int .i64 2, .nilsl]) h3) = some (.ret undefA, h3.set i10 (.cells [.nilsl, .int .i64 2, .nilsl] 43)) := st_ptr (n := 3) a_i10 (by kernel_rfl) rfl (by simp) rfl
  conv => arg 1; whnf
  refine atCall_P (st) ?_
  clear st
  generalize hh_h4 : h3.set i10 (.cells [.nilsl, .int .i64 2, .nilsl] 43) = h4 at *
  obtain ⟨b_i10, n_h4, k_h4⟩ := set_facts hh_h4
  replace a_i4 := k_h4 _ _ a_i4 (by rintro rfl; omega)
  replace a_i6 := k_h4 _ _ a_i6 (by rintro rfl; omega)
  clear hh_h4 k_h4
  replace n_h4 : h4.next.nat = h3.next.nat := congrArg Id.nat n_h4
  have l0 : vOf h4 (aLoad Tryz.prog 40 (.ptr i10 0) h4) = some (.ret .nilsl, h4) := ld_ptr (n := 1) b_i10 (by kernel_rfl) (by kernel_rfl) rfl
  conv => arg 1; whnf
  refine atCall_P (l0) ?_
  conv => arg 1; whnf
  refine atCall_P (lc h4 a_i4) ?_
  obtain ⟨l1, h5, r1, r2, r3, r4, r5⟩ := cp_ints (call := call) (h := h4) hc (by omega)
  conv => arg 1; whnf
  refine atCall_P (r1) ?_
  have e10 := r5 _ _ b_i10 (notGrp b_i10) (by omega)
  have e6 := r5 _ _ a_i6 (notGrp a_i6) (by omega)
  have e4' := r5 _ _ a_i4 (notGrp a_i4) (by omega)
  have hl1 := isL_scalar r2.isL
  have st : hOf (aStore Tryz.prog 40 (.ptr i10 0) l1 h5) = some (.ret undefA, h5.set i10 (.cells [l1, .int .i64 2, .nilsl] 43)) := by
    have hcl : l1.cells = [l1] := isL_cells r2.isL
    rw [st_ptr (n := 1) e10 (by kernel_rfl) (by rw [hcl]; rfl) (by simp) (by rw [hcl]; simp only [List.all_cons, hl1, List.all_nil]; rfl), hcl]; rfl
  conv => arg 1; whnf
  refine atCall_P (st) ?_
  have r6 := grow_set r3 (.cells [l1, .int .i64 2, .nilsl] 43) (notGrp e10)
  clear st l0 r1 r5
  generalize hh_h6 : h5.set i10 (.cells [l1, .int .i64 2, .nilsl] 43) = h6 at *
  obtain ⟨b_i10, n_h6, k_h6⟩ := set_facts hh_h6
  replace e4' := k_h6 _ _ e4' (by rintro rfl; omega)
  replace e6 := k_h6 _ _ e6 (by rintro rfl; omega)
  clear hh_h6 k_h6
  replace n_h6 : h6.next.nat = h5.next.nat := congrArg Id.nat n_h6
  conv => arg 1; whnf
  refine atCall_P (lc h6 e4') ?_
  conv => arg 1; whnf
  refine atCall_P (hlc h6) ?_
  cases er
  · obtain ⟨rfl, rfl⟩ : a = s.length ∧ F = 2 := by
      rcases her with ⟨h, _⟩ | ⟨_, h⟩
      · cases h
      · exact h
    have lv : vOf h6 (aLoad Tryz.prog 40 (.ptr i10 0) h6) = some (.ret l1, h6) := ld_ptr (n := 1) b_i10 (by kernel_rfl) (by kernel_rfl) rfl
    conv => arg 1; whnf
    refine atCall_P (lv) ?_
    conv => arg 1; whnf
    refine atCall_P (hls h6) ?_
    obtain ⟨l2, h7, r1, q5, _, r4, r5⟩ := app_ints (call := call) (W := nt.cells) (Y := [(s.length : Int)]) (h := h6) (l := l1) (x := .vsl [.int .i64 s.length] .lit) (.inl r6) (.inr ⟨_, rfl⟩) (by simp; omega)
    conv => arg 1; whnf
    refine atCall_P (r1) ?_
    have d10 := r5 _ _ b_i10 (notGrp b_i10) (by omega)
    have d6 := r5 _ _ e6 (notGrp e6) (by omega)
    have d4 := r5 _ _ e4' (notGrp e4') (by omega)
    have hl2 := isL_scalar q5.isL
    have st : hOf (aStore Tryz.prog 40 (.ptr i10 0) l2 h7) = some (.ret undefA, h7.set i10 (.cells [l2, .int .i64 2, .nilsl] 43)) := by
      have hcl : l2.cells = [l2] := isL_cells q5.isL
      rw [st_ptr (n := 1) d10 (by kernel_rfl) (by rw [hcl]; rfl) (by simp) (by rw [hcl]; simp only [List.all_cons, hl2, List.all_nil]; rfl), hcl]; rfl
    conv => arg 1; whnf
    refine atCall_P (st) ?_
    clear st r1 r5
    generalize hh_h8 : h7.set i10 (.cells [l2, .int .i64 2, .nilsl] 43) = h8 at *
    obtain ⟨b_i10, n_h8, k_h8⟩ := set_facts hh_h8
    replace d4 := k_h8 _ _ d4 (by rintro rfl; omega)
    replace d6 := k_h8 _ _ d6 (by rintro rfl; omega)
    clear hh_h8 k_h8
    replace n_h8 : h8.next.nat = h7.next.nat := congrArg Id.nat n_h8
    have lwl : ∀ h, h.get i10 = some (.cells [l2, .int .i64 2, .nilsl] 43) → vOf h (aLoad Tryz.prog 41 (.ptr i10 2) h) = some (.ret .nilsl, h) := fun h g => ld_ptr (n := 1) g (by kernel_rfl) (by kernel_rfl) rfl
    obtain ⟨wl, h9, t1, t2, _, t3, t4⟩ := app_wires (call := call) (W := []) (Y := [(-1, 0, (nt.cells.length : Int), 1), (-1, 1, (nt.cells.length : Int), 2)]) (h := h8) (l := .nilsl) (x := .vsl [wireV (-1, 0, (nt.cells.length : Int), 1), wireV (-1, 1, (nt.cells.length : Int), 2)] .lit) (.inl (.inl ⟨rfl, rfl⟩)) (.inr ⟨_, rfl⟩) (by simp)
    have z10 := t4 _ _ b_i10 (notGrp b_i10) (by omega)
    have z6 := t4 _ _ d6 (notGrp d6) (by omega)
    have z4 := t4 _ _ d4 (notGrp d4) (by omega)
    have hwls := isL_scalar t2.isL
    have st : hOf (aStore Tryz.prog 41 (.ptr i10 2) wl h9) = some (.ret undefA, h9.set i10 (.cells [l2, .int .i64 2, wl] 43)) := by
      have hcl : wl.cells = [wl] := isL_cells t2.isL
      rw [st_ptr (n := 1) z10 (by kernel_rfl) (by rw [hcl]; rfl) (by simp) (by rw [hcl]; simp only [List.all_cons, hwls, List.all_nil]; rfl), hcl]; rfl
    conv => arg 1; whnf
    refine atRgn_N true (fun hh => hh.get i10 = some (.cells [l2, .int .i64 2, .nilsl] 43)) (T := [0, 1, 0, 0, 12, 28, 28, 0, 220, 476, 1020, 2047, 4095, 8191]) (ord := [0, 1, 3, 7, 2, 4, 5, 6, 8, 9, 10, 11, 12, 13]) (by kernel_rfl) (hrg _ _ _) hN ?_
    conv => arg 1; whnf
    refine atCall_P (lwl h8 b_i10) ?_
    conv => arg 1; whnf
    refine atCall_P (hRf 0 h8) ?_
    conv => arg 1; whnf
    refine atCall_P (hRa (nt.cells.length : Int) 1 h8) ?_
    conv => arg 1; whnf
    refine atCall_P (hRf 1 h8) ?_
    conv => arg 1; whnf
    refine atCall_P (hRa (nt.cells.length : Int) 2 h8) ?_
    conv => arg 1; whnf
    refine atCall_P (t1) ?_
    conv => arg 1; whnf
    refine atCall_P (st) ?_
    conv => arg 1; whnf
    refine atP_P ⟨?_, (fun k hk hp => match k, hk, hp with
      | 0, _, _ => b_i10
      | 1, _, _ => b_i10
      | 2, _, _ => b_i10
      | 3, _, _ => b_i10
      | 4, _, _ => b_i10
      | 5, _, hp => no_pos hp (by kernel_rfl)
      | 6, _, hp => no_pos hp (by kernel_rfl)
      | k + 7, hk, hp => absurd hk (by simp)), (fun a ha => by cases ha), rfl⟩ ?_
    · refine ⟨trivial, fun _ hh g => ⟨hh, lwl hh g⟩, trivial, trivial, trivial, trivial, trivial, trivial, trivial, trivial, trivial, trivial, trivial, trivial, trivial⟩
    have t5 := growB_set t2 (.cells [l2, .int .i64 2, wl] 43) (notGrp z10)
    clear st t1 t4
    generalize hh_h10 : h9.set i10 (.cells [l2, .int .i64 2, wl] 43) = h10 at *
    obtain ⟨b_i10, n_h10, k_h10⟩ := set_facts hh_h10
    replace z4 := k_h10 _ _ z4 (by rintro rfl; omega)
    replace z6 := k_h10 _ _ z6 (by rintro rfl; omega)
    clear hh_h10 k_h10
    replace n_h10 : h10.next.nat = h9.next.nat := congrArg Id.nat n_h10
    conv => arg 1; whnf
    refine lMR (c0 := c) (w := w) (nf := nt.free) (cl := l2) (f := 2) (c := nt.cells.length) (i4 := i4) (i6 := i6) (i10 := i10) call rgn n nt.wires hw (by omega) hRa (W0 := headW nt.cells.length 2) (by unfold headW; simp) ?_ n 0 (z := 0) rfl (Nat.zero_le _) (by omega) ⟨z4, z6, ⟨wl, b_i10, t5⟩, by omega, by omega, by omega⟩
    intro h11 g0 g1 g2 g3 g4 g5 g7 g9 aB aC aD aE aF aG aH aI aJ aK aL aM aN aO aP aQ aR aS aT aU aV aW aX aY aZ bA bB bC bD bE bF bG bH bI bJ bK bL bM bN bO bP bQ bR bS bT bU bV bW bX bY bZ cA cB cC cD cE cF cG cH cI cJ cK cL cM cO cP cQ cT cU cV cW cX cY cZ dA dB dC dD dE dF dG dH dI dJ dK dL dM dN dO dP dQ dR dS dT dU dV dW dX dY dZ eA eB eC eD eE eF eG hI
    obtain ⟨f4, f6, ⟨wl, f10, gw⟩, p1, p2, p3⟩ := hI
    have ln2 : vOf h11 (aLoad Tryz.prog 43 (.ptr i10 0) h11) = some (.ret (.agg [l2, .int .i64 2, wl]), h11) := ld_agg (n := 3) f10 (by kernel_rfl) (by kernel_rfl) (by simp)
    have gd : Good (sig2 s) (madeNt nt s.length 2) := good_made g f1 s0 (by omega) (by omega) (by rw [s2l]; omega) (by rw [portsN_dup]; rfl) (by omega)
    have pN := hNe (.vsl sy sc) (.agg [l2, .int .i64 2, wl]) (sig2 s) (madeNt nt s.length 2) h11 iss ⟨_, _, rfl, q5.isL, gw.isL⟩ (by simp [madeNt, headW]; omega) (by rw [gd.chk])
    obtain ⟨c9, f9, w9, hC, y1, y2, y3⟩ := netC_key (tidyN (sig2 s) (madeNt nt s.length 2))
    have hr2 := hr (s.length) 2
    rw [hC] at pN hr2
    have st2 : hOf (aStore Tryz.prog 43 (.ptr i6 0) (.agg [c9, f9, w9]) h11) = some (.ret undefA, h11.set i6 (.cells [c9, f9, w9] 43)) := st_ptr (n := 3) f6 (by kernel_rfl) rfl (by simp) (by show (c9.scalar && (f9.scalar && (w9.scalar && true))) = true; rw [y1, y2, y3]; rfl)
    conv => arg 1; whnf
    refine atCall_P (ln2) ?_
    conv => arg 1; whnf
    refine atCall_P (pN) ?_
    conv => arg 1; whnf
    refine atCall_P (st2) ?_
    conv => arg 1; whnf
    exact fin _ _ _ _ _ hr2 (by rw [AH.get_set, if_pos rfl])
  · obtain ⟨rfl, rfl⟩ : a = (s.length : Int) + 1 ∧ F = 0 := by
      rcases her with ⟨_, h⟩ | ⟨h, _⟩
      · exact h
      · cases h
    have st : hOf (aStore Tryz.prog 3 (.ptr i10 1) (.int .i64 0) h6) = some (.ret undefA, h6.set i10 (.cells [l1, .int .i64 0, .nilsl] 43)) := st_ptr (n := 1) b_i10 (by kernel_rfl) rfl (by simp) rfl
    conv => arg 1; whnf
    refine atCall_P (st) ?_
    have r6 := grow_set r6 (.cells [l1, .int .i64 0, .nilsl] 43) (notGrp b_i10)
    clear st b_i10
    generalize hh_h6b : h6.set i10 (.cells [l1, .int .i64 0, .nilsl] 43) = h6b at *
    obtain ⟨b_i10, n_h6b, k_h6b⟩ := set_facts hh_h6b
    replace e4' := k_h6b _ _ e4' (by rintro rfl; omega)
    replace e6 := k_h6b _ _ e6 (by rintro rfl; omega)
    clear hh_h6b k_h6b
    replace n_h6b : h6b.next.nat = h6.next.nat := congrArg Id.nat n_h6b
    have hw1 : IntKind.i64.wrap ((s.length : Int) + 1) = (s.length : Int) + 1 := wrap_small (by omega) (by omega)
    have lv : vOf h6b (aLoad Tryz.prog 40 (.ptr i10 0) h6b) = some (.ret l1, h6b) := ld_ptr (n := 1) b_i10 (by kernel_rfl) (by kernel_rfl) rfl
    conv => arg 1; whnf
    refine atCall_P (lv) ?_
    conv => arg 1; whnf
    refine atCall_P (hls h6b) ?_
    obtain ⟨l2, h7, r1, q5, _, r4, r5⟩ := app_ints (call := call) (W := nt.cells) (Y := [(s.length : Int) + 1]) (h := h6b) (l := l1) (x := .vsl [.int .i64 ((s.length : Int) + 1)] .lit) (.inl r6) (.inr ⟨_, rfl⟩) (by simp; omega)
    rw [← hw1] at r1
    conv => arg 1; whnf
    refine atCall_P (r1) ?_
    have d10 := r5 _ _ b_i10 (notGrp b_i10) (by omega)
    have d6 := r5 _ _ e6 (notGrp e6) (by omega)
    have d4 := r5 _ _ e4' (notGrp e4') (by omega)
    have hl2 := isL_scalar q5.isL
    have st : hOf (aStore Tryz.prog 40 (.ptr i10 0) l2 h7) = some (.ret undefA, h7.set i10 (.cells [l2, .int .i64 0, .nilsl] 43)) := by
      have hcl : l2.cells = [l2] := isL_cells q5.isL
      rw [st_ptr (n := 1) d10 (by kernel_rfl) (by rw [hcl]; rfl) (by simp) (by rw [hcl]; simp only [List.all_cons, hl2, List.all_nil]; rfl), hcl]; rfl
    conv => arg 1; whnf
    refine atCall_P (st) ?_
    clear st r1 r5
    generalize hh_h8 : h7.set i10 (.cells [l2, .int .i64 0, .nilsl] 43) = h8 at *
    obtain ⟨b_i10, n_h8, k_h8⟩ := set_facts hh_h8
    replace d4 := k_h8 _ _ d4 (by rintro rfl; omega)
    replace d6 := k_h8 _ _ d6 (by rintro rfl; omega)
    clear hh_h8 k_h8
    replace n_h8 : h8.next.nat = h7.next.nat := congrArg Id.nat n_h8
    conv => arg 1; whnf
    refine lMR (c0 := c) (w := w) (nf := nt.free) (cl := l2) (f := 0) (c := nt.cells.length) (i4 := i4) (i6 := i6) (i10 := i10) call rgn n nt.wires hw (by omega) hRa (W0 := headW nt.cells.length 0) (by unfold headW; simp) ?_ n 0 (z := 0) rfl (Nat.zero_le _) (by omega) ⟨d4, d6, ⟨.nilsl, b_i10, .inl (.inl ⟨rfl, rfl⟩)⟩, by omega, by omega, by omega⟩
    intro h11 g0 g1 g2 g3 g4 g5 g7 g9 aB aC aD aE aF aG aH aI aJ aK aL aM aN aO aP aQ aR aS aT aU aV aW aX aY aZ bA bB bC bD bE bF bG bH bI bJ bK bL bM bN bO bP bQ bR bS bT bU bV bW bX bY bZ cA cB cC cD cE cF cG cH cI cJ cK cL cM cO cP cQ cT cU cV cW cX cY cZ dA dB dC dD dE dF dG dH dI dJ dK dL dM dN dO dP dQ dR dS dT dU dV dW dX dY dZ eA eB eC eD eE eF eG hI
    obtain ⟨f4, f6, ⟨wl, f10, gw⟩, p1, p2, p3⟩ := hI
    have ln2 : vOf h11 (aLoad Tryz.prog 43 (.ptr i10 0) h11) = some (.ret (.agg [l2, .int .i64 0, wl]), h11) := ld_agg (n := 3) f10 (by kernel_rfl) (by kernel_rfl) (by simp)
    have gd : Good (sig2 s) (madeNt nt ((s.length : Int) + 1) 0) := good_made g f1 s0 (by omega) (by omega) (by rw [s2l]; omega) (by rw [portsN_era]; rfl) (by omega)
    have pN := hNe (.vsl sy sc) (.agg [l2, .int .i64 0, wl]) (sig2 s) (madeNt nt ((s.length : Int) + 1) 0) h11 iss ⟨_, _, rfl, q5.isL, gw.isL⟩ (by simp [madeNt, headW]; omega) (by rw [gd.chk])
    obtain ⟨c9, f9, w9, hC, y1, y2, y3⟩ := netC_key (tidyN (sig2 s) (madeNt nt ((s.length : Int) + 1) 0))
    have hr2 := hr (((s.length : Int) + 1)) 0
    rw [hC] at pN hr2
    have st2 : hOf (aStore Tryz.prog 43 (.ptr i6 0) (.agg [c9, f9, w9]) h11) = some (.ret undefA, h11.set i6 (.cells [c9, f9, w9] 43)) := st_ptr (n := 3) f6 (by kernel_rfl) rfl (by simp) (by show (c9.scalar && (f9.scalar && (w9.scalar && true))) = true; rw [y1, y2, y3]; rfl)
    conv => arg 1; whnf
    refine atCall_P (ln2) ?_
    conv => arg 1; whnf
    refine atCall_P (pN) ?_
    conv => arg 1; whnf
    refine atCall_P (st2) ?_
    conv => arg 1; whnf
    exact fin _ _ _ _ _ hr2 (by rw [AH.get_set, if_pos rfl])
theorem madeRV_weak (s : List Ag) (n : Nt) (a : Int) (f : Nat) : weakV (madeRV s n a f) = madeRV s n a f ∧ freeV (madeRV s n a f) = true := by
  unfold madeRV
  repeat' split
  all_goals first | exact ⟨rfl, rfl⟩ | skip
  obtain ⟨h1, h2⟩ := netC_weak (tidyN (sig2 s) (madeNt n a f))
  exact ⟨by show AV.tup [weakV (netC _), .int .i64 0] = _; rw [h1], by show (freeV (netC _) && true) = true; rw [h2]; rfl⟩

def sMR : List AV → Option AV
  | [x, v, .bool true] => match sigOf x, netOf v with | some s, some n => if n.wires.length ≤ 999000 ∧ s.length ≤ 1000000 then some (madeRV s n ((s.length : Int) + 1) 0) else none | _, _ => none
  | [x, v, .bool false] => match sigOf x, netOf v with | some s, some n => if n.wires.length ≤ 999000 ∧ s.length ≤ 1000000 then some (madeRV s n s.length 2) else none | _, _ => none
  | _ => none
def hkMR := addHk hkNe 24 sMR
theorem EMR : EvOK (mkEv Tryz.prog mu0 hkMR) := mkEv_add3 ENe fun args v hs => by
  unfold sMR at hs; split at hs
  · rename_i x v'
    split at hs
    · rename_i s n h1 h2
      split at hs
      · rename_i hl
        cases hs
        obtain ⟨h', hb⟩ := bMR (evCall (mkEv Tryz.prog mu0 hkNe) 1000002) (rg Tryz.prog mu0 hkNe 1000002 24) 1000002 x v' s n true ((s.length : Int) + 1) 0 (.inl ⟨rfl, rfl, rfl⟩) (decL_inv h1) (netOf_inv h2) (hRS_of (fun _ _ => rfl) (by omega)) (hK3_of (fun _ _ => rfl) (by omega)) (hRT_of (fun _ _ => rfl) (by omega)) (hRf_of (fun _ _ => rfl) (by omega)) (hRa_of (fun _ _ => rfl) (by omega)) (hNe_of (fun _ _ => rfl) (by omega)) hl.1 hl.2 (by omega) (fun _ _ _ => rfl) .empty
        obtain ⟨w1, w2⟩ := madeRV_weak s n ((s.length : Int) + 1) 0
        exact ⟨_, w2, w1.symm, ev_ofS shT rfl Tryz.func24 rfl (by kernel_rfl) hb⟩
      · cases hs
    · cases hs
  · rename_i x v'
    split at hs
    · rename_i s n h1 h2
      split at hs
      · rename_i hl
        cases hs
        obtain ⟨h', hb⟩ := bMR (evCall (mkEv Tryz.prog mu0 hkNe) 1000002) (rg Tryz.prog mu0 hkNe 1000002 24) 1000002 x v' s n false s.length 2 (.inr ⟨rfl, rfl, rfl⟩) (decL_inv h1) (netOf_inv h2) (hRS_of (fun _ _ => rfl) (by omega)) (hK3_of (fun _ _ => rfl) (by omega)) (hRT_of (fun _ _ => rfl) (by omega)) (hRf_of (fun _ _ => rfl) (by omega)) (hRa_of (fun _ _ => rfl) (by omega)) (hNe_of (fun _ _ => rfl) (by omega)) hl.1 hl.2 (by omega) (fun _ _ _ => rfl) .empty
        obtain ⟨w1, w2⟩ := madeRV_weak s n s.length 2
        exact ⟨_, w2, w1.symm, ev_ofS shT rfl Tryz.func24 rfl (by kernel_rfl) hb⟩
      · cases hs
    · cases hs
  · cases hs
def hMRt (call : CallT) : Prop := ∀ x v s n h, IsSig x s → IsNet v n → n.wires.length ≤ 999000 → s.length ≤ 1000000 → call (.func 24) [x, v, .bool true] h = some (.ret (madeRV s n ((s.length : Int) + 1) 0), h)
def hMRf (call : CallT) : Prop := ∀ x v s n h, IsSig x s → IsNet v n → n.wires.length ≤ 999000 → s.length ≤ 1000000 → call (.func 24) [x, v, .bool false] h = some (.ret (madeRV s n s.length 2), h)
theorem hMRt_of {hk : Hooks} {n : Nat} (hk' : ∀ args h, hk 24 args h = hkMR 24 args h) (hn : 0 < n) : hMRt (evCall (mkEv Tryz.prog mu0 hk) n) := fun x v s nt h hx hv hl hs => ev_hk (by
  rw [hk']
  refine hk_top (by simp [freeL, freeV, sig_free hx, net_free hv]) ?_
  show (match sigOf (weakV x), netOf (weakV v) with | some s, some n => if n.wires.length ≤ 999000 ∧ s.length ≤ 1000000 then some (madeRV s n ((s.length : Int) + 1) 0) else none | _, _ => none) = _
  rw [sigOf_of hx, netOf_of hv]; simp only [if_pos (And.intro hl hs)]) hn
theorem hMRf_of {hk : Hooks} {n : Nat} (hk' : ∀ args h, hk 24 args h = hkMR 24 args h) (hn : 0 < n) : hMRf (evCall (mkEv Tryz.prog mu0 hk) n) := fun x v s nt h hx hv hl hs => ev_hk (by
  rw [hk']
  refine hk_top (by simp [freeL, freeV, sig_free hx, net_free hv]) ?_
  show (match sigOf (weakV x), netOf (weakV v) with | some s, some n => if n.wires.length ≤ 999000 ∧ s.length ≤ 1000000 then some (madeRV s n s.length 2) else none | _, _ => none) = _
  rw [sigOf_of hx, netOf_of hv]; simp only [if_pos (And.intro hl hs)]) hn

def tab6 : Nat → Option (List Nat) := fun id => match Nat.beq id 999999 with | true => some [] | false => match Nat.beq id 6 with | true => some [0, 1, 2, 3, 4, 5, 6, 7, 8] | false => none

theorem l23 (call rgn n) (x y : AV) (xs : List Int) (hx : IsL x (xs.map intV)) (hy : IsL y (xs.map intV)) (hlen : xs.length ≤ 1000000000) {K : KC (AOut × AH)} {Q : Option (AOut × AH) → Prop}
    (hK : ∀ {h : AH} {g0 g1 g2 g3 g4 g5 g6 g7 g8 g9 aA aB aC aD aE aF aG aH aI aJ aK aL aM aN aO aP : AV}, Q (K (.exit 0) ⟨(g0::g1::g2::g3::g4::g5::g6::g7::g8::g9::aA::aB::aC::aD::aE::aF::aG::aH::aI::aJ::aK::aL::aM::aN::aO::aP::[]), [], h⟩)) :
    ∀ (m i : Nat) {z : Int} {h : AH} {g2 g3 g4 g6 g7 g8 g9 aA aB aC aD aE aF aG aH aI aJ aK aL aM aN aO aP : AV}, z = i → i ≤ xs.length → xs.length - i < m →
    Q (cIter (LB tab6 call rgn n 60 Tryz.f60 0) m ⟨(x::y::g2::g3::g4::.int .i64 z::g6::g7::g8::g9::aA::aB::aC::aD::aE::aF::aG::aH::aI::aJ::aK::aL::aM::aN::aO::aP::[]), [], h⟩ K) := by
  have u : Tryz.prog.underlying 40 = some (.slice 3) := by kernel_rfl
  have hlx := fun h => len_L (X := ⟨Tryz.prog, mu0, call⟩) (mu := false) (h := h) u hx
  rw [List.length_map] at hlx
  intro m
  induction m with
  | zero => intros; omega
  | succ m ih =>
    intro i z h g2 g3 g4 g6 g7 g8 g9 aA aB aC aD aE aF aG aH aI aJ aK aL aM aN aO aP hz hi hm
    rw [cIter_succ]
    conv => arg 1; whnf
    refine atCall_P (hlx _) ?_
    conv => arg 1; whnf
    split
    · rename_i hd
      have hlt : i < xs.length := by simp at hd; omega
      obtain ⟨v, i1, i2⟩ := idx_ints (h := h) (a := z) hx (by omega) (by omega)
      obtain ⟨v', i3, i4⟩ := idx_ints (h := h) (a := z) hy (by omega) (by omega)
      rw [i1] at i3
      simp only [Option.some.injEq] at i3
      subst i3
      conv => arg 1; whnf
      refine atCall_P (i2) ?_
      conv => arg 1; whnf
      refine atCall_P (i4) ?_
      have hv : (v != v) = false := by simp
      conv => arg 1; whnf
      rw [hv]
      conv => arg 1; whnf
      exact ih (i + 1) (by rw [hz]; exact wrap_succ (by omega)) (by omega) (by omega)
    · exact hK

theorem b23 (call rgn n) (x y : AV) (xs : List Int) (hx : IsL x (xs.map intV)) (hy : IsL y (xs.map intV)) (hlen : xs.length ≤ 1000000000) (hn : xs.length < n) (h : AH) : ∃ h', B tab6 call rgn n 60 Tryz.f60 [x, y] h = some (.ret (.bool true), h') := by
  suffices hq : ∀ Q : Option (AOut × AH) → Prop, (∀ h', Q (some (.ret (.bool true), h'))) → Q (B tab6 call rgn n 60 Tryz.f60 [x, y] h) from
    hq (fun y => ∃ h', y = some (.ret (.bool true), h')) (fun h' => ⟨h', rfl⟩)
  intro Q hQ
  have u : Tryz.prog.underlying 40 = some (.slice 3) := by kernel_rfl
  have hlx := fun h => len_L (X := ⟨Tryz.prog, mu0, call⟩) (mu := false) (h := h) u hx
  have hly := fun h => len_L (X := ⟨Tryz.prog, mu0, call⟩) (mu := false) (h := h) u hy
  rw [List.length_map] at hlx hly
  have hv : (((xs.length : Nat) : Int) != ((xs.length : Nat) : Int)) = false := by simp
  conv => arg 1; whnf
  refine atCall_P (hlx _) ?_
  conv => arg 1; whnf
  refine atCall_P (hly _) ?_
  conv => arg 1; whnf
  rw [hv]
  conv => arg 1; whnf
  refine l23 call rgn n x y xs hx hy hlen ?_ n 0 (z := 0) rfl (Nat.zero_le _) (by omega)
  intros
  conv => arg 1; whnf
  exact atLeave_P (leave_plain (.inl rfl) rfl) (hQ _)

theorem ne_wire {ox oy : Operand} (w : Wr) (h : AH) : vOf h (aBinOp Tryz.prog .neq 62 ox oy (wireV w) (wireV w)) = some (.ret (.bool false), h) := by
  obtain ⟨a, b, c, d⟩ := w
  have e : aBinOp Tryz.prog .neq 62 ox oy (wireV (a, b, c, d)) (wireV (a, b, c, d)) = (match (match aEqIn Tryz.prog 9999 60 (.agg [.int .i64 a, .int .i64 b]) (.agg [.int .i64 a, .int .i64 b]) with
    | some true => (match aEqIn Tryz.prog 9999 60 (.agg [.int .i64 c, .int .i64 d]) (.agg [.int .i64 c, .int .i64 d]) with | some true => some true | some false => some false | none => none)
    | some false => some false
    | none => none) with | some b => some (AV.bool (!b)) | none => none) := by kernel_rfl
  have e2 : ∀ b c : Int, aEqIn Tryz.prog 9999 60 (.agg [.int .i64 b, .int .i64 c]) (.agg [.int .i64 b, .int .i64 c]) = (match aEqIn Tryz.prog 9998 3 (.int .i64 b) (.int .i64 b) with
      | some true => (match aEqIn Tryz.prog 9998 3 (.int .i64 c) (.int .i64 c) with | some true => some true | some false => some false | none => none)
      | some false => some false
      | none => none) := fun b c => by kernel_rfl
  have e3 : ∀ a : Int, aEqIn Tryz.prog 9998 3 (.int .i64 a) (.int .i64 a) = some true := fun a => by rw [eqIn_int (d := 9997) (k := .i64) (by kernel_rfl)]; simp
  rw [e, e2, e2, e3, e3, e3, e3]
  rfl

theorem l24 (call rgn n) (x y : AV) (xs : List Wr) (hx : IsL x (xs.map wireV)) (hy : IsL y (xs.map wireV)) (hlen : xs.length ≤ 1000000000) {K : KC (AOut × AH)} {Q : Option (AOut × AH) → Prop}
    (hK : ∀ {h : AH} {g0 g1 g2 g3 g4 g5 g6 g7 g8 g9 aA aB aC aD aE aF aG aH aI aJ aK aL aM aN aO aP : AV}, Q (K (.exit 0) ⟨(g0::g1::g2::g3::g4::g5::g6::g7::g8::g9::aA::aB::aC::aD::aE::aF::aG::aH::aI::aJ::aK::aL::aM::aN::aO::aP::[]), [], h⟩)) :
    ∀ (m i : Nat) {z : Int} {h : AH} {g2 g3 g4 g6 g7 g8 g9 aA aB aC aD aE aF aG aH aI aJ aK aL aM aN aO aP : AV}, z = i → i ≤ xs.length → xs.length - i < m →
    Q (cIter (LB tab6 call rgn n 61 Tryz.f61 0) m ⟨(x::y::g2::g3::g4::.int .i64 z::g6::g7::g8::g9::aA::aB::aC::aD::aE::aF::aG::aH::aI::aJ::aK::aL::aM::aN::aO::aP::[]), [], h⟩ K) := by
  have u : Tryz.prog.underlying 41 = some (.slice 62) := by kernel_rfl
  have hlx := fun h => len_L (X := ⟨Tryz.prog, mu0, call⟩) (mu := false) (h := h) u hx
  rw [List.length_map] at hlx
  intro m
  induction m with
  | zero => intros; omega
  | succ m ih =>
    intro i z h g2 g3 g4 g6 g7 g8 g9 aA aB aC aD aE aF aG aH aI aJ aK aL aM aN aO aP hz hi hm
    rw [cIter_succ]
    conv => arg 1; whnf
    refine atCall_P (hlx _) ?_
    conv => arg 1; whnf
    split
    · rename_i hd
      have hlt : i < xs.length := by simp at hd; omega
      have hg : (xs.map wireV)[i]? = some (wireV xs[i]) := by rw [List.getElem?_map, List.getElem?_eq_getElem hlt]; rfl
      have i2 := idx_L (P := Tryz.prog) (t := 41) (e := 62) (n := 4) (h := h) (k := .i64) u (by kernel_rfl) hx hz hg rfl
      have i4 := idx_L (P := Tryz.prog) (t := 41) (e := 62) (n := 4) (h := h) (k := .i64) u (by kernel_rfl) hy hz hg rfl
      generalize xs[i] = ww at i2 i4
      obtain ⟨a, b, c, d⟩ := ww
      conv => arg 1; whnf
      refine atCall_P (i2) ?_
      conv => arg 1; whnf
      refine atCall_P (i4) ?_
      conv => arg 1; whnf
      refine atCall_P (ne_wire (a, b, c, d) h) ?_
      conv => arg 1; whnf
      exact ih (i + 1) (by rw [hz]; exact wrap_succ (by omega)) (by omega) (by omega)
    · exact hK

theorem b24 (call rgn n) (x y : AV) (xs : List Wr) (hx : IsL x (xs.map wireV)) (hy : IsL y (xs.map wireV)) (hlen : xs.length ≤ 1000000000) (hn : xs.length < n) (h : AH) : ∃ h', B tab6 call rgn n 61 Tryz.f61 [x, y] h = some (.ret (.bool true), h') := by
  suffices hq : ∀ Q : Option (AOut × AH) → Prop, (∀ h', Q (some (.ret (.bool true), h'))) → Q (B tab6 call rgn n 61 Tryz.f61 [x, y] h) from
    hq (fun y => ∃ h', y = some (.ret (.bool true), h')) (fun h' => ⟨h', rfl⟩)
  intro Q hQ
  have u : Tryz.prog.underlying 41 = some (.slice 62) := by kernel_rfl
  have hlx := fun h => len_L (X := ⟨Tryz.prog, mu0, call⟩) (mu := false) (h := h) u hx
  have hly := fun h => len_L (X := ⟨Tryz.prog, mu0, call⟩) (mu := false) (h := h) u hy
  rw [List.length_map] at hlx hly
  have hv : (((xs.length : Nat) : Int) != ((xs.length : Nat) : Int)) = false := by simp
  conv => arg 1; whnf
  refine atCall_P (hlx _) ?_
  conv => arg 1; whnf
  refine atCall_P (hly _) ?_
  conv => arg 1; whnf
  rw [hv]
  conv => arg 1; whnf
  refine l24 call rgn n x y xs hx hy hlen ?_ n 0 (z := 0) rfl (Nat.zero_le _) (by omega)
  intros
  conv => arg 1; whnf
  exact atLeave_P (leave_plain (.inl rfl) rfl) (hQ _)
def s23 : List AV → Option AV
  | [x, y] => match intsOf x, intsOf y with | some a, some b => if a = b ∧ a.length ≤ 1000000000 then some (.bool true) else none | _, _ => none
  | _ => none
def s24 : List AV → Option AV
  | [x, y] => match wiresOf x, wiresOf y with | some a, some b => if a = b ∧ a.length ≤ 1000000000 then some (.bool true) else none | _, _ => none
  | _ => none
noncomputable def hk23 := addHk hkMR 60 s23
noncomputable def hk24 := addHk hk23 61 s24

theorem fits23 : tabFits Tryz.prog (mu0 60) tab6 (codeOf Tryz.f60) = true := by kernel_rfl
theorem fits24 : tabFits Tryz.prog (mu0 61) tab6 (codeOf Tryz.f61) = true := by kernel_rfl

theorem E23 : EvOK (mkEv Tryz.prog mu0 hk23) := mkEv_add EMR fun args v hs => by
  unfold s23 at hs; split at hs
  · rename_i x y
    split at hs
    · rename_i a b h1 h2
      split at hs
      · rename_i hl
        obtain ⟨rfl, hl⟩ := hl
        cases hs
        obtain ⟨N, hN⟩ : ∃ N, N = a.length + 1 := ⟨_, rfl⟩
        obtain ⟨h', hb⟩ := b23 (evCall (mkEv Tryz.prog mu0 hkMR) N) (rg Tryz.prog mu0 hkMR N 60) N x y a (decL_inv h1) (decL_inv h2) hl (by omega) .empty
        exact ⟨rfl, ev_ofS tab6 rfl Tryz.func60 rfl fits23 hb⟩
      · cases hs
    · cases hs
  · cases hs
theorem E24 : EvOK (mkEv Tryz.prog mu0 hk24) := mkEv_add E23 fun args v hs => by
  unfold s24 at hs; split at hs
  · rename_i x y
    split at hs
    · rename_i a b h1 h2
      split at hs
      · rename_i hl
        obtain ⟨rfl, hl⟩ := hl
        cases hs
        obtain ⟨N, hN⟩ : ∃ N, N = a.length + 1 := ⟨_, rfl⟩
        obtain ⟨h', hb⟩ := b24 (evCall (mkEv Tryz.prog mu0 hk23) N) (rg Tryz.prog mu0 hk23 N 61) N x y a (decL_inv h1) (decL_inv h2) hl (by omega) .empty
        exact ⟨rfl, ev_ofS tab6 rfl Tryz.func61 rfl fits24 hb⟩
      · cases hs
    · cases hs
  · cases hs

def h23 (call : CallT) : Prop := ∀ x y (l : List Int) h, IsL x (l.map intV) → IsL y (l.map intV) → l.length ≤ 1000000000 → call (.func 60) [x, y] h = some (.ret (.bool true), h)
def h24 (call : CallT) : Prop := ∀ x y (l : List Wr) h, IsL x (l.map wireV) → IsL y (l.map wireV) → l.length ≤ 1000000000 → call (.func 61) [x, y] h = some (.ret (.bool true), h)
theorem h23_of {hk : Hooks} {n : Nat} (hk' : ∀ args h, hk 60 args h = hk23 60 args h) (hn : 0 < n) : h23 (evCall (mkEv Tryz.prog mu0 hk) n) := fun x y l h hx hy hl => ev_hk (by
  rw [hk']
  obtain ⟨a1, a2⟩ := intsOf_of hx
  obtain ⟨b1, b2⟩ := intsOf_of hy
  refine hk_top (by simp [freeL, a2, b2]) ?_
  show (match intsOf (weakV x), intsOf (weakV y) with | some a, some b => if a = b ∧ a.length ≤ 1000000000 then some (AV.bool true) else none | _, _ => none) = _
  rw [a1, b1]; simp only [true_and, if_pos hl]) hn
theorem h24_of {hk : Hooks} {n : Nat} (hk' : ∀ args h, hk 61 args h = hk24 61 args h) (hn : 0 < n) : h24 (evCall (mkEv Tryz.prog mu0 hk) n) := fun x y l h hx hy hl => ev_hk (by
  rw [hk']
  obtain ⟨a1, a2⟩ := wiresOf_of hx
  obtain ⟨b1, b2⟩ := wiresOf_of hy
  refine hk_top (by simp [freeL, a2, b2]) ?_
  show (match wiresOf (weakV x), wiresOf (weakV y) with | some a, some b => if a = b ∧ a.length ≤ 1000000000 then some (AV.bool true) else none | _, _ => none) = _
  rw [a1, b1]; simp only [true_and, if_pos hl]) hn

theorem b9 (call rgn n) (u v : AV) (nt : Nt) (hu : IsNet u nt) (hv : IsNet v nt) (l1 : nt.cells.length ≤ 1000000000) (l2 : nt.wires.length ≤ 1000000000) (h23 : h23 call) (h24 : h24 call) (h : AH) : ∃ h', B shT call rgn n 26 Tryz.f26 [u, v] h = some (.ret (.bool true), h') := by
  suffices hq : ∀ Q : Option (AOut × AH) → Prop, (∀ h', Q (some (.ret (.bool true), h'))) → Q (B shT call rgn n 26 Tryz.f26 [u, v] h) from
    hq (fun y => ∃ h', y = some (.ret (.bool true), h')) (fun h' => ⟨h', rfl⟩)
  intro Q hQ
  obtain ⟨c, w, rfl, hc, hw⟩ := hu
  obtain ⟨c', w', rfl, hc', hw'⟩ := hv
  have hcs := isL_scalar hc
  have hws := isL_scalar hw
  have hcs' := isL_scalar hc'
  have hws' := isL_scalar hw'
  conv => arg 1; whnf
  refine atCall_P (box_new (cs := [c, .int .i64 nt.free, w]) rfl (by simp only [List.all_cons, hcs, hws, List.all_nil]; rfl)) ?_
  generalize hh_h1 : h.alloc (.cells [c, .int .i64 nt.free, w] 43) = h1 at *
  obtain ⟨a_i2, n_i2, k_h1⟩ := alloc_facts hh_h1
  clear hh_h1 k_h1
  generalize hi_i2 : h.next = i2 at *
  clear hi_i2
  conv => arg 1; whnf
  refine atCall_P (box_new (cs := [c', .int .i64 nt.free, w']) rfl (by simp only [List.all_cons, hcs', hws', List.all_nil]; rfl)) ?_
  generalize hh_h2 : h1.alloc (.cells [c', .int .i64 nt.free, w'] 43) = h2 at *
  obtain ⟨a_i3, n_i3, k_h2⟩ := alloc_facts hh_h2
  replace a_i2 := k_h2 _ _ a_i2 (by omega)
  clear hh_h2 k_h2
  generalize hi_i3 : h1.next = i3 at *
  clear hi_i3
  have f2 : vOf h2 (aLoad Tryz.prog 3 (.ptr i2 1) h2) = some (.ret (.int .i64 nt.free), h2) := ld_ptr (n := 1) a_i2 (by kernel_rfl) (by kernel_rfl) rfl
  have f3 : vOf h2 (aLoad Tryz.prog 3 (.ptr i3 1) h2) = some (.ret (.int .i64 nt.free), h2) := ld_ptr (n := 1) a_i3 (by kernel_rfl) (by kernel_rfl) rfl
  have c2 : vOf h2 (aLoad Tryz.prog 40 (.ptr i2 0) h2) = some (.ret c, h2) := ld_ptr (n := 1) a_i2 (by kernel_rfl) (by kernel_rfl) rfl
  have c3 : vOf h2 (aLoad Tryz.prog 40 (.ptr i3 0) h2) = some (.ret c', h2) := ld_ptr (n := 1) a_i3 (by kernel_rfl) (by kernel_rfl) rfl
  have w2 : vOf h2 (aLoad Tryz.prog 41 (.ptr i2 2) h2) = some (.ret w, h2) := ld_ptr (n := 1) a_i2 (by kernel_rfl) (by kernel_rfl) rfl
  have w3 : vOf h2 (aLoad Tryz.prog 41 (.ptr i3 2) h2) = some (.ret w', h2) := ld_ptr (n := 1) a_i3 (by kernel_rfl) (by kernel_rfl) rfl
  have hf : (nt.free == nt.free) = true := by simp
  conv => arg 1; whnf
  refine atCall_P (f2) ?_
  conv => arg 1; whnf
  refine atCall_P (f3) ?_
  conv => arg 1; whnf
  rw [hf]
  conv => arg 1; whnf
  refine atCall_P (c2) ?_
  conv => arg 1; whnf
  refine atCall_P (c3) ?_
  conv => arg 1; whnf
  refine atCall_P (h23 c c' nt.cells h2 hc hc' l1) ?_
  conv => arg 1; whnf
  refine atCall_P (w2) ?_
  conv => arg 1; whnf
  refine atCall_P (w3) ?_
  conv => arg 1; whnf
  refine atCall_P (h24 w w' nt.wires h2 hw hw' l2) ?_
  conv => arg 1; whnf
  exact atLeave_P (leave_plain (.inl rfl) rfl) (hQ _)

def s9 : List AV → Option AV
  | [u, v] => match netOf u, netOf v with | some a, some b => if a.cells = b.cells ∧ a.free = b.free ∧ a.wires = b.wires ∧ a.cells.length ≤ 1000000000 ∧ a.wires.length ≤ 1000000000 then some (.bool true) else none | _, _ => none
  | _ => none
noncomputable def hk9 := addHk hk24 26 s9
theorem E9 : EvOK (mkEv Tryz.prog mu0 hk9) := mkEv_add E24 fun args v hs => by
  unfold s9 at hs; split at hs
  · rename_i x y
    split at hs
    · rename_i a b h1 h2
      split at hs
      · rename_i hl
        obtain ⟨e1, e2, e3, l1, l2⟩ := hl
        have e : a = b := by
          cases a; cases b
          simp only at e1 e2 e3
          subst e1; subst e2; subst e3; rfl
        subst e
        cases hs
        obtain ⟨h', hb⟩ := b9 (evCall (mkEv Tryz.prog mu0 hk24) 1) (rg Tryz.prog mu0 hk24 1 26) 1 x y a (netOf_inv h1) (netOf_inv h2) l1 l2 (h23_of (fun _ _ => rfl) (by omega)) (h24_of (fun _ _ => rfl) (by omega)) .empty
        exact ⟨rfl, ev_ofS shT rfl Tryz.func26 rfl (by kernel_rfl) hb⟩
      · cases hs
    · cases hs
  · cases hs
def h9 (call : CallT) : Prop := ∀ u v nt h, IsNet u nt → IsNet v nt → nt.cells.length ≤ 1000000000 → nt.wires.length ≤ 1000000000 → call (.func 26) [u, v] h = some (.ret (.bool true), h)
theorem h9_of {hk : Hooks} {n : Nat} (hk' : ∀ args h, hk 26 args h = hk9 26 args h) (hn : 0 < n) : h9 (evCall (mkEv Tryz.prog mu0 hk) n) := fun u v nt h hu hv l1 l2 => ev_hk (by
  rw [hk']
  refine hk_top (by simp [freeL, net_free hu, net_free hv]) ?_
  show (match netOf (weakV u), netOf (weakV v) with | some a, some b => if a.cells = b.cells ∧ a.free = b.free ∧ a.wires = b.wires ∧ a.cells.length ≤ 1000000000 ∧ a.wires.length ≤ 1000000000 then some (AV.bool true) else none | _, _ => none) = _
  rw [netOf_of hu, netOf_of hv]
  simp only [true_and, l1, l2, and_self, if_true]) hn

def sizeF : List Ag → Int → Int
  | [], n => n
  | g :: r, n => if decide (n ≤ 2147483647) = true then sizeF r (IntKind.i64.wrap (n + g.1.length)) else n

theorem len_Sx {call : CallT} {mu : Bool} (gn : List UInt8) (h : AH) : aBuiltin ⟨Tryz.prog, mu0, call⟩ mu .len #[9] [.str gn] h = some (.ret (.int .i64 gn.length), h) := by
  have ht : Tryz.prog.underlying 9 = some .string := by kernel_rfl
  simp [aBuiltin, aLen, ht, vOf]

theorem l11 (call rgn n) (x : AV) (s : List Ag) (hx : IsSig x s) (hlen : s.length ≤ 1000000000) {R : Int} {K : KC (AOut × AH)} {Q : Option (AOut × AH) → Prop}
    (hK : ∀ {h : AH} {g0 g1 g2 g4 g5 g6 g7 g8 g9 aA aB aC aD aE aF aG aH aI aJ aK aL aM aN aO aP : AV}, Q (K (.exit 0) ⟨(g0::g1::g2::.int .i64 R::g4::g5::g6::g7::g8::g9::aA::aB::aC::aD::aE::aF::aG::aH::aI::aJ::aK::aL::aM::aN::aO::aP::[]), [], h⟩)) :
    ∀ (m i : Nat) {z a : Int} {h : AH} {g1 g2 g5 g6 g7 g8 g9 aA aB aC aD aE aF aG aH aI aJ aK aL aM aN aO aP : AV}, z = i → i ≤ s.length → s.length - i < m → sizeF (s.drop i) a = R →
    Q (cIter (LB shT call rgn n 7 Tryz.f7 0) m ⟨(x::g1::g2::.int .i64 a::.int .i64 z::g5::g6::g7::g8::g9::aA::aB::aC::aD::aE::aF::aG::aH::aI::aJ::aK::aL::aM::aN::aO::aP::[]), [], h⟩ K) := by
  have u : Tryz.prog.underlying 22 = some (.slice 58) := by kernel_rfl
  have hlx := fun h => len_L (X := ⟨Tryz.prog, mu0, call⟩) (mu := false) (h := h) u hx
  rw [List.length_map] at hlx
  intro m
  induction m with
  | zero => intros; omega
  | succ m ih =>
    intro i z a h g1 g2 g5 g6 g7 g8 g9 aA aB aC aD aE aF aG aH aI aJ aK aL aM aN aO aP hz hi hm hR
    rw [cIter_succ]
    conv => arg 1; whnf
    refine atCall_P (hlx _) ?_
    conv => arg 1; whnf
    split
    · rename_i hd
      have hlt : i < s.length := by simp at hd; omega
      have hdrop : s.drop i = s[i] :: s.drop (i + 1) := List.drop_eq_getElem_cons hlt
      have hg : (s.map agV)[i]? = some (agV s[i]) := by rw [List.getElem?_map, List.getElem?_eq_getElem hlt]; rfl
      have hidx := fun h => idx_L (P := Tryz.prog) (t := 22) (e := 58) (n := 2) (h := h) (k := .i64) u (by kernel_rfl) hx hz hg rfl
      rw [hdrop] at hR
      simp only [sizeF] at hR
      generalize s[i] = g at hidx hR
      obtain ⟨gn, ga⟩ := g
      conv => arg 1; whnf
      cases e1 : decide (a ≤ 2147483647)
      · rw [if_neg (by simp [e1])] at hR
        subst hR
        conv => arg 1; whnf
        exact hK
      · rw [if_pos e1] at hR
        conv => arg 1; whnf
        refine atCall_P (hidx _) ?_
        conv => arg 1; whnf
        refine atCall_P (len_Sx gn _) ?_
        conv => arg 1; whnf
        exact ih (i + 1) (by rw [hz]; exact wrap_succ (by omega)) (by omega) (by omega) hR
    · rename_i hd
      have hlt : ¬ i < s.length := by simp at hd; omega
      rw [List.drop_eq_nil_of_le (by omega)] at hR
      simp only [sizeF] at hR
      subst hR
      exact hK

theorem b11 (call rgn n) (x : AV) (s : List Ag) (hx : IsSig x s) (hlen : s.length ≤ 1000000000) (hn : s.length < n) (h : AH) : ∃ h', B shT call rgn n 7 Tryz.f7 [x] h = some (.ret (.int .i64 (sizeF s s.length)), h') := by
  suffices hq : ∀ Q : Option (AOut × AH) → Prop, (∀ h', Q (some (.ret (.int .i64 (sizeF s s.length)), h'))) → Q (B shT call rgn n 7 Tryz.f7 [x] h) from
    hq (fun y => ∃ h', y = some (.ret (.int .i64 (sizeF s s.length)), h')) (fun h' => ⟨h', rfl⟩)
  intro Q hQ
  have u : Tryz.prog.underlying 22 = some (.slice 58) := by kernel_rfl
  have hlx := fun h => len_L (X := ⟨Tryz.prog, mu0, call⟩) (mu := false) (h := h) u hx
  rw [List.length_map] at hlx
  conv => arg 1; whnf
  refine atCall_P (hlx _) ?_
  conv => arg 1; whnf
  refine l11 call rgn n x s hx hlen (R := sizeF s s.length) ?_ n 0 (z := 0) rfl (Nat.zero_le _) (by omega) (by rw [List.drop_zero])
  intros
  conv => arg 1; whnf
  exact atLeave_P (leave_plain (.inl rfl) rfl) (hQ _)

theorem b10 (call rgn n) (a : Int) (h : AH) : B shT call rgn n 6 Tryz.f6 [.int .i64 a] h = some (.ret (.bool (decide (a > 2147483647))), h) := by
  conv => lhs; whnf
  exact leave_eq (.inl rfl) rfl rfl

def s11 : List AV → Option AV | [x] => (match sigOf x with | some s => if s.length ≤ 1000000000 then some (.int .i64 (sizeF s s.length)) else none | none => none) | _ => none
def s10 : List AV → Option AV | [.int .i64 a] => some (.bool (decide (a > 2147483647))) | _ => none
noncomputable def hk11 := addHk hk9 7 s11
noncomputable def hk10 := addHk hk11 6 s10
theorem E11 : EvOK (mkEv Tryz.prog mu0 hk11) := mkEv_add E9 fun args v hs => by
  unfold s11 at hs; split at hs
  · split at hs
    · rename_i x s h1
      split at hs
      · rename_i hl
        cases hs
        obtain ⟨N, hN⟩ : ∃ N, N = s.length + 1 := ⟨_, rfl⟩
        obtain ⟨h', hb⟩ := b11 (evCall (mkEv Tryz.prog mu0 hk9) N) (rg Tryz.prog mu0 hk9 N 7) N _ s (decL_inv h1) hl (by omega) .empty
        exact ⟨rfl, ev_ofS shT rfl Tryz.func7 rfl (by kernel_rfl) hb⟩
      · cases hs
    · cases hs
  · cases hs
theorem E10 : EvOK (mkEv Tryz.prog mu0 hk10) := mkEv_add E11 fun args v hs => by
  unfold s10 at hs; split at hs <;> cases hs
  exact ⟨rfl, ev_ofS shT (n := 1) rfl Tryz.func6 rfl (by kernel_rfl) (b10 _ _ _ _ _)⟩

theorem h11_of {hk : Hooks} {n : Nat} (hk' : ∀ args h, hk 7 args h = hk11 7 args h) (hn : 0 < n) {x : AV} {s : List Ag} (h : AH) (hx : IsSig x s) (hl : s.length ≤ 1000000000) : evCall (mkEv Tryz.prog mu0 hk) n (.func 7) [x] h = some (.ret (.int .i64 (sizeF s s.length)), h) := ev_hk (by
  rw [hk']
  refine hk_top (by simp [freeL, sig_free hx]) ?_
  show (match sigOf (weakV x) with | some s => if s.length ≤ 1000000000 then some (AV.int .i64 (sizeF s s.length)) else none | none => none) = _
  rw [sigOf_of hx]; simp only [if_pos hl]) hn
theorem h10_of {hk : Hooks} {n : Nat} (hk' : ∀ args h, hk 6 args h = hk10 6 args h) (hn : 0 < n) (a : Int) (h : AH) : evCall (mkEv Tryz.prog mu0 hk) n (.func 6) [.int .i64 a] h = some (.ret (.bool (decide (a > 2147483647))), h) := ev_hk (by
  rw [hk']
  exact hk_top rfl rfl) hn

def muchF (s : List Ag) (n : Nt) : Bool := decide ((s.length : Int) > 1024) || decide (sizeF s s.length > 2147483647) || decide ((n.cells.length : Int) > 8192) || decide ((n.wires.length : Int) > 32768)

theorem b4 (call rgn n) (x v : AV) (s : List Ag) (nt : Nt) (hx : IsSig x s) (hv : IsNet v nt) (h11 : ∀ h, s.length ≤ 1000000000 → call (.func 7) [x] h = some (.ret (.int .i64 (sizeF s s.length)), h)) (h10 : ∀ a h, call (.func 6) [.int .i64 a] h = some (.ret (.bool (decide (a > 2147483647))), h)) (h : AH) :
    ∃ h', B shT call rgn n 18 Tryz.f18 [x, v] h = some (.ret (.bool (muchF s nt)), h') := by
  suffices hq : ∀ Q : Option (AOut × AH) → Prop, (∀ b h', muchF s nt = b → Q (some (.ret (.bool b), h'))) → Q (B shT call rgn n 18 Tryz.f18 [x, v] h) from
    hq (fun y => ∃ h', y = some (.ret (.bool (muchF s nt)), h')) (fun b h' hb => ⟨h', by rw [hb]⟩)
  intro Q hQ
  obtain ⟨c, w, rfl, hc, hw⟩ := hv
  have hcs := isL_scalar hc
  have hws := isL_scalar hw
  have u22 : Tryz.prog.underlying 22 = some (.slice 58) := by kernel_rfl
  have u23 : Tryz.prog.underlying 40 = some (.slice 3) := by kernel_rfl
  have u24 : Tryz.prog.underlying 41 = some (.slice 62) := by kernel_rfl
  have hls := fun h => len_L (X := ⟨Tryz.prog, mu0, call⟩) (mu := false) (h := h) u22 hx
  have hlc := fun h => len_L (X := ⟨Tryz.prog, mu0, call⟩) (mu := false) (h := h) u23 hc
  have hlw := fun h => len_L (X := ⟨Tryz.prog, mu0, call⟩) (mu := false) (h := h) u24 hw
  rw [List.length_map] at hls hlc hlw
  conv => arg 1; whnf
  refine atCall_P (box_new (cs := [c, .int .i64 nt.free, w]) rfl (by simp only [List.all_cons, hcs, hws, List.all_nil]; rfl)) ?_
  generalize hh_h1 : h.alloc (.cells [c, .int .i64 nt.free, w] 43) = h1 at *
  obtain ⟨a_i3, n_i3, k_h1⟩ := alloc_facts hh_h1
  clear hh_h1 k_h1
  generalize hi_i3 : h.next = i3 at *
  clear hi_i3
  have l0 : vOf h1 (aLoad Tryz.prog 40 (.ptr i3 0) h1) = some (.ret c, h1) := ld_ptr (n := 1) a_i3 (by kernel_rfl) (by kernel_rfl) rfl
  have l2 : vOf h1 (aLoad Tryz.prog 41 (.ptr i3 2) h1) = some (.ret w, h1) := ld_ptr (n := 1) a_i3 (by kernel_rfl) (by kernel_rfl) rfl
  conv => arg 1; whnf
  refine atCall_P (hls _) ?_
  conv => arg 1; whnf
  cases e1 : decide ((s.length : Int) > 1024)
  · conv => arg 1; whnf
    refine atCall_P (h11 h1 (by simp at e1; omega)) ?_
    conv => arg 1; whnf
    refine atCall_P (h10 _ h1) ?_
    conv => arg 1; whnf
    cases e2 : decide (sizeF s s.length > 2147483647)
    · conv => arg 1; whnf
      refine atCall_P (l0) ?_
      conv => arg 1; whnf
      refine atCall_P (hlc _) ?_
      conv => arg 1; whnf
      cases e3 : decide ((nt.cells.length : Int) > 8192)
      · conv => arg 1; whnf
        refine atCall_P (l2) ?_
        conv => arg 1; whnf
        refine atCall_P (hlw _) ?_
        conv => arg 1; whnf
        exact atLeave_P (leave_plain (.inl rfl) rfl) (hQ _ _ (by simp only [muchF, e1, e2, e3, Bool.false_or]))
      · conv => arg 1; whnf
        exact atLeave_P (leave_plain (.inl rfl) rfl) (hQ _ _ (by simp only [muchF, e1, e2, e3, Bool.false_or, Bool.true_or]))
    · conv => arg 1; whnf
      exact atLeave_P (leave_plain (.inl rfl) rfl) (hQ _ _ (by simp only [muchF, e1, e2, Bool.false_or, Bool.true_or]))
  · conv => arg 1; whnf
    exact atLeave_P (leave_plain (.inl rfl) rfl) (hQ _ _ (by simp only [muchF, e1, Bool.true_or]))

def s4 : List AV → Option AV | [x, v] => (match sigOf x, netOf v with | some s, some n => some (.bool (muchF s n)) | _, _ => none) | _ => none
noncomputable def hk4 := addHk hk10 18 s4
theorem E4 : EvOK (mkEv Tryz.prog mu0 hk4) := mkEv_add E10 fun args v hs => by
  unfold s4 at hs; split at hs
  · rename_i x v'
    split at hs
    · rename_i s n h1 h2
      cases hs
      obtain ⟨h', hb⟩ := b4 (evCall (mkEv Tryz.prog mu0 hk10) 1) (rg Tryz.prog mu0 hk10 1 18) 1 x v' s n (decL_inv h1) (netOf_inv h2)
        (fun h hl => h11_of (hk := hk10) (n := 1) (fun _ _ => rfl) (by omega) h (decL_inv h1) hl) (h10_of (hk := hk10) (n := 1) (fun _ _ => rfl) (by omega)) .empty
      exact ⟨rfl, ev_ofS shT rfl Tryz.func18 rfl (by kernel_rfl) hb⟩
    · cases hs
  · cases hs
def h4 (call : CallT) : Prop := ∀ x v s nt h, IsSig x s → IsNet v nt → call (.func 18) [x, v] h = some (.ret (.bool (muchF s nt)), h)
theorem h4_of {hk : Hooks} {n : Nat} (hk' : ∀ args h, hk 18 args h = hk4 18 args h) (hn : 0 < n) : h4 (evCall (mkEv Tryz.prog mu0 hk) n) := fun x v s nt h hx hv => ev_hk (by
  rw [hk']
  refine hk_top (by simp [freeL, sig_free hx, net_free hv]) ?_
  show (match sigOf (weakV x), netOf (weakV v) with | some s, some n => some (AV.bool (muchF s n)) | _, _ => none) = _
  rw [sigOf_of hx, netOf_of hv]) hn
theorem tree_law (s : List Ag) (n : Nt) : treeE s n = (decide ((netChk s n).1 = 0) && treeQ s n, (netChk s n).1) := by
  unfold treeE
  by_cases h0 : (netChk s n).1 = 0
  · rw [if_neg (by simpa using h0)]
    by_cases h1 : n.free = 1
    · rw [if_neg (by simpa using h1), tree_eq (tree_ok (good_of h0) h1)]
      unfold treeQ
      rw [show (n.free == 1) = true by simpa using h1]
      simp [h0]
    · rw [if_pos h1]
      unfold treeQ
      rw [show (n.free == 1) = false by simpa using h1]
      simp [h0]
  · rw [if_pos h0]
    simp [h0]

theorem tw_len (M : Lk) : ∀ ps : List Pt, (tw M ps).length ≤ ps.length
  | [] => by simp [tw]
  | p :: r => by
    have := tw_len M r
    simp only [tw]; split <;> simp <;> omega

theorem made_both (s : List Ag) (n : Nt) (a : Int) (F : Nat) (hF : (a = s.length ∧ F = 2) ∨ (a = (s.length : Int) + 1 ∧ F = 0)) :
    ∃ (c1 w1 c2 w2 : AV) (N : Nt) (e : Int), madeV s n a F = .tup [.agg [c1, .int .i64 N.free, w1], .int .i64 e] ∧ madeRV s n a F = .tup [.agg [c2, .int .i64 N.free, w2], .int .i64 e] ∧ IsL c1 (N.cells.map intV) ∧ IsL w1 (N.wires.map wireV) ∧ IsL c2 (N.cells.map intV) ∧ IsL w2 (N.wires.map wireV) ∧ N.cells.length ≤ 1000000000 ∧ N.wires.length ≤ 1000000000 := by
  have z : ∀ e : Int, madeV s n a F = .tup [zNet, .int .i64 e] → madeRV s n a F = .tup [zNet, .int .i64 e] → ∃ (c1 w1 c2 w2 : AV) (N : Nt) (e : Int), madeV s n a F = .tup [.agg [c1, .int .i64 N.free, w1], .int .i64 e] ∧ madeRV s n a F = .tup [.agg [c2, .int .i64 N.free, w2], .int .i64 e] ∧ IsL c1 (N.cells.map intV) ∧ IsL w1 (N.wires.map wireV) ∧ IsL c2 (N.cells.map intV) ∧ IsL w2 (N.wires.map wireV) ∧ N.cells.length ≤ 1000000000 ∧ N.wires.length ≤ 1000000000 :=
    fun e h1 h2 => ⟨.nilsl, .nilsl, .nilsl, .nilsl, ⟨[], 0, []⟩, e, h1, h2, .inl ⟨rfl, rfl⟩, .inl ⟨rfl, rfl⟩, .inl ⟨rfl, rfl⟩, .inl ⟨rfl, rfl⟩, by simp, by simp⟩
  have ht := tree_law s n
  by_cases s0 : sigE s = 0
  rotate_left
  · exact z (sigE s) (by unfold madeV; rw [if_pos s0]) (by unfold madeRV; rw [if_pos s0])
  by_cases h0 : (netChk s n).1 = 0
  rotate_left
  · exact z (netChk s n).1 (by unfold madeV; rw [if_neg (by simpa using s0), ht, if_pos h0]) (by unfold madeRV; rw [if_neg (by simpa using s0), if_pos h0])
  have ht1 : (treeE s n).1 = treeQ s n := by rw [ht]; simp [h0]
  have ht2 : (treeE s n).2 = 0 := by rw [ht]; exact h0
  cases hq : treeQ s n
  · exact z 62 (by unfold madeV; rw [if_neg (by simpa using s0), if_neg (by simpa using ht2), if_pos (by rw [ht1, hq])]) (by unfold madeRV; rw [if_neg (by simpa using s0), if_neg (by simpa using h0), if_pos hq])
  have g := good_of h0
  have hcl := g.cl
  by_cases hl : n.cells.length = 4096
  · exact z 15 (by unfold madeV; rw [if_neg (by simpa using s0), if_neg (by simpa using ht2), if_neg (by rw [ht1, hq]; simp), if_pos hl]) (by unfold madeRV; rw [if_neg (by simpa using s0), if_neg (by simpa using h0), if_neg (by simp [hq]), if_pos (by omega)])
  have f1 := treeQ_free hq
  have s2l : (sig2 s).length = s.length + 2 := by unfold sig2; simp
  have gd : Good (sig2 s) (madeNt n a F) := by
    rcases hF with ⟨rfl, rfl⟩ | ⟨rfl, rfl⟩
    · exact good_made g f1 s0 (by omega) (by omega) (by rw [s2l]; omega) (by rw [portsN_dup]; rfl) (by omega)
    · exact good_made g f1 s0 (by omega) (by omega) (by rw [s2l]; omega) (by rw [portsN_era]; rfl) (by omega)
  have e1 : madeV s n a F = .tup [netW (tidyN (sig2 s) (madeNt n a F)), .int .i64 0] := by
    unfold madeV
    rw [if_neg (by simpa using s0), if_neg (by simpa using ht2), if_neg (by rw [ht1, hq]; simp), if_neg hl]
    unfold tidyV
    rw [if_pos (by rw [gd.chk])]
  have e2 : madeRV s n a F = .tup [netC (tidyN (sig2 s) (madeNt n a F)), .int .i64 0] := by
    unfold madeRV
    rw [if_neg (by simpa using s0), if_neg (by simpa using h0), if_neg (by simp [hq]), if_neg (by omega)]
  have hml := ports_len' (sigChk_ports gd.sg) gd.f1 gd.cl
  have hwl : (tidyN (sig2 s) (madeNt n a F)).wires.length ≤ 30000 := by
    rw [tidyN_eq]
    exact Nat.le_trans (tw_len _ _) hml
  have hcl2 : (tidyN (sig2 s) (madeNt n a F)).cells.length ≤ 4096 := gd.cl
  generalize tidyN (sig2 s) (madeNt n a F) = N at e1 e2 hwl hcl2
  refine ⟨.vsl (N.cells.map intV) .unk, (match N.wires with | [] => .nilsl | w :: r => .vsl ((w :: r).map wireV) .unk), listW intV N.cells, listW wireV N.wires, N, 0, e1, e2, .inr ⟨_, rfl⟩, ?_, listW_isL _, listW_isL _, by omega, by omega⟩
  cases N.wires with
  | nil => exact .inl ⟨rfl, rfl⟩
  | cons w r => exact .inr ⟨_, rfl⟩

theorem much_no {s : List Ag} {n : Nt} (h : muchF s n = false) : s.length ≤ 1024 ∧ n.cells.length ≤ 8192 ∧ n.wires.length ≤ 32768 := by
  unfold muchF at h
  simp only [Bool.or_eq_false_iff, decide_eq_false_iff_not] at h
  omega

set_option maxHeartbeats 1000000 in
theorem bTN (call rgn n) (x v : AV) (s : List Ag) (nt : Nt) (hx : IsSig x s) (hv : IsNet v nt) (hMu : h4 call) (hCA : hCA call) (hCN : hCN call) (hTT : hTT call) (hK3 : hK3 call) (hRT : hRT call) (hCo : hCo call) (hEr : hEr call) (hMRt : hMRt call) (hMRf : hMRf call) (hEq : h9 call) (hW : ∀ h, call (.func 8) [] h = some (.ret (.bool true), h))
    (hrg : ∀ id ops st, rgn id ops st = drawn ⟨Tryz.prog, mu0, call⟩ 4 ops st) (h : AH) :
    ∃ h', B shT call rgn n 4 Tryz.f4 [x, v] h = some (.ret (.bool true), h') := by
  suffices hq : ∀ Q : Option (AOut × AH) → Prop, ¬ Q none → (∀ h', Q (some (.ret (.bool true), h'))) → Q (B shT call rgn n 4 Tryz.f4 [x, v] h) from hq (fun y => ∃ h', y = some (.ret (.bool true), h')) (by rintro ⟨_, h⟩; cases h) (fun h' => ⟨h', rfl⟩)
  intro Q hN hQ
  have hv0 := hv
  obtain ⟨c, w, rfl, hc, hw⟩ := hv
  have hcs := isL_scalar hc
  have hws := isL_scalar hw
  conv => arg 1; whnf
  refine atCall_P (box_new (cs := [c, .int .i64 nt.free, w]) rfl (by simp only [List.all_cons, hcs, hws, List.all_nil]; rfl)) ?_
  generalize hh_h1 : h.alloc (.cells [c, .int .i64 nt.free, w] 43) = h1 at *
  obtain ⟨a_i3, n_i3, k_h1⟩ := alloc_facts hh_h1
  clear hh_h1 k_h1
  generalize hi_i3 : h.next = i3 at *
  clear hi_i3
  have ln : ∀ h, h.get i3 = some (.cells [c, .int .i64 nt.free, w] 43) → vOf h (aLoad Tryz.prog 43 (.ptr i3 0) h) = some (.ret (.agg [c, .int .i64 nt.free, w]), h) := fun h g => ld_agg (n := 3) g (by kernel_rfl) (by kernel_rfl) (by simp)
  conv => arg 1; whnf
  refine atCall_P (ln h1 a_i3) ?_
  conv => arg 1; whnf
  refine atCall_P (hMu x _ s nt h1 hx hv0) ?_
  conv => arg 1; whnf
  cases hm : muchF s nt
  rotate_left
  · conv => arg 1; whnf
    refine atCall_P (hW h1) ?_
    conv => arg 1; whnf
    exact atLeave_P (leave_plain (.inl rfl) rfl) (hQ _)
  obtain ⟨m1, m2, m3⟩ := much_no hm
  have pT := hTT (listW agV s) (netC nt) s nt h1 (isSig_W s) (isNet_C nt) (by omega)
  unfold treeV at pT
  rw [tree_law] at pT
  simp only at pT
  have pK := hK3 x (.agg [c, .int .i64 nt.free, w]) s nt h1 hx hv0 (by omega)
  have pR : (netChk s nt).1 = 0 → call (.func 22) [x, .agg [c, .int .i64 nt.free, w]] h1 = some (.ret (.bool (treeQ s nt)), h1) := fun h0 => hRT x _ s nt h1 hx hv0 (by omega) h0
  generalize (netChk s nt).1 = e at pT pK pR
  generalize (netChk s nt).2 = e' at pK
  generalize treeQ s nt = q at pT pR
  generalize hb : (decide (e = 0) && q) = b at pT
  obtain ⟨c1, w1, c2, w2, N, k, A1, A2, A3, A4, A5, A6, A7, A8⟩ := made_both s nt s.length 2 (.inl ⟨rfl, rfl⟩)
  obtain ⟨d1, v1, d2, v2, N', k', B1, B2, B3, B4, B5, B6, B7, B8⟩ := made_both s nt ((s.length : Int) + 1) 0 (.inr ⟨rfl, rfl⟩)
  have pC := fun h => hCo (listW agV s) (netC nt) s nt h (isSig_W s) (isNet_C nt) (by omega) (by omega)
  have pE := fun h => hEr (listW agV s) (netC nt) s nt h (isSig_W s) (isNet_C nt) (by omega) (by omega)
  have pMf := fun h => hMRf x (.agg [c, .int .i64 nt.free, w]) s nt h hx hv0 (by omega) (by omega)
  have pMt := fun h => hMRt x (.agg [c, .int .i64 nt.free, w]) s nt h hx hv0 (by omega) (by omega)
  rw [A1] at pC
  rw [A2] at pMf
  rw [B1] at pE
  rw [B2] at pMt
  clear A1 A2 B1 B2
  conv => arg 1; whnf
  refine atRgn_N true (fun hh => hh.get i3 = some (.cells [c, .int .i64 nt.free, w] 43)) (T := [0, 1, 0, 7, 15, 31, 63, 63, 127, 511]) (ord := [0, 2, 1, 3, 4, 5, 6, 7, 8, 9]) (by kernel_rfl) (hrg _ _ _) hN ?_
  conv => arg 1; whnf
  refine atCall_P (ln h1 a_i3) ?_
  conv => arg 1; whnf
  refine atCall_P (hCA x s h1 hx (by omega)) ?_
  conv => arg 1; whnf
  refine atCall_P (hCN _ nt h1 hv0 (by omega) (by omega)) ?_
  conv => arg 1; whnf
  refine atCall_P (pT) ?_
  conv => arg 1; whnf
  refine atP_P ⟨?_, (fun k hk hp => match k, hk, hp with
    | 0, _, _ => a_i3
    | 1, _, _ => a_i3
    | 2, _, _ => a_i3
    | 3, _, _ => a_i3
    | k + 4, hk, hp => absurd hk (by simp)), (fun a ha => by cases ha), rfl⟩ ?_
  · refine ⟨trivial, fun _ hh g => ⟨hh, ln hh g⟩, trivial, trivial, trivial, trivial, trivial, trivial, trivial, trivial, trivial⟩
  have t_c1 := isL_scalar A3
  have t_w1 := isL_scalar A4
  have t_c2 := isL_scalar A5
  have t_w2 := isL_scalar A6
  have t_d1 := isL_scalar B3
  have t_v1 := isL_scalar B4
  have t_d2 := isL_scalar B5
  have t_v2 := isL_scalar B6
  have t_c1 := isL_scalar A3
  have t_w1 := isL_scalar A4
  have t_c2 := isL_scalar A5
  have t_w2 := isL_scalar A6
  have t_d1 := isL_scalar B3
  have t_v1 := isL_scalar B4
  have t_d2 := isL_scalar B5
  have t_v2 := isL_scalar B6
  conv => arg 1; whnf
  refine atCall_P (ln h1 a_i3) ?_
  conv => arg 1; whnf
  refine atCall_P (pK) ?_
  conv => arg 1; whnf
  cases e3 : (e != e)
  rotate_left
  · simp at e3
  conv => arg 1; whnf
  cases e4 : (e == 0)
  rotate_left
  have e0 : e = 0 := by simpa using e4
  have hb0 : b = q := by rw [← hb]; simp [e0]
  subst hb0
  conv => arg 1; whnf
  refine atCall_P (ln h1 a_i3) ?_
  conv => arg 1; whnf
  refine atCall_P (pR e0) ?_
  conv => arg 1; whnf
  cases b
  rotate_left 2
  have hb0 : b = false := by rw [← hb, show decide (e = 0) = false by simpa using e4]; rfl
  subst hb0
  all_goals
    conv => arg 1; whnf
    conv => arg 1; whnf
    refine atRgn_N true (fun hh => hh.get i3 = some (.cells [c, .int .i64 nt.free, w] 43)) (T := [0, 1, 0, 7, 15, 31, 63, 63, 0, 383, 1023]) (ord := [0, 2, 8, 1, 3, 4, 5, 6, 7, 9, 10]) (by kernel_rfl) (hrg _ _ _) hN ?_
    conv => arg 1; whnf
    refine atCall_P (ln h1 a_i3) ?_
    refine atNew_P (v := .ptr h1.next 0) (ob := .cells [.nilsl, .int .i64 0, .nilsl] 43) (by kernel_rfl) ?_
    generalize hh_h2 : h1.alloc (.cells [.nilsl, .int .i64 0, .nilsl] 43) = h2 at *
    obtain ⟨a_i9, n_i9, k_h2⟩ := alloc_facts hh_h2
    replace a_i3 := k_h2 _ _ a_i3 (by omega)
    clear hh_h2 k_h2
    generalize hi_i9 : h1.next = i9 at *
    clear hi_i9
    conv => arg 1; whnf
    refine atCall_P (hCA x s h2 hx (by omega)) ?_
    conv => arg 1; whnf
    refine atCall_P (hCN _ nt h2 hv0 (by omega) (by omega)) ?_
    conv => arg 1; whnf
    refine atCall_P (pC h2) ?_
    have st : hOf (aStore Tryz.prog 43 (.ptr i9 0) (.agg [c1, .int .i64 N.free, w1]) h2) = some (.ret undefA, h2.set i9 (.cells [c1, .int .i64 N.free, w1] 43)) := st_ptr (n := 3) a_i9 (by kernel_rfl) rfl (by simp) (by show (c1.scalar && (true && (w1.scalar && true))) = true; rw [t_c1, t_w1]; rfl)
    conv => arg 1; whnf
    refine atCall_P (st) ?_
    clear st
    have a_3 := a_i3
    have a_9 := a_i9
    generalize hh_h3 : h2.set i9 (.cells [c1, .int .i64 N.free, w1] 43) = h3 at *
    obtain ⟨b_i9, n_h3, k_h3⟩ := set_facts hh_h3
    replace a_i3 := k_h3 _ _ a_i3 (by rintro rfl; omega)
    clear hh_h3 k_h3
    replace n_h3 : h3.next.nat = h2.next.nat := congrArg Id.nat n_h3
    conv => arg 1; whnf
    refine atP_P ⟨?_, (fun k hk hp => match k, hk, hp with
      | 0, _, _ => a_3
      | 1, _, _ => a_3
      | 2, _, _ => a_3
      | 3, _, _ => a_3
      | 4, _, hp => no_pos hp (by kernel_rfl)
      | k + 5, hk, hp => absurd hk (by simp)), (fun ee he => ?_), rfl⟩ ?_
    · refine ⟨trivial, fun _ hh g => ⟨hh, ln hh g⟩, trivial, trivial, trivial, trivial, trivial, trivial, trivial, trivial, trivial, trivial⟩
    · simp only [List.nil_append, List.mem_singleton] at he
      subst he
      exact ⟨AO.beq_cells _ _, fun k hk hp => match k, hk, hp with
        | 0, _, _ => ⟨Nat.zero_le _, a_9⟩
        | 1, _, _ => ⟨Nat.zero_le _, a_9⟩
        | 2, _, _ => ⟨Nat.zero_le _, a_9⟩
        | 3, _, _ => ⟨Nat.zero_le _, a_9⟩
        | 4, _, hp => no_pos hp (by kernel_rfl)
        | k + 5, hk, _ => absurd hk (by simp)⟩
    clear a_3 a_9
    conv => arg 1; whnf
    refine atCall_P (ln h3 a_i3) ?_
    conv => arg 1; whnf
    refine atCall_P (pMf h3) ?_
    conv => arg 1; whnf
    refine atCall_P (alloc_new (z := .agg [.nilsl, .int .i64 0, .nilsl]) (cs := [.nilsl, .int .i64 0, .nilsl]) (by kernel_rfl) rfl rfl) ?_
    generalize hh_h4 : h3.alloc (.cells [.nilsl, .int .i64 0, .nilsl] 43) = h4 at *
    obtain ⟨a_i11, n_i11, k_h4⟩ := alloc_facts hh_h4
    replace a_i3 := k_h4 _ _ a_i3 (by omega)
    replace b_i9 := k_h4 _ _ b_i9 (by omega)
    clear hh_h4 k_h4
    generalize hi_i11 : h3.next = i11 at *
    clear hi_i11
    have st : hOf (aStore Tryz.prog 43 (.ptr i11 0) (.agg [c2, .int .i64 N.free, w2]) h4) = some (.ret undefA, h4.set i11 (.cells [c2, .int .i64 N.free, w2] 43)) := st_ptr (n := 3) a_i11 (by kernel_rfl) rfl (by simp) (by show (c2.scalar && (true && (w2.scalar && true))) = true; rw [t_c2, t_w2]; rfl)
    conv => arg 1; whnf
    refine atCall_P (st) ?_
    clear st
    generalize hh_h5 : h4.set i11 (.cells [c2, .int .i64 N.free, w2] 43) = h5 at *
    obtain ⟨b_i11, n_h5, k_h5⟩ := set_facts hh_h5
    replace a_i3 := k_h5 _ _ a_i3 (by rintro rfl; omega)
    replace b_i9 := k_h5 _ _ b_i9 (by rintro rfl; omega)
    clear hh_h5 k_h5
    replace n_h5 : h5.next.nat = h4.next.nat := congrArg Id.nat n_h5
    conv => arg 1; whnf
    refine atRgn_N true (fun hh => hh.get i3 = some (.cells [c, .int .i64 nt.free, w] 43)) (T := [0, 1, 0, 7, 15, 31, 63, 63, 0, 383, 1023]) (ord := [0, 2, 8, 1, 3, 4, 5, 6, 7, 9, 10]) (by kernel_rfl) (hrg _ _ _) hN ?_
    conv => arg 1; whnf
    refine atCall_P (ln h5 a_i3) ?_
    refine atNew_P (v := .ptr h5.next 0) (ob := .cells [.nilsl, .int .i64 0, .nilsl] 43) (by kernel_rfl) ?_
    generalize hh_h6 : h5.alloc (.cells [.nilsl, .int .i64 0, .nilsl] 43) = h6 at *
    obtain ⟨a_i13, n_i13, k_h6⟩ := alloc_facts hh_h6
    replace a_i3 := k_h6 _ _ a_i3 (by omega)
    replace b_i9 := k_h6 _ _ b_i9 (by omega)
    replace b_i11 := k_h6 _ _ b_i11 (by omega)
    clear hh_h6 k_h6
    generalize hi_i13 : h5.next = i13 at *
    clear hi_i13
    conv => arg 1; whnf
    refine atCall_P (hCA x s h6 hx (by omega)) ?_
    conv => arg 1; whnf
    refine atCall_P (hCN _ nt h6 hv0 (by omega) (by omega)) ?_
    conv => arg 1; whnf
    refine atCall_P (pE h6) ?_
    have st : hOf (aStore Tryz.prog 43 (.ptr i13 0) (.agg [d1, .int .i64 N'.free, v1]) h6) = some (.ret undefA, h6.set i13 (.cells [d1, .int .i64 N'.free, v1] 43)) := st_ptr (n := 3) a_i13 (by kernel_rfl) rfl (by simp) (by show (d1.scalar && (true && (v1.scalar && true))) = true; rw [t_d1, t_v1]; rfl)
    conv => arg 1; whnf
    refine atCall_P (st) ?_
    clear st
    have a_3 := a_i3
    have a_9 := a_i13
    generalize hh_h7 : h6.set i13 (.cells [d1, .int .i64 N'.free, v1] 43) = h7 at *
    obtain ⟨b_i13, n_h7, k_h7⟩ := set_facts hh_h7
    replace a_i3 := k_h7 _ _ a_i3 (by rintro rfl; omega)
    replace b_i9 := k_h7 _ _ b_i9 (by rintro rfl; omega)
    replace b_i11 := k_h7 _ _ b_i11 (by rintro rfl; omega)
    clear hh_h7 k_h7
    replace n_h7 : h7.next.nat = h6.next.nat := congrArg Id.nat n_h7
    conv => arg 1; whnf
    refine atP_P ⟨?_, (fun k hk hp => match k, hk, hp with
      | 0, _, _ => a_3
      | 1, _, _ => a_3
      | 2, _, _ => a_3
      | 3, _, _ => a_3
      | 4, _, hp => no_pos hp (by kernel_rfl)
      | k + 5, hk, hp => absurd hk (by simp)), (fun ee he => ?_), rfl⟩ ?_
    · refine ⟨trivial, fun _ hh g => ⟨hh, ln hh g⟩, trivial, trivial, trivial, trivial, trivial, trivial, trivial, trivial, trivial, trivial⟩
    · simp only [List.nil_append, List.mem_singleton] at he
      subst he
      exact ⟨AO.beq_cells _ _, fun k hk hp => match k, hk, hp with
        | 0, _, _ => ⟨Nat.zero_le _, a_9⟩
        | 1, _, _ => ⟨Nat.zero_le _, a_9⟩
        | 2, _, _ => ⟨Nat.zero_le _, a_9⟩
        | 3, _, _ => ⟨Nat.zero_le _, a_9⟩
        | 4, _, hp => no_pos hp (by kernel_rfl)
        | k + 5, hk, _ => absurd hk (by simp)⟩
    clear a_3 a_9
    conv => arg 1; whnf
    refine atCall_P (ln h7 a_i3) ?_
    conv => arg 1; whnf
    refine atCall_P (pMt h7) ?_
    conv => arg 1; whnf
    refine atCall_P (alloc_new (z := .agg [.nilsl, .int .i64 0, .nilsl]) (cs := [.nilsl, .int .i64 0, .nilsl]) (by kernel_rfl) rfl rfl) ?_
    generalize hh_h8 : h7.alloc (.cells [.nilsl, .int .i64 0, .nilsl] 43) = h8 at *
    obtain ⟨a_i15, n_i15, k_h8⟩ := alloc_facts hh_h8
    replace a_i3 := k_h8 _ _ a_i3 (by omega)
    replace b_i9 := k_h8 _ _ b_i9 (by omega)
    replace b_i11 := k_h8 _ _ b_i11 (by omega)
    replace b_i13 := k_h8 _ _ b_i13 (by omega)
    clear hh_h8 k_h8
    generalize hi_i15 : h7.next = i15 at *
    clear hi_i15
    have st : hOf (aStore Tryz.prog 43 (.ptr i15 0) (.agg [d2, .int .i64 N'.free, v2]) h8) = some (.ret undefA, h8.set i15 (.cells [d2, .int .i64 N'.free, v2] 43)) := st_ptr (n := 3) a_i15 (by kernel_rfl) rfl (by simp) (by show (d2.scalar && (true && (v2.scalar && true))) = true; rw [t_d2, t_v2]; rfl)
    conv => arg 1; whnf
    refine atCall_P (st) ?_
    clear st
    generalize hh_h9 : h8.set i15 (.cells [d2, .int .i64 N'.free, v2] 43) = h9 at *
    obtain ⟨b_i15, n_h9, k_h9⟩ := set_facts hh_h9
    replace a_i3 := k_h9 _ _ a_i3 (by rintro rfl; omega)
    replace b_i9 := k_h9 _ _ b_i9 (by rintro rfl; omega)
    replace b_i11 := k_h9 _ _ b_i11 (by rintro rfl; omega)
    replace b_i13 := k_h9 _ _ b_i13 (by rintro rfl; omega)
    clear hh_h9 k_h9
    replace n_h9 : h9.next.nat = h8.next.nat := congrArg Id.nat n_h9
    have Li9 : vOf h9 (aLoad Tryz.prog 43 (.ptr i9 0) h9) = some (.ret (.agg [c1, .int .i64 N.free, w1]), h9) := ld_agg (n := 3) b_i9 (by kernel_rfl) (by kernel_rfl) (by simp)
    have Li11 : vOf h9 (aLoad Tryz.prog 43 (.ptr i11 0) h9) = some (.ret (.agg [c2, .int .i64 N.free, w2]), h9) := ld_agg (n := 3) b_i11 (by kernel_rfl) (by kernel_rfl) (by simp)
    have Li13 : vOf h9 (aLoad Tryz.prog 43 (.ptr i13 0) h9) = some (.ret (.agg [d1, .int .i64 N'.free, v1]), h9) := ld_agg (n := 3) b_i13 (by kernel_rfl) (by kernel_rfl) (by simp)
    have Li15 : vOf h9 (aLoad Tryz.prog 43 (.ptr i15 0) h9) = some (.ret (.agg [d2, .int .i64 N'.free, v2]), h9) := ld_agg (n := 3) b_i15 (by kernel_rfl) (by kernel_rfl) (by simp)
    have y1 : (k == k) = true := by simp
    have y2 : (k' == k') = true := by simp
    conv => arg 1; whnf
    rw [y1]
    conv => arg 1; whnf
    refine atCall_P (Li9) ?_
    conv => arg 1; whnf
    refine atCall_P (Li11) ?_
    conv => arg 1; whnf
    refine atCall_P (hEq _ _ N h9 ⟨_, _, rfl, A3, A4⟩ ⟨_, _, rfl, A5, A6⟩ A7 A8) ?_
    conv => arg 1; whnf
    rw [y2]
    conv => arg 1; whnf
    refine atCall_P (Li13) ?_
    conv => arg 1; whnf
    refine atCall_P (Li15) ?_
    conv => arg 1; whnf
    refine atCall_P (hEq _ _ N' h9 ⟨_, _, rfl, B3, B4⟩ ⟨_, _, rfl, B5, B6⟩ B7 B8) ?_
    conv => arg 1; whnf
    refine atCall_P (hW h9) ?_
    conv => arg 1; whnf
    exact atLeave_P (leave_plain (.inl rfl) rfl) (hQ _)
end Go.Proofs.Nt
namespace Go.Proofs.Nt
open Go.Sk Go.ChangeShapes Go.WideShapes

section
variable {H : Type} {enc : TypeId × Value → H} {w : World} {base : Nat} {sp : Nat → Bool} {held : Bool}

theorem addr_add (b off i : Nat) : (Addr.mk b off none).add i = ⟨b, off + i, none⟩ := by
  unfold Addr.add; split
  · rename_i h0; subst h0; rfl
  · rfl

theorem open_listA {α : Type} [Inhabited α] {encA : α → AV} {sz : Nat} {t e : TypeId} {v : Value} {fuel : Nat} {x : DataW H × List MemPlace} (ht : Tryz.prog.underlying t = some (.slice e)) (hc : Tryz.prog.cellsOf e = sz) (hsz : ∀ a, (encA a).cells.length = sz)
    (hE : ∀ n cs x, DataW.trod enc Tryz.prog w base sp held n e cs = some x → ∃ a : α, LRel (rho0 w) (encA a).cells cs ∧ ∀ c ∈ cs, c.oneCell' = true)
    (hs : ∀ (a : Addr) l c, v = .slice (some a) l c → a.spot = none) (h : DataW.trod enc Tryz.prog w base sp held fuel t [v] = some x) :
    ∃ (u : AV) (l : List α), VRel (rho0 w) u v ∧ IsL u (l.map encA) := by
  rcases Deep.open_slice ht h with ⟨h1, _⟩ | ⟨a, len, cap, m, n, D, Pl, h1, hb, hl, hm, hmm, hx, hel⟩
  · simp only [List.cons.injEq, and_true] at h1
    subst h1
    exact ⟨.nilsl, [], .nilsl, .inl ⟨rfl, rfl⟩⟩
  · simp only [List.cons.injEq, and_true] at h1
    have hspot := hs a len cap h1
    subst h1
    obtain ⟨b, off, spot⟩ := a
    simp only at hspot; subst hspot
    have hlm : len ≤ m := by rw [hmm]; split <;> omega
    obtain ⟨f, hf⟩ := Deep.choose_lt (α := α × List Value) (n := len) (p := fun i y => w.cells? base ((Addr.mk b off none).add (i * Tryz.prog.cellsOf e)) (Tryz.prog.cellsOf e) = some y.2 ∧ LRel (rho0 w) (encA y.1).cells y.2 ∧ ∀ c ∈ y.2, c.oneCell' = true) (fun i hi => by
      obtain ⟨cs', q1, q2⟩ := hel i (by omega)
      obtain ⟨a, q3, q4⟩ := hE _ _ _ q2
      exact ⟨(a, cs'), q1, q3, q4⟩)
    have hlen : ((List.range len).map fun i => encA (f i).1).length = len := by simp
    have key : VRel (rho0 w) (.vsl ((List.range len).map fun i => encA (f i).1) .unk) (.slice (some ⟨b, off, none⟩) ((List.range len).map fun i => encA (f i).1).length cap) := by
      refine .vsl _ .unk b off cap sz (fun i j => (f i).2.getD j default) (fun i hi => by simp [hsz]) (fun i j hi hj => ?_) (fun i hi j hj => ?_) (by rw [hlen]; exact hl) trivial
      · rw [hlen] at hi
        obtain ⟨p1, p2, p3⟩ := hf i hi
        obtain ⟨_, r1, r2⟩ := World.cells?_some p1
        have := r2 j (by rw [hc]; exact hj)
        rw [hc, addr_add, addr_add] at this
        rw [rho0_imm, this]
        have hjl : j < (f i).2.length := by rw [r1, hc]; exact hj
        rw [List.getElem?_eq_getElem hjl]
        have hd : (f i).2.getD j default = (f i).2[j] := by rw [List.getD_eq_getElem?_getD, List.getElem?_eq_getElem hjl]; rfl
        rw [hd]
        exact ⟨rfl, p3 _ (List.getElem_mem _)⟩
      · rw [hlen] at hi
        obtain ⟨p1, p2, p3⟩ := hf i hi
        have hxi : ((List.range len).map fun i => encA (f i).1)[i] = encA (f i).1 := by simp
        have hj' : j < (encA (f i).1).cells.length := by rw [hxi] at hj; exact hj
        have hjl : j < (f i).2.length := by rw [p2.1]; exact hj'
        have hd : (f i).2.getD j default = (f i).2[j] := by rw [List.getD_eq_getElem?_getD, List.getElem?_eq_getElem hjl]; rfl
        have := p2.2 j hj' hjl
        rw [hd]
        simp only [hxi]
        exact this
    rw [hlen] at key
    exact ⟨_, (List.range len).map fun i => (f i).1, key, .inr ⟨.unk, by rw [List.map_map]; rfl⟩⟩

theorem t3 {n : Nat} {cs : List Value} {x : DataW H × List MemPlace} (h : DataW.trod enc Tryz.prog w base sp held n 3 cs = some x) : ∃ a, cs = [.int .i64 a] := by
  obtain ⟨a, h1, _⟩ := DataW.trod_int (k := .i64) (by kernel_rfl) h
  exact ⟨a, h1⟩

theorem t43 {n : Nat} {cs : List Value} {x : DataW H × List MemPlace} (h : DataW.trod enc Tryz.prog w base sp held n 58 cs = some x) : ∃ a : Ag, LRel (rho0 w) (agV a).cells cs ∧ ∀ c ∈ cs, c.oneCell' = true := by
  have hs : Tryz.prog.underlying 58 = some (.struct #[⟨ "Name", 9, 0, false, "", "", 0⟩, ⟨ "Arity", 3, 1, false, "", "", 16⟩]) := by kernel_rfl
  obtain ⟨xs, m, _, _, hl, hlen, hf⟩ := DataW.trod_struct hs h
  have hc : Tryz.prog.cellsOf 58 = 2 := by kernel_rfl
  have c9 : Tryz.prog.cellsOf 9 = 1 := by kernel_rfl
  have c3 : Tryz.prog.cellsOf 3 = 1 := by kernel_rfl
  rw [hc] at hl
  match cs, hl with
  | [c0, c1], _ =>
    match xs, hlen with
    | [y0, y1], _ =>
      have f0 := hf 0 ⟨ "Name", 9, 0, false, "", "", 0⟩ rfl
      have f1 := hf 1 ⟨ "Arity", 3, 1, false, "", "", 16⟩ rfl
      simp only [c9, c3, List.drop_zero, List.take_succ_cons, List.take_zero, List.drop_succ_cons, List.getElem?_cons_zero, List.getElem?_cons_succ] at f0 f1
      obtain ⟨s, e0, _⟩ := DataW.trod_string (by kernel_rfl) f0
      obtain ⟨a, e1⟩ := t3 f1
      simp only [List.cons.injEq, and_true] at e0 e1
      subst e0; subst e1
      refine ⟨(s.data.toList, a), ?_, fun c hc => ?_⟩
      · have hv : VRel (rho0 w) (.str s.data.toList) (.string s) := .str s.data.toList
        exact LRel.cons hv (LRel.cons (.int _ _) (LRel.nil _))
      · simp only [List.mem_cons, List.not_mem_nil, or_false] at hc
        rcases hc with rfl | rfl <;> rfl

theorem t45 {n : Nat} {cs : List Value} {x : DataW H × List MemPlace} (h : DataW.trod enc Tryz.prog w base sp held n 60 cs = some x) : ∃ a b, cs = [.int .i64 a, .int .i64 b] := by
  have hs : Tryz.prog.underlying 60 = some (.struct #[⟨ "Cell", 3, 0, false, "", "", 0⟩, ⟨ "Slot", 3, 1, false, "", "", 8⟩]) := by kernel_rfl
  obtain ⟨xs, m, _, _, hl, hlen, hf⟩ := DataW.trod_struct hs h
  have hc : Tryz.prog.cellsOf 60 = 2 := by kernel_rfl
  have c3 : Tryz.prog.cellsOf 3 = 1 := by kernel_rfl
  rw [hc] at hl
  match cs, hl with
  | [c0, c1], _ =>
    match xs, hlen with
    | [y0, y1], _ =>
      have f0 := hf 0 ⟨ "Cell", 3, 0, false, "", "", 0⟩ rfl
      have f1 := hf 1 ⟨ "Slot", 3, 1, false, "", "", 8⟩ rfl
      simp only [c3, List.drop_zero, List.take_succ_cons, List.take_zero, List.drop_succ_cons, List.getElem?_cons_zero, List.getElem?_cons_succ] at f0 f1
      obtain ⟨a, e0⟩ := t3 f0
      obtain ⟨b, e1⟩ := t3 f1
      simp only [List.cons.injEq, and_true] at e0 e1
      exact ⟨a, b, by rw [e0, e1]⟩

theorem t47 {n : Nat} {cs : List Value} {x : DataW H × List MemPlace} (h : DataW.trod enc Tryz.prog w base sp held n 62 cs = some x) : ∃ a : Wr, LRel (rho0 w) (wireV a).cells cs ∧ ∀ c ∈ cs, c.oneCell' = true := by
  have hs : Tryz.prog.underlying 62 = some (.struct #[⟨ "A", 60, 0, false, "", "", 0⟩, ⟨ "B", 60, 2, false, "", "", 16⟩]) := by kernel_rfl
  obtain ⟨xs, m, _, _, hl, hlen, hf⟩ := DataW.trod_struct hs h
  have hc : Tryz.prog.cellsOf 62 = 4 := by kernel_rfl
  have c45 : Tryz.prog.cellsOf 60 = 2 := by kernel_rfl
  rw [hc] at hl
  match cs, hl with
  | [c0, c1, c2, c3], _ =>
    match xs, hlen with
    | [y0, y1], _ =>
      have f0 := hf 0 ⟨ "A", 60, 0, false, "", "", 0⟩ rfl
      have f1 := hf 1 ⟨ "B", 60, 2, false, "", "", 16⟩ rfl
      simp only [c45, List.drop_zero, List.take_succ_cons, List.take_zero, List.drop_succ_cons, List.getElem?_cons_zero, List.getElem?_cons_succ] at f0 f1
      obtain ⟨a, b, e0⟩ := t45 f0
      obtain ⟨c, d, e1⟩ := t45 f1
      simp only [List.cons.injEq, and_true] at e0 e1
      obtain ⟨rfl, rfl⟩ := e0
      obtain ⟨rfl, rfl⟩ := e1
      refine ⟨(a, b, c, d), LRel.cons (.int _ _) (LRel.cons (.int _ _) (LRel.cons (.int _ _) (LRel.cons (.int _ _) (LRel.nil _)))), fun c hc => ?_⟩
      simp only [List.mem_cons, List.not_mem_nil, or_false] at hc
      rcases hc with rfl | rfl | rfl | rfl <;> rfl

theorem spot_of {r : Reach} {b0 : Nat} {t e : TypeId} {v : Value} (ht : Tryz.prog.underlying t = some (.slice e)) (h : Cell.okWide Tryz.prog w r b0 t v) : ∀ (a : Addr) l c, v = .slice (some a) l c → a.spot = none := by
  rintro a l c rfl
  simp only [Cell.okWide, ht, Cell.ok] at h
  exact h.2.2.2.1

theorem open_sig {r : Reach} {b0 : Nat} {v : Value} {d : DataW H} {ps : List MemPlace} (hval : Value.okWide Tryz.prog w r b0 22 v) (hd : DataW.Trod enc Tryz.prog w base sp held 22 v d ps) : ∃ x s, VRel (rho0 w) x v ∧ IsSig x s := by
  have ht : Tryz.prog.underlying 22 = some (.slice 58) := by kernel_rfl
  obtain ⟨a, len, cap, rfl⟩ := okWide_slice ht hval
  obtain ⟨fuel, hf⟩ := hd
  have hc : Cell.okWide Tryz.prog w r b0 22 (.slice a len cap) := by
    unfold Value.okWide at hval
    rw [ht] at hval
    exact hval
  exact open_listA (encA := agV) (sz := 2) ht (by kernel_rfl) (fun _ => rfl) (fun n cs x h => t43 h) (spot_of ht hc) (by simpa [Value.cells] using hf)

theorem open_net {r : Reach} {b0 : Nat} {v : Value} {d : DataW H} {ps : List MemPlace} (hval : Value.okWide Tryz.prog w r b0 43 v) (hd : DataW.Trod enc Tryz.prog w base sp held 43 v d ps) : ∃ x n, VRel (rho0 w) x v ∧ IsNet x n := by
  have hs2 : Tryz.prog.underlying 43 = some (.struct #[⟨ "Cells", 40, 0, false, "", "", 0⟩, ⟨ "Free", 3, 1, false, "", "", 24⟩, ⟨ "Wires", 41, 2, false, "", "", 32⟩]) := by kernel_rfl
  have h23 : Tryz.prog.underlying 40 = some (.slice 3) := by kernel_rfl
  have h24 : Tryz.prog.underlying 41 = some (.slice 62) := by kernel_rfl
  have hct : Program.cellTypes Tryz.prog Tryz.prog.depth 43 = some [40, 3, 41] := by kernel_rfl
  have c26 : Tryz.prog.cellsOf 43 = 3 := by kernel_rfl
  have c23 : Tryz.prog.cellsOf 40 = 1 := by kernel_rfl
  have c24 : Tryz.prog.cellsOf 41 = 1 := by kernel_rfl
  have c3 : Tryz.prog.cellsOf 3 = 1 := by kernel_rfl
  unfold Value.okWide at hval
  rw [hs2] at hval
  obtain ⟨cs, rfl, hsz, ts, hts, _, hcell⟩ := hval
  rw [hct] at hts
  simp only [Option.some.injEq] at hts
  subst hts
  rw [c26] at hsz
  obtain ⟨cl⟩ := cs
  match cl, hsz with
  | [v2, v3, v4], _ =>
    obtain ⟨u2, hu2, ok2⟩ := hcell 0 v2 rfl
    obtain ⟨u4, hu4, ok4⟩ := hcell 2 v4 rfl
    simp only [List.length_cons, List.length_nil] at hu2 hu4
    have e2 : u2 = 40 := by simpa using hu2.symm
    have e4 : u4 = 41 := by simpa using hu4.symm
    subst e2; subst e4
    obtain ⟨fuel, hf⟩ := hd
    obtain ⟨zs, m2, _, _, hl2, hlen2, hfs2⟩ := DataW.trod_struct hs2 hf
    match zs, hlen2 with
    | [z0, z1, z2], _ =>
      have g0 := hfs2 0 ⟨ "Cells", 40, 0, false, "", "", 0⟩ rfl
      have g1 := hfs2 1 ⟨ "Free", 3, 1, false, "", "", 24⟩ rfl
      have g2 := hfs2 2 ⟨ "Wires", 41, 2, false, "", "", 32⟩ rfl
      simp only [Value.cells, c23, c24, c3, List.drop_zero, List.take_succ_cons, List.take_zero, List.drop_succ_cons, List.getElem?_cons_zero, List.getElem?_cons_succ] at g0 g1 g2
      obtain ⟨f, e3⟩ := t3 g1
      simp only [List.cons.injEq, and_true] at e3
      subst e3
      obtain ⟨uc, lc, hv2, hl2⟩ := open_listA (encA := intV) (sz := 1) h23 c3 (fun _ => rfl) (fun n cs x h => by
        obtain ⟨a, rfl⟩ := t3 h
        refine ⟨a, LRel.cons (.int _ _) (LRel.nil _), fun c hc => ?_⟩
        simp only [List.mem_cons, List.not_mem_nil, or_false] at hc
        subst hc; rfl) (spot_of h23 ok2) g0
      obtain ⟨uw, lw, hv4, hl4⟩ := open_listA (encA := wireV) (sz := 4) h24 (by kernel_rfl) (fun _ => rfl) (fun n cs x h => t47 h) (spot_of h24 ok4) g2
      refine ⟨.agg [uc, .int .i64 f, uw], ⟨lc, f, lw⟩, ?_, uc, uw, rfl, hl2, hl4⟩
      have hL : LRel (rho0 w) [uc, .int .i64 f, uw] [v2, .int .i64 f, v4] := LRel.cons hv2 (LRel.cons (.int _ _) (LRel.cons hv4 (LRel.nil _)))
      exact .agg _ _ hL.1 fun i hi hj => hL.2 i hi hj
end
end Go.Proofs.Nt

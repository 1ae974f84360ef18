/-
  The reference's Links; its Read of numbers.
-/
import Derived.Test.YtpepjbbbaolheaaGreatSkX7
import Derived.Test.YtpepjbbbaolheaaGreatNtM3
namespace Go.Proofs.Nt
open Go.Sk
set_option linter.unusedVariables false
set_option linter.unusedSimpArgs false
set_option maxRecDepth 10000

def links03 (s : List Ag) (n : Nt) : List Wr → List Int → List Int
  | [], L => L
  | w :: r, L => links03 s n r ((L.set (placeN s n (wA w)).toNat (placeN s n (wB w))).set (placeN s n (wB w)).toNat (placeN s n (wA w)))
theorem links03_len (s : List Ag) (n : Nt) : ∀ (W : List Wr) (L : List Int), (links03 s n W L).length = L.length
  | [], _ => rfl
  | w :: r, L => by simp [links03, links03_len s n r]

def tab57 : Nat → Option (List Nat) := fun id => match Nat.beq id 999999 with | true => some [] | false => match Nat.beq id 6 with | true => some [0, 1, 2, 3, 4, 5, 6, 7, 8, 9, 10] | false => match Nat.beq id 7 with | true => some [0, 1, 2, 3, 4, 5, 6, 7, 8, 9, 10] | false => none
theorem fits57 : tabFits Tryz.prog (mu0 57) tab57 (codeOf Tryz.f57) = true := by kernel_rfl

section
variable {i3 r : Sk.Id} {c w : AV} {f : Int}

theorem lLk (call rgn n) (x fv : AV) (s : List Ag) (nt : Nt) (hx : IsSig x s) (hc : IsL c (nt.cells.map intV)) (hw : IsL w (nt.wires.map wireV)) (hff : f = nt.free) (hfv : IsL fv ((firstL s nt.cells nt.free).map intV)) (ho : okF s nt) (hPl : hPl call) (m0 : Nat) (hok : ∀ w ∈ nt.wires, (0 ≤ placeN s nt (wA w) ∧ placeN s nt (wA w) < m0) ∧ 0 ≤ placeN s nt (wB w) ∧ placeN s nt (wB w) < m0) (hne : i3 ≠ r) {n0 : Nat} {gg : AH} (hr : n0 ≤ r.nat) {T : List Int} {K : KC (AOut × AH)} {Q : Option (AOut × AH) → Prop}
    (hK : ∀ {h : AH} {g0 g1 g2 g3 g4 g5 g6 g8 g9 g10 g11 g12 g13 g14 g15 g16 g17 g18 g19 g20 g21 g22 g23 g24 g25 g26 g27 g28 g29 g30 g31 g32 g33 g34 g35 g36 g37 g38 g39 g40 g41 g42 g43 g44 g45 g46 g47 g48 g49 g50 g51 g52 g53 g54 : AV}, h.get r = some (.cells (T.map intV) 3) → Kept n0 gg h → r.nat < h.next.nat → Q (K (.exit 0) ⟨(g0 :: g1 :: g2 :: g3 :: g4 :: g5 :: g6 :: .hsl r 0 m0 (.known m0) :: g8 :: g9 :: g10 :: g11 :: g12 :: g13 :: g14 :: g15 :: g16 :: g17 :: g18 :: g19 :: g20 :: g21 :: g22 :: g23 :: g24 :: g25 :: g26 :: g27 :: g28 :: g29 :: g30 :: g31 :: g32 :: g33 :: g34 :: g35 :: g36 :: g37 :: g38 :: g39 :: g40 :: g41 :: g42 :: g43 :: g44 :: g45 :: g46 :: g47 :: g48 :: g49 :: g50 :: g51 :: g52 :: g53 :: g54 :: []), [], h⟩)) :
    ∀ (m i : Nat) {z : Int} {L : List Int} {h : AH} {g1 g2 g4 g6 g9 g10 g11 g12 g13 g14 g15 g16 g17 g18 g19 g20 g21 g22 g23 g24 g25 g26 g27 g28 g29 g30 g31 g32 g33 g34 g35 g36 g37 g38 g39 g40 g41 g42 g43 g44 g45 g46 g47 g48 g49 g50 g51 g52 g53 g54 : AV}, z = i → i ≤ nt.wires.length → nt.wires.length - i < m → L.length = m0 → h.get i3 = some (.cells [c, .int .i64 f, w] 43) → h.get r = some (.cells (L.map intV) 3) → Kept n0 gg h → r.nat < h.next.nat → T = links03 s nt (nt.wires.drop i) L →
    Q (cIter (LB tab57 call rgn n 57 Tryz.f57 0) m ⟨(x :: g1 :: g2 :: .ptr i3 0 :: g4 :: fv :: g6 :: .hsl r 0 m0 (.known m0) :: .int .i64 z :: g9 :: g10 :: g11 :: g12 :: g13 :: g14 :: g15 :: g16 :: g17 :: g18 :: g19 :: g20 :: g21 :: g22 :: g23 :: g24 :: g25 :: g26 :: g27 :: g28 :: g29 :: g30 :: g31 :: g32 :: g33 :: g34 :: g35 :: g36 :: g37 :: g38 :: g39 :: g40 :: g41 :: g42 :: g43 :: g44 :: g45 :: g46 :: g47 :: g48 :: g49 :: g50 :: g51 :: g52 :: g53 :: g54 :: []), [], h⟩ K) := by
  have u : Tryz.prog.underlying 41 = some (.slice 62) := by kernel_rfl
  have ui : Tryz.prog.underlying 40 = some (.slice 3) := by kernel_rfl
  have hlw := fun h => len_L (X := ⟨Tryz.prog, mu0, call⟩) (mu := false) (h := h) u hw
  rw [List.length_map] at hlw
  have hv : IsNet (.agg [c, .int .i64 f, w]) nt := ⟨c, w, by rw [hff], hc, hw⟩
  obtain ⟨o1, o2, o3, o4, o5⟩ := id ho
  intro m
  induction m with
  | zero => intros; omega
  | succ m ih =>
    intro i z L h g1 g2 g4 g6 g9 g10 g11 g12 g13 g14 g15 g16 g17 g18 g19 g20 g21 g22 g23 g24 g25 g26 g27 g28 g29 g30 g31 g32 g33 g34 g35 g36 g37 g38 g39 g40 g41 g42 g43 g44 g45 g46 g47 g48 g49 g50 g51 g52 g53 g54 hz hi hm hL g3 gr kp lr hT
    rw [cIter_succ]
    have lw : ∀ h, h.get i3 = some (.cells [c, .int .i64 f, w] 43) → vOf h (aLoad Tryz.prog 41 (.ptr i3 2) h) = some (.ret w, h) := fun h g => ld_ptr (n := 1) g (by kernel_rfl) (by kernel_rfl) rfl
    have ln : vOf h (aLoad Tryz.prog 43 (.ptr i3 0) h) = some (.ret (.agg [c, .int .i64 f, w]), h) := ld_agg (n := 3) g3 (by kernel_rfl) (by kernel_rfl) (by simp)
    conv => arg 1; whnf
    refine atCall_P (lw h g3) ?_
    conv => arg 1; whnf
    refine atCall_P (hlw _) ?_
    conv => arg 1; whnf
    split
    · rename_i hd
      have hlt : i < nt.wires.length := by simp at hd; omega
      have hdrop : nt.wires.drop i = nt.wires[i] :: nt.wires.drop (i + 1) := List.drop_eq_getElem_cons hlt
      have hg : (nt.wires.map wireV)[i]? = some (wireV nt.wires[i]) := by rw [List.getElem?_map, List.getElem?_eq_getElem hlt]; rfl
      have hidx := fun h => idx_L (P := Tryz.prog) (t := 41) (e := 62) (n := 4) (h := h) (k := .i64) u (by kernel_rfl) hw hz hg rfl
      have hz' : IntKind.i64.wrap (z + 1) = ((i + 1 : Nat) : Int) := by rw [hz]; exact wrap_succ (by omega)
      have hmem := hok nt.wires[i] (List.getElem_mem _)
      rw [hdrop] at hT
      simp only [links03] at hT
      generalize nt.wires[i] = ww at hidx hT hmem
      obtain ⟨wa, wb, wc, wd⟩ := ww
      have pA := hPl x (.agg [c, .int .i64 f, w]) fv (portV (wa, wb)) s nt (wa, wb) h hx hv hfv rfl ho
      have pB := hPl x (.agg [c, .int .i64 f, w]) fv (portV (wc, wd)) s nt (wc, wd) h hx hv hfv rfl ho
      rw [show wA (wa, wb, wc, wd) = (wa, wb) from rfl, show wB (wa, wb, wc, wd) = (wc, wd) from rfl] at hT hmem
      generalize placeN s nt (wa, wb) = a at pA hmem hT
      generalize placeN s nt (wc, wd) = b at pB hmem hT
      obtain ⟨⟨a0, am⟩, b0, bm⟩ := hmem
      conv => arg 1; whnf
      refine atCall_P (ln) ?_
      conv => arg 1; whnf
      refine atCall_P (lw h g3) ?_
      conv => arg 1; whnf
      refine atCall_P (hidx _) ?_
      conv => arg 1; whnf
      refine atQuiet_P pA ?_
      conv => arg 1; whnf
      refine atCall_P (ln) ?_
      conv => arg 1; whnf
      refine atCall_P (lw h g3) ?_
      conv => arg 1; whnf
      refine atCall_P (hidx _) ?_
      conv => arg 1; whnf
      refine atQuiet_P pB ?_
      have ia := fun h => hix (r := r) (m := m0) (a := a) (h := h) ui (by kernel_rfl) a0 am
      have ib := fun h => hix (r := r) (m := m0) (a := b) (h := h) ui (by kernel_rfl) b0 bm
      have s1 := hst (a := a) (v := .int .i64 b) gr (by kernel_rfl) rfl rfl (by simp; omega)
      have hm1 : (L.map intV).set a.toNat (.int .i64 b) = (L.set a.toNat b).map intV := by rw [List.map_set]; rfl
      rw [hm1] at s1
      conv => arg 1; whnf
      refine atCall_P (ia _) ?_
      conv => arg 1; whnf
      refine atCall_P (s1) ?_
      have kp2 := kp.set (r := r) (.cells ((L.set a.toNat b).map intV) 3) hr
      have g3' : (h.set r (.cells ((L.set a.toNat b).map intV) 3)).get i3 = some (.cells [c, .int .i64 f, w] 43) := by rw [AH.get_set, if_neg hne]; exact g3
      have gr' : (h.set r (.cells ((L.set a.toNat b).map intV) 3)).get r = some (.cells ((L.set a.toNat b).map intV) 3) := by rw [AH.get_set, if_pos rfl]
      have lr' : r.nat < (h.set r (.cells ((L.set a.toNat b).map intV) 3)).next.nat := by rw [AH.next_set]; exact lr
      generalize h.set r (.cells ((L.set a.toNat b).map intV) 3) = h2 at g3' gr' kp2 lr' ⊢
      have s2 := hst (a := b) (v := .int .i64 a) gr' (by kernel_rfl) rfl rfl (by simp; omega)
      have hm2 : ((L.set a.toNat b).map intV).set b.toNat (.int .i64 a) = ((L.set a.toNat b).set b.toNat a).map intV := by
        rw [show AV.int .i64 a = intV a from rfl, ← List.map_set]
      rw [hm2] at s2
      conv => arg 1; whnf
      refine atCall_P (ib _) ?_
      conv => arg 1; whnf
      refine atCall_P (s2) ?_
      conv => arg 1; whnf
      exact ih (i + 1) hz' (by omega) (by omega) (by simp; omega) (by rw [AH.get_set, if_neg hne]; exact g3') (by rw [AH.get_set, if_pos rfl]) (kp2.set _ hr) (by rw [AH.next_set]; exact lr') hT
    · rename_i hd
      have hlt : ¬ i < nt.wires.length := by simp at hd; omega
      rw [List.drop_eq_nil_of_le (by omega)] at hT
      simp only [links03] at hT
      subst hT
      exact hK gr kp lr
end

theorem ports_len' {s : List Ag} {n : Nt} (hP : ∀ a, 0 ≤ portsN s a ∧ portsN s a ≤ 7) (hf : n.free ≤ 64) (hc : n.cells.length ≤ 4096) : (portsL s n).length ≤ 30000 := by
  have h1 : (freePorts n.free).length ≤ 64 := by unfold freePorts; rw [List.length_map, List.length_range']; omega
  have h2 : ∀ (cells : List Int) (i : Nat), (cellsPorts s cells i).length ≤ 7 * cells.length := by
    intro cells
    induction cells with
    | nil => intro i; simp [cellsPorts]
    | cons a r ih =>
      intro i
      have := ih (i + 1)
      have := hP a
      simp only [cellsPorts, cellPorts, List.length_append, List.length_map, List.length_range', List.length_cons]
      omega
  have := h2 n.cells 0
  unfold portsL
  rw [List.length_append]; omega

theorem bLk (call rgn n) (x v : AV) (s : List Ag) (nt : Nt) (hx : IsSig x s) (hv : IsNet v nt) (g : Good s nt) (hwl : nt.wires.length ≤ 1000000) (hF1 : hF1 call) (hPl : hPl call) (hn2 : nt.wires.length < n) (h : AH) :
    ∃ r h', B tab57 call rgn n 57 Tryz.f57 [x, v] h = some (.ret (.hsl r 0 (portsL s nt).length (.known (portsL s nt).length)), h') ∧ h'.get r = some (.cells ((links03 s nt nt.wires (List.replicate (portsL s nt).length 0)).map intV) 3) ∧ h.next.nat ≤ r.nat ∧ r.nat < h'.next.nat ∧ Kept h.next.nat h h' := by
  have hP := sigChk_ports g.sg
  have hml := ports_len' hP g.f1 g.cl
  have ho : okF s nt := ⟨g.sg, by have := g.cl; omega, by have := g.f0; omega, by have := g.f1; omega, hwl⟩
  have hme := most_eq (s := s) (n := nt) (fun a => (hP a).1) g.f0
  have hpl := fun p => place_lt (s := s) (n := nt) (fun a => (hP a).1) g.f0 p
  rw [hme, Int.toNat_natCast] at hpl
  have hok : ∀ w ∈ nt.wires, (0 ≤ placeN s nt (wA w) ∧ placeN s nt (wA w) < (portsL s nt).length) ∧ 0 ≤ placeN s nt (wB w) ∧ placeN s nt (wB w) < (portsL s nt).length := fun w hw => by
    obtain ⟨m1, m2⟩ := mem_ends hw
    obtain ⟨a, a1, _⟩ := place_at (fun a => (hP a).1) g.f0 (g.ip _ m1)
    obtain ⟨b, b1, _⟩ := place_at (fun a => (hP a).1) g.f0 (g.ip _ m2)
    exact ⟨⟨by omega, hpl _ (by omega)⟩, by omega, hpl _ (by omega)⟩
  have hfirst := fun h1 => hF1 x v s nt h1 hx hv ho
  simp only [firstV, hme] at hfirst
  generalize (portsL s nt).length = m0 at hok hfirst hml ⊢
  suffices hq : ∀ Q : Option (AOut × AH) → Prop, (∀ r h', h'.get r = some (.cells ((links03 s nt nt.wires (List.replicate m0 0)).map intV) 3) → h.next.nat ≤ r.nat → r.nat < h'.next.nat → Kept h.next.nat h h' → Q (some (.ret (.hsl r 0 m0 (.known m0)), h'))) → Q (B tab57 call rgn n 57 Tryz.f57 [x, v] h) from
    hq (fun y => ∃ r h', y = some (.ret (.hsl r 0 m0 (.known m0)), h') ∧ h'.get r = some (.cells ((links03 s nt nt.wires (List.replicate m0 0)).map intV) 3) ∧ h.next.nat ≤ r.nat ∧ r.nat < h'.next.nat ∧ Kept h.next.nat h h') (fun r h' a1 a2 a3 a4 => ⟨r, h', rfl, a1, a2, a3, a4⟩)
  intro Q hQ
  obtain ⟨c, w, rfl, hc, hw⟩ := hv
  have hcs := isL_scalar hc
  have hws := isL_scalar hw
  conv => arg 1; whnf
  refine atCall_P (box_new (cs := [c, .int .i64 nt.free, w]) rfl (by simp only [List.all_cons, hcs, hws, List.all_nil]; rfl)) ?_
  have kp := kept_one h (.cells [c, .int .i64 nt.free, w] 43)
  generalize hn0 : h.next.nat = n0 at kp hQ
  generalize hh_h1 : h.alloc (.cells [c, .int .i64 nt.free, w] 43) = h1 at *
  obtain ⟨a_i3, n_i3, k_h1⟩ := alloc_facts hh_h1
  clear hh_h1 k_h1
  generalize hi_i3 : h.next = i3 at *
  clear hi_i3
  have ln : vOf h1 (aLoad Tryz.prog 43 (.ptr i3 0) h1) = some (.ret (.agg [c, .int .i64 nt.free, w]), h1) := ld_agg (n := 3) a_i3 (by kernel_rfl) (by kernel_rfl) (by simp)
  have isf := listW_isL (enc := intV) (firstL s nt.cells nt.free)
  have hf1 := hfirst h1
  generalize hfv : listW intV (firstL s nt.cells nt.free) = fv at hf1 isf
  have hfv2 : fv = .nilsl ∨ ∃ xs cc, fv = .vsl xs cc := by
    rcases isf with ⟨h, _⟩ | ⟨cc, h⟩
    · exact .inl h
    · exact .inr ⟨_, cc, h⟩
  clear hfirst hfv
  conv => arg 1; whnf
  refine atCall_P (ln) ?_
  conv => arg 1; whnf
  refine atCall_P (hf1) ?_
  rcases hfv2 with hfv2 | ⟨xs, cc, hfv2⟩
  all_goals
    subst hfv2
    have hms := ms_new (t := 40) (e := 3) (m := m0) (h := h1) (z := .int .i64 0) (by kernel_rfl) (by kernel_rfl) (by kernel_rfl) rfl rfl (bs := 8) (by kernel_rfl) (by omega) (by omega)
    conv => arg 1; whnf
    refine atCall_P (hms) ?_
    have hrep : List.replicate m0 (AV.int .i64 0) = (List.replicate m0 (0 : Int)).map intV := by rw [List.map_replicate]; rfl
    rw [hrep]
    replace kp := kp.alloc (.cells ((List.replicate m0 (0 : Int)).map intV) 3)
    generalize hh_h2 : h1.alloc (.cells ((List.replicate m0 (0 : Int)).map intV) 3) = h2 at *
    obtain ⟨a_r, n_r, k_h2⟩ := alloc_facts hh_h2
    replace a_i3 := k_h2 _ _ a_i3 (by omega)
    clear hh_h2 k_h2
    generalize hi_r : h1.next = r at *
    clear hi_r
    have hne : i3 ≠ r := by rintro rfl; omega
    conv => arg 1; whnf
    refine lLk (c := c) (w := w) (f := nt.free) (n0 := n0) (gg := h) call rgn n x _ s nt hx hc hw rfl isf ho hPl m0 hok hne (by omega) (T := links03 s nt nt.wires (List.replicate m0 0)) ?_ n 0 (z := 0) (L := List.replicate m0 0) rfl (Nat.zero_le _) (by omega) (by simp) a_i3 a_r kp (by omega) (by rw [List.drop_zero])
    intro h3
    intros
    rename_i k1 k2 k3
    conv => arg 1; whnf
    exact atLeave_P (leave_plain (.inl rfl) rfl) (hQ r _ k1 (by omega) k3 k2)

/-! ### Read -/

def readG (all : List Pt) (lk first cells : List Int) : Nat → Nat → Int → Option (Int × Int)
  | 0, _, _ => none
  | m + 1, k, at0 =>
    if (all.getD (lk.getD at0.toNat 0).toNat (0, 0)).1 < 0 ∨ (all.getD (lk.getD at0.toNat 0).toNat (0, 0)).2 ≠ 0 then some (0, 62)
    else if cells.getD (all.getD (lk.getD at0.toNat 0).toNat (0, 0)).1.toNat 0 = 0 then (if (k : Int) + 1 ≠ cells.length then some (0, 62) else some (k, 0))
    else if cells.getD (all.getD (lk.getD at0.toNat 0).toNat (0, 0)).1.toNat 0 ≠ 1 then some (0, 62)
    else readG all lk first cells m (k + 1) (first.getD (all.getD (lk.getD at0.toNat 0).toNat (0, 0)).1.toNat 0 + 1)

theorem getD_some {α : Type} {l : List α} {i : Nat} {d v : α} (h : l[i]? = some v) : l.getD i d = v := by rw [List.getD_eq_getElem?_getD, h]; rfl

def tab29 : Nat → Option (List Nat) := fun id => match Nat.beq id 999999 with | true => some [] | false => match Nat.beq id 1 with | true => some [1, 0, 2, 3, 4, 5, 6, 7] | false => match Nat.beq id 6 with | true => some [1, 0, 2, 3] | false => match Nat.beq id 8 with | true => some [1, 0, 2, 3, 4, 5, 6, 7] | false => none
theorem fits29 : tabFits Tryz.prog (mu0 29) tab29 (codeOf Tryz.f29) = true := by kernel_rfl

theorem lRG (call rgn n) (i1 r : Sk.Id) (c w av fv : AV) (f : Int) (all : List Pt) (lk first cells : List Int) (ha : IsL av (all.map portV)) (hf : IsL fv (first.map intV)) (hc : IsL c (cells.map intV)) (m0 : Nat) (hm0 : m0 ≤ 1000000) (hal : all.length = m0) (hll : lk.length = m0) (hfl : first.length = cells.length)
    (hlk : ∀ i : Nat, i < m0 → 0 ≤ lk.getD i 0 ∧ lk.getD i 0 < m0) (hce : ∀ p ∈ all, 0 ≤ p.1 → p.1 < cells.length) (hfi : ∀ i : Nat, i < cells.length → cells.getD i 0 = 1 → 0 ≤ first.getD i 0 ∧ first.getD i 0 + 1 < m0) (hcl : cells.length ≤ 100000)
    {v e : Int} {K : KC (AOut × AH)} {Q : Option (AOut × AH) → Prop}
    (hR : ∀ {h : AH} {g0 g1 g4 g5 g6 g7 g8 g9 g10 g11 g12 g13 g14 g15 g16 g17 g18 g19 g20 g21 g22 g23 g24 g25 g26 g27 g28 g29 g30 g31 g32 g33 g34 g35 g36 g37 g38 g39 g40 g41 g42 g43 g44 g45 g46 g47 g48 g49 g50 g51 g52 g53 g54 g55 g56 g57 g58 g59 g60 g61 g62 g63 g64 g65 g66 g67 g68 g69 g70 g71 g72 g73 g74 g75 g76 g77 g78 g79 g80 : AV}, Q (K .ret ⟨(g0 :: g1 :: .int .i64 v :: .int .i64 e :: g4 :: g5 :: g6 :: g7 :: g8 :: g9 :: g10 :: g11 :: g12 :: g13 :: g14 :: g15 :: g16 :: g17 :: g18 :: g19 :: g20 :: g21 :: g22 :: g23 :: g24 :: g25 :: g26 :: g27 :: g28 :: g29 :: g30 :: g31 :: g32 :: g33 :: g34 :: g35 :: g36 :: g37 :: g38 :: g39 :: g40 :: g41 :: g42 :: g43 :: g44 :: g45 :: g46 :: g47 :: g48 :: g49 :: g50 :: g51 :: g52 :: g53 :: g54 :: g55 :: g56 :: g57 :: g58 :: g59 :: g60 :: g61 :: g62 :: g63 :: g64 :: g65 :: g66 :: g67 :: g68 :: g69 :: g70 :: g71 :: g72 :: g73 :: g74 :: g75 :: g76 :: g77 :: g78 :: g79 :: g80 :: []), [], h⟩)) :
    ∀ (m m' k : Nat) {z a : Int} {h : AH} {g0 g2 g3 g4 g5 g9 g12 g13 g14 g15 g16 g17 g18 g19 g20 g21 g22 g23 g24 g25 g26 g27 g28 g29 g30 g31 g32 g33 g34 g35 g36 g37 g38 g39 g40 g41 g42 g43 g44 g45 g46 g47 g48 g49 g50 g51 g52 g53 g54 g55 g56 g57 g58 g59 g60 g61 g62 g63 g64 g65 g66 g67 g68 g69 g70 g71 g72 g73 g74 g75 g76 g77 g78 g79 g80 : AV}, m ≤ m' → z = k → k + m ≤ 1000000000 → 0 ≤ a → a < m0 → h.get i1 = some (.cells [c, .int .i64 f, w] 43) → i1.nat < h.next.nat → h.get r = some (.cells (lk.map intV) 3) → r.nat < h.next.nat → readG all lk first cells m k a = some (v, e) →
    Q (cIter (LB tab29 call rgn n 29 Tryz.f29 0) m' ⟨(g0 :: .ptr i1 0 :: g2 :: g3 :: g4 :: g5 :: av :: .hsl r 0 m0 (.known m0) :: fv :: g9 :: .int .i64 a :: .int .i64 z :: g12 :: g13 :: g14 :: g15 :: g16 :: g17 :: g18 :: g19 :: g20 :: g21 :: g22 :: g23 :: g24 :: g25 :: g26 :: g27 :: g28 :: g29 :: g30 :: g31 :: g32 :: g33 :: g34 :: g35 :: g36 :: g37 :: g38 :: g39 :: g40 :: g41 :: g42 :: g43 :: g44 :: g45 :: g46 :: g47 :: g48 :: g49 :: g50 :: g51 :: g52 :: g53 :: g54 :: g55 :: g56 :: g57 :: g58 :: g59 :: g60 :: g61 :: g62 :: g63 :: g64 :: g65 :: g66 :: g67 :: g68 :: g69 :: g70 :: g71 :: g72 :: g73 :: g74 :: g75 :: g76 :: g77 :: g78 :: g79 :: g80 :: []), [], h⟩ K) := by
  have ui : Tryz.prog.underlying 40 = some (.slice 3) := by kernel_rfl
  have hlc := fun h => len_L (X := ⟨Tryz.prog, mu0, call⟩) (mu := false) (h := h) ui hc
  rw [List.length_map] at hlc
  intro m
  induction m with
  | zero => intros; rename_i hg; simp [readG] at hg
  | succ m ih =>
    intro m' k z a h g0 g2 g3 g4 g5 g9 g12 g13 g14 g15 g16 g17 g18 g19 g20 g21 g22 g23 g24 g25 g26 g27 g28 g29 g30 g31 g32 g33 g34 g35 g36 g37 g38 g39 g40 g41 g42 g43 g44 g45 g46 g47 g48 g49 g50 g51 g52 g53 g54 g55 g56 g57 g58 g59 g60 g61 g62 g63 g64 g65 g66 g67 g68 g69 g70 g71 g72 g73 g74 g75 g76 g77 g78 g79 g80 hm hz hkm a0 am g1 l1 gr lr hG
    obtain ⟨m', rfl⟩ : ∃ q, m' = q + 1 := ⟨m' - 1, by omega⟩
    rw [cIter_succ]
    simp only [readG] at hG
    have La : lk[a.toNat]? = some (lk.getD a.toNat 0) := by rw [List.getD_eq_getElem?_getD, List.getElem?_eq_getElem (by omega)]; rfl
    obtain ⟨b0, bm⟩ := hlk a.toNat (by omega)
    generalize lk.getD a.toNat 0 = b at La b0 bm hG
    have ia := fun h => hix (r := r) (m := m0) (a := a) (h := h) ui (by kernel_rfl) a0 am
    have la := hld (a := a) (v := .int .i64 b) gr (by kernel_rfl) (by kernel_rfl) (by rw [List.getElem?_map, La]; rfl)
    obtain ⟨p, p1, p2⟩ := idx_ports (h := h) (a := b) ha b0 (by omega)
    rw [getD_some p1] at hG
    have hpm := hce p (List.mem_of_getElem? p1)
    obtain ⟨pc, ps⟩ := p
    simp only at hG hpm
    conv => arg 1; whnf
    refine atCall_P (ia _) ?_
    conv => arg 1; whnf
    refine atCall_P (la) ?_
    conv => arg 1; whnf
    refine atCall_P (p2) ?_
    conv => arg 1; whnf
    refine atCall_P (alloc_new (z := .agg [.int .i64 0, .int .i64 0]) (cs := [.int .i64 0, .int .i64 0]) (by kernel_rfl) rfl rfl) ?_
    generalize hh_h1 : h.alloc (.cells [.int .i64 0, .int .i64 0] 60) = h1 at *
    obtain ⟨a_i12, n_i12, k_h1⟩ := alloc_facts hh_h1
    replace g1 := k_h1 _ _ g1 (by omega)
    replace gr := k_h1 _ _ gr (by omega)
    clear hh_h1 k_h1
    generalize hi_i12 : h.next = i12 at *
    clear hi_i12
    have n1 : i1 ≠ i12 := by rintro rfl; omega
    have n2 : r ≠ i12 := by rintro rfl; omega
    have st : hOf (aStore Tryz.prog 60 (.ptr i12 0) (portV (pc, ps)) h1) = some (.ret undefA, h1.set i12 (.cells [.int .i64 pc, .int .i64 ps] 60)) := st_ptr (n := 2) a_i12 (by kernel_rfl) rfl (by simp) rfl
    conv => arg 1; whnf
    refine atCall_P (st) ?_
    generalize hh_h2 : h1.set i12 (.cells [.int .i64 pc, .int .i64 ps] 60) = h2 at *
    obtain ⟨b_i12, n_h2, k_h2⟩ := set_facts hh_h2
    replace g1 := k_h2 _ _ g1 (by rintro rfl; omega)
    replace gr := k_h2 _ _ gr (by rintro rfl; omega)
    clear hh_h2 k_h2
    replace n_h2 : h2.next.nat = h1.next.nat := congrArg Id.nat n_h2
    have q0 : vOf h2 (aLoad Tryz.prog 3 (.ptr i12 0) h2) = some (.ret (.int .i64 pc), h2) := ld_ptr (n := 1) b_i12 (by kernel_rfl) (by kernel_rfl) rfl
    have q1 : vOf h2 (aLoad Tryz.prog 3 (.ptr i12 1) h2) = some (.ret (.int .i64 ps), h2) := ld_ptr (n := 1) b_i12 (by kernel_rfl) (by kernel_rfl) rfl
    have lc : vOf h2 (aLoad Tryz.prog 40 (.ptr i1 0) h2) = some (.ret c, h2) := ld_ptr (n := 1) g1 (by kernel_rfl) (by kernel_rfl) rfl
    conv => arg 1; whnf
    refine atCall_P (q0) ?_
    conv => arg 1; whnf
    cases e1 : decide (pc < 0)
    rotate_left
    · rw [if_pos (.inl (by simpa using e1))] at hG
      simp only [Option.some.injEq, Prod.mk.injEq] at hG
      obtain ⟨rfl, rfl⟩ := hG
      conv => arg 1; whnf
      exact hR
    conv => arg 1; whnf
    refine atCall_P (q1) ?_
    conv => arg 1; whnf
    cases e2 : (ps != 0)
    rotate_left
    · rw [if_pos (.inr (by simpa using e2))] at hG
      simp only [Option.some.injEq, Prod.mk.injEq] at hG
      obtain ⟨rfl, rfl⟩ := hG
      conv => arg 1; whnf
      exact hR
    have c0 : 0 ≤ pc := by simpa using e1
    have cm := hpm c0
    rw [if_neg (by simp at e1 e2 ⊢; omega)] at hG
    obtain ⟨y, y1, y2⟩ := idx_ints (h := h2) (a := pc) hc c0 cm
    have hyg : cells.getD pc.toNat 0 = y := getD_some y1
    rw [hyg] at hG
    conv => arg 1; whnf
    refine atCall_P (lc) ?_
    conv => arg 1; whnf
    refine atCall_P (q0) ?_
    conv => arg 1; whnf
    refine atCall_P (y2) ?_
    conv => arg 1; whnf
    cases e3 : (y == 0)
    · have y0 : ¬ y = 0 := by simpa using e3
      rw [if_neg y0] at hG
      conv => arg 1; whnf
      refine atCall_P (lc) ?_
      conv => arg 1; whnf
      refine atCall_P (q0) ?_
      conv => arg 1; whnf
      refine atCall_P (y2) ?_
      conv => arg 1; whnf
      cases e4 : (y != 1)
      · have y1' : y = 1 := by simpa using e4
        rw [if_neg (by simpa using y1')] at hG
        obtain ⟨f0, fm⟩ := hfi pc.toNat (by omega) (by rw [hyg, y1'])
        obtain ⟨fv', v1, v2⟩ := idx_ints (h := h2) (a := pc) hf c0 (by omega)
        have hfg : first.getD pc.toNat 0 = fv' := getD_some v1
        rw [hfg] at hG f0 fm
        conv => arg 1; whnf
        refine atCall_P (q0) ?_
        conv => arg 1; whnf
        refine atCall_P (v2) ?_
        conv => arg 1; whnf
        have hw : IntKind.i64.wrap (fv' + 1) = fv' + 1 := wrap_small (by omega) (by omega)
        refine ih m' (k + 1) (by omega) (by rw [hz]; exact wrap_succ (by omega)) (by omega) (by omega) (by omega) g1 (by omega) gr (by omega) (by rw [hw]; exact hG)
      · rw [if_pos (by simpa using e4)] at hG
        simp only [Option.some.injEq, Prod.mk.injEq] at hG
        obtain ⟨rfl, rfl⟩ := hG
        conv => arg 1; whnf
        exact hR
    · have y0 : y = 0 := by simpa using e3
      rw [if_pos y0] at hG
      have hw : IntKind.i64.wrap (z + 1) = (k : Int) + 1 := by rw [hz, wrap_small (by omega) (by omega)]
      conv => arg 1; whnf
      refine atCall_P (lc) ?_
      conv => arg 1; whnf
      refine atCall_P (hlc _) ?_
      conv => arg 1; whnf
      cases e5 : (IntKind.i64.wrap (z + 1) != (cells.length : Int))
      · rw [hw] at e5
        rw [if_neg (by simpa using e5)] at hG
        simp only [Option.some.injEq, Prod.mk.injEq] at hG
        obtain ⟨rfl, rfl⟩ := hG
        rw [hz]
        conv => arg 1; whnf
        exact hR
      · rw [hw] at e5
        rw [if_pos (by simpa using e5)] at hG
        simp only [Option.some.injEq, Prod.mk.injEq] at hG
        obtain ⟨rfl, rfl⟩ := hG
        conv => arg 1; whnf
        exact hR
end Go.Proofs.Nt

/-
  The reference's Read of numbers, its contract.
-/
namespace Go.Proofs.Nt
open Go.Sk
set_option linter.unusedVariables false
set_option linter.unusedSimpArgs false
set_option maxRecDepth 10000

theorem bRG (call rgn n) (x v : AV) (nt : Nt) (hx : IsSig x sigU) (hv : IsNet v nt) (hS : ∀ h, call (.func 66) [] h = some (.ret x, h)) (hCh : hCh call) (hAl : hAl call) (hF1 : hF1 call) (hwl : nt.wires.length ≤ 1000000) (hn : 1000000 < n)
    (lk : List Int) (m0 : Nat)
    (hLk : (chk03 sigU nt).1 = 0 → ∀ v h, IsNet v nt → ∃ r h', call (.func 57) [x, v] h = some (.ret (.hsl r 0 m0 (.known m0)), h') ∧ h'.get r = some (.cells (lk.map intV) 3) ∧ h.next.nat ≤ r.nat ∧ r.nat < h'.next.nat ∧ Kept h.next.nat h h')
    (hrg : ∀ id ops st, rgn id ops st = drawn ⟨Tryz.prog, mu0, call⟩ 29 ops st)
    (v0 e0 : Int)
    (hres : ((chk03 sigU nt).1 ≠ 0 ∧ v0 = 0 ∧ e0 = (chk03 sigU nt).1) ∨ ((chk03 sigU nt).1 = 0 ∧ nt.free ≠ 1 ∧ v0 = 0 ∧ e0 = 62) ∨ ((chk03 sigU nt).1 = 0 ∧ nt.free = 1 ∧ okF sigU nt ∧ (portsL sigU nt).length = m0 ∧ m0 ≤ 1000000 ∧ 0 < m0 ∧ lk.length = m0 ∧
      (∀ i : Nat, i < m0 → 0 ≤ lk.getD i 0 ∧ lk.getD i 0 < m0) ∧ (∀ p ∈ portsL sigU nt, 0 ≤ p.1 → p.1 < nt.cells.length) ∧ (∀ i : Nat, i < nt.cells.length → nt.cells.getD i 0 = 1 → 0 ≤ (firstL sigU nt.cells nt.free).getD i 0 ∧ (firstL sigU nt.cells nt.free).getD i 0 + 1 < m0) ∧
      ∃ m, m ≤ 1000000 ∧ readG (portsL sigU nt) lk (firstL sigU nt.cells nt.free) nt.cells m 0 0 = some (v0, e0))) (h : AH) :
    ∃ h', B tab29 call rgn n 29 Tryz.f29 [v] h = some (.ret (.tup [.int .i64 v0, .int .i64 e0]), h') := by
  suffices hq : ∀ Q : Option (AOut × AH) → Prop, ¬ Q none → (∀ h', Q (some (.ret (.tup [.int .i64 v0, .int .i64 e0]), h'))) → Q (B tab29 call rgn n 29 Tryz.f29 [v] h) from
    hq (fun y => ∃ h', y = some (.ret (.tup [.int .i64 v0, .int .i64 e0]), h')) (by rintro ⟨_, h⟩; cases h) (fun h' => ⟨h', rfl⟩)
  intro Q hN hQ
  have hv0 := hv
  obtain ⟨c, w, rfl, hc, hw⟩ := hv
  have hcs := isL_scalar hc
  have hws := isL_scalar hw
  conv => arg 1; whnf
  refine atCall_P (box_new (cs := [c, .int .i64 nt.free, w]) rfl (by simp only [List.all_cons, hcs, hws, List.all_nil]; rfl)) ?_
  generalize hh_h1 : h.alloc (.cells [c, .int .i64 nt.free, w] 43) = h1 at *
  obtain ⟨a_i1, n_i1, k_h1⟩ := alloc_facts hh_h1
  clear hh_h1 k_h1
  generalize hi_i1 : h.next = i1 at *
  clear hi_i1
  have ln : ∀ h, h.get i1 = some (.cells [c, .int .i64 nt.free, w] 43) → vOf h (aLoad Tryz.prog 43 (.ptr i1 0) h) = some (.ret (.agg [c, .int .i64 nt.free, w]), h) := fun h g => ld_agg (n := 3) g (by kernel_rfl) (by kernel_rfl) (by simp)
  have lf : vOf h1 (aLoad Tryz.prog 3 (.ptr i1 1) h1) = some (.ret (.int .i64 nt.free), h1) := ld_ptr (n := 1) a_i1 (by kernel_rfl) (by kernel_rfl) rfl
  have pC := hCh x (.agg [c, .int .i64 nt.free, w]) nt h1 hx hv0 hwl
  generalize hce : (chk03 sigU nt).1 = ce at pC hres hLk
  generalize (chk03 sigU nt).2 = ca at pC
  conv => arg 1; whnf
  refine atCall_P (ln h1 a_i1) ?_
  conv => arg 1; whnf
  refine atQuiet_P (hS h1) ?_
  conv => arg 1; whnf
  refine atQuiet_P pC ?_
  conv => arg 1; whnf
  cases e1 : (ce != 0)
  rotate_left
  · obtain ⟨_, rfl, rfl⟩ : ce ≠ 0 ∧ v0 = 0 ∧ e0 = ce := by
      rcases hres with h | h | h
      · exact h
      · simp [h.1] at e1
      · simp [h.1] at e1
    conv => arg 1; whnf
    exact atLeave_P (leave_plain (.inl rfl) rfl) (hQ _)
  have c0 : ce = 0 := by simpa using e1
  conv => arg 1; whnf
  refine atCall_P (lf) ?_
  conv => arg 1; whnf
  cases e2 : (nt.free != 1)
  rotate_left
  · obtain ⟨rfl, rfl⟩ : v0 = 0 ∧ e0 = 62 := by
      rcases hres with h | h | h
      · exact absurd c0 h.1
      · exact h.2.2
      · simp [h.2.1] at e2
    conv => arg 1; whnf
    exact atLeave_P (leave_plain (.inl rfl) rfl) (hQ _)
  have f1 : nt.free = 1 := by simpa using e2
  replace hres := (hres.resolve_left (fun h => h.1 c0)).resolve_left (fun h => h.2.1 f1)
  obtain ⟨_, _, ho, hm0, hml, hm1, hll, hlk, hce', hfi, m, hm, hG⟩ := hres
  have isa := listW_isL (enc := portV) (portsL sigU nt)
  have hall := fun h => hAl x (.agg [c, .int .i64 nt.free, w]) sigU nt h hx hv0 ho
  generalize listW portV (portsL sigU nt) = av at isa hall
  have isf := listW_isL (enc := intV) (firstL sigU nt.cells nt.free)
  have hfirst := fun h => hF1 x (.agg [c, .int .i64 nt.free, w]) sigU nt h hx hv0 ho
  unfold firstV at hfirst
  generalize listW intV (firstL sigU nt.cells nt.free) = fv at isf hfirst
  have hfv2 : fv = .nilsl ∨ ∃ xs cc, fv = .vsl xs cc := by
    rcases isf with ⟨h, _⟩ | ⟨cc, h⟩
    · exact .inl h
    · exact .inr ⟨_, cc, h⟩
  conv => arg 1; whnf
  refine atCall_P (ln h1 a_i1) ?_
  conv => arg 1; whnf
  refine atQuiet_P (hS h1) ?_
  conv => arg 1; whnf
  refine atQuiet_P (hall h1) ?_
  obtain ⟨r, h2, q1, q2, q3, q4, q5⟩ := hLk c0 (.agg [c, .int .i64 nt.free, w]) h1 hv0
  have z1 := q5.1 _ _ a_i1 (by omega)
  have kn := q5.2
  conv => arg 1; whnf
  refine atRgn_N true (fun hh => hh.get i1 = some (.cells [c, .int .i64 nt.free, w] 43)) (T := [0, 0, 3, 7]) (ord := [1, 0, 2, 3]) (by kernel_rfl) (hrg _ _ _) hN ?_
  conv => arg 1; whnf
  refine atCall_P (ln h1 a_i1) ?_
  conv => arg 1; whnf
  refine atCall_P (hS h1) ?_
  conv => arg 1; whnf
  refine atCall_P (q1) ?_
  conv => arg 1; whnf
  refine atP_P ⟨?_, (fun k hk hp => match k, hk, hp with | 0, _, _ => a_i1 | 1, _, _ => a_i1 | k + 2, _, _ => z1), (fun a ha => by cases ha), rfl⟩ ?_
  · refine ⟨fun _ hh g => ⟨hh, ln hh g⟩, trivial, trivial, trivial, trivial⟩
  conv => arg 1; whnf
  refine atCall_P (ln h2 z1) ?_
  conv => arg 1; whnf
  refine atQuiet_P (hS h2) ?_
  conv => arg 1; whnf
  refine atQuiet_P (hfirst h2) ?_
  rcases hfv2 with hfv2 | ⟨xs, cc, hfv2⟩
  all_goals
    subst hfv2
    conv => arg 1; whnf
    refine lRG call rgn n i1 r c w av _ nt.free (portsL sigU nt) lk (firstL sigU nt.cells nt.free) nt.cells isa isf hc m0 hml hm0 hll (firstL_len _ _ _) hlk hce' hfi ho.2.1 (v := v0) (e := e0) ?_ m n 0 (by omega) rfl (by omega) (Int.le_refl _) (by omega) z1 (by omega) q2 q4 hG
    intro h3
    intros
    conv => arg 1; whnf
    exact atLeave_P (leave_plain (.inl rfl) rfl) (hQ _)
end Go.Proofs.Nt

/-
  Checks are equal; links in numbers; reading a net of numbers, plainly.
-/
namespace Go.Proofs.Nt
open Go.Sk
set_option linter.unusedVariables false
set_option linter.unusedSimpArgs false

section
variable {s : List Ag} {n : Nt} (hP : ∀ a, 0 ≤ portsN s a) (hf : 0 ≤ n.free)
include hP hf

/-- At a port's place, in a list made of the ports. -/
theorem at_place {β : Type} {f : Pt → β} {d : β} {p : Pt} (h : isPort s n.cells n.free p = true) : ((portsL s n).map f).getD (placeN s n p).toNat d = f p := by
  obtain ⟨v, h1, h2⟩ := place_at hP hf h
  rw [h1, Int.toNat_natCast, List.getD_eq_getElem?_getD, List.getElem?_map, h2]; rfl
theorem set_place {β : Type} {f : Pt → β} {b : β} {p : Pt} (h : isPort s n.cells n.free p = true) : ((portsL s n).map f).set (placeN s n p).toNat b = (portsL s n).map fun q => if q = p then b else f q := by
  obtain ⟨v, h1, h2⟩ := place_at hP hf h
  rw [h1, Int.toNat_natCast]
  obtain ⟨hl, hv⟩ := List.getElem?_eq_some_iff.1 h2
  apply List.ext_getElem (by simp)
  intro i i1 i2
  simp only [List.length_map] at i2
  rw [List.getElem_set, List.getElem_map, List.getElem_map]
  by_cases hi : v = i
  · subst hi
    rw [if_pos rfl, if_pos hv]
  · rw [if_neg hi, if_neg]
    intro he
    have hpw := List.pairwise_iff_getElem.1 (nodup_ports s n)
    rcases Nat.lt_or_gt_of_ne hi with hlt | hlt
    · exact hpw v i hl i2 hlt (by rw [hv, he])
    · exact hpw i v i2 hl hlt (by rw [hv, he])

theorem wires_eq : ∀ (W : List Wr) (i : Nat) (S : Sn), wires03 s n W i ((portsL s n).map S) = match wiresF s n.cells n.free W i S with | .inl e => .inl e | .inr S' => .inr ((portsL s n).map S')
  | [], _, _ => rfl
  | w :: r, i, S => by
    simp only [wires03, wiresF]
    cases hA : isPort s n.cells n.free (wA w) with
    | false => rw [if_pos (.inl (by rw [place_no hA]; omega))]; rfl
    | true =>
      obtain ⟨a, a1, _⟩ := place_at hP hf hA
      cases hB : isPort s n.cells n.free (wB w) with
      | false => rw [if_pos (.inr (by rw [place_no hB]; omega))]; rfl
      | true =>
        obtain ⟨b, b1, _⟩ := place_at hP hf hB
        rw [if_neg (by omega), at_place hP hf hA, at_place hP hf hB]
        simp only [Bool.not_true, Bool.or_self, cond_false]
        cases e2 : (S (wA w) || S (wB w) || (wA w == wB w)) with
        | true =>
          rw [if_pos]
          · rfl
          simp only [Bool.or_eq_true, beq_iff_eq] at e2
          rcases e2 with (h | h) | h
          · exact .inl h
          · exact .inr (.inl h)
          · exact .inr (.inr (by rw [h]))
        | false =>
          simp only [Bool.or_eq_false_iff, beq_eq_false_iff_ne, ne_eq] at e2
          obtain ⟨⟨h1, h2⟩, h3⟩ := e2
          rw [if_neg]
          · rw [set_place hP hf hA, set_place hP hf hB]
            exact wires_eq r (i + 1) (addS (addS S (wA w)) (wB w))
          · rintro (h | h | h)
            · rw [h1] at h; cases h
            · rw [h2] at h; cases h
            · exact h3 (place_inj hP hf hA hB h)

omit hP hf in
theorem open_eq (S : Sn) : ∀ (ps : List Pt) (i : Nat), open03 (ps.map S) i = openF S ps i
  | [], _ => rfl
  | p :: r, i => by
    simp only [List.map_cons, open03, openF]
    rw [open_eq S r]

omit hf in
theorem chk_eq (h0 : (sigChk s).1 = 0) : chk03 s n = netChk s n := by
  unfold chk03 netChk
  rw [if_neg (show ¬ (sigChk s).1 ≠ 0 by simpa using h0)]
  split
  · rfl
  split
  · rfl
  rename_i h1 h2
  have hf : 0 ≤ n.free := by omega
  cases badCell s.length n.cells 0 with
  | some i => rfl
  | none =>
    simp only
    have hL : List.replicate (mostN s n.cells n.free).toNat false = (portsL s n).map fun _ => false := by
      rw [most_eq hP hf, Int.toNat_natCast, List.map_const']
    rw [hL, wires_eq hP hf]
    cases wiresF s n.cells n.free n.wires 0 fun _ => false with
    | inl e => rfl
    | inr S' => exact open_eq S' _ 0

/-- A link, as a number. -/
def vP (s : List Ag) (n : Nt) (M : Lk) : Pt → Int := fun p => match M p with | some q => placeN s n q | none => 0
theorem links_eq : ∀ (W : List Wr) (M : Lk), (∀ p ∈ ends W, isPort s n.cells n.free p = true) → links03 s n W ((portsL s n).map (vP s n M)) = (portsL s n).map (vP s n (linkP W M))
  | [], _, _ => rfl
  | w :: r, M, h => by
    simp only [links03, linkP]
    rw [set_place hP hf (h (wA w) (by simp [ends])), set_place hP hf (h (wB w) (by simp [ends])), ← links_eq r _ (fun p hp => h p (by simp [ends, hp]))]
    congr 1
    apply List.map_congr_left
    intro p _
    unfold vP updP
    by_cases n1 : p = wB w
    · rw [if_pos n1]; simp only [n1, if_true]
    · rw [if_neg n1]
      by_cases n2 : p = wA w
      · subst n2
        rw [if_pos rfl]; simp only [if_neg n1, if_true]
      · rw [if_neg n2]; simp only [if_neg n1, if_neg n2]
end

theorem links_good {s : List Ag} {n : Nt} (g : Good s n) : links03 s n n.wires (List.replicate (portsL s n).length 0) = (portsL s n).map (vP s n (linksOf n.wires)) := by
  have hP := fun a => (sigChk_ports g.sg a).1
  rw [← List.map_const', show (fun (_ : Pt) => (0 : Int)) = vP s n (fun _ => none) from rfl]
  exact links_eq hP g.f0 n.wires _ g.ip

/-! ### Reading -/

def readF (M : Lk) (cells : List Int) : Nat → Nat → Pt → Option (Int × Int)
  | 0, _, _ => none
  | m + 1, k, p =>
    if (valN M p).1 < 0 ∨ (valN M p).2 ≠ 0 then some (0, 62)
    else if cells.getD (valN M p).1.toNat 0 = 0 then (if (k : Int) + 1 ≠ cells.length then some (0, 62) else some (k, 0))
    else if cells.getD (valN M p).1.toNat 0 ≠ 1 then some (0, 62)
    else readF M cells m (k + 1) ((valN M p).1, 1)

theorem len_bound : ∀ (n : Nat) (l : List Nat), l.Nodup → (∀ x ∈ l, x < n) → l.length ≤ n
  | 0, l, _, h => by
    cases l with
    | nil => simp
    | cons x r => exact absurd (h x (by simp)) (by omega)
  | n + 1, l, hn, h => by
    have h1 := len_bound n (l.erase n) (hn.erase n) (fun x hx => by
      have := h x (List.mem_of_mem_erase hx)
      have hne : x ≠ n := by rintro rfl; exact (hn.not_mem_erase hx)
      omega)
    have h2 : l.length ≤ (l.erase n).length + 1 := by
      rw [List.length_erase]; split <;> omega
    omega

structure RV (M : Lk) (cells : List Int) (V : List Nat) (p : Pt) : Prop where
  nd : V.Nodup
  lt : ∀ c ∈ V, c < cells.length
  pr : ∀ c ∈ V, valN M ((c : Int), 0) = (-1, 0) ∨ ∃ c' ∈ V, valN M ((c : Int), 0) = ((c' : Int), 1)
  ne : ∀ c ∈ V, valN M ((c : Int), 0) ≠ p
  at' : p = (-1, 0) ∨ ∃ c' ∈ V, p = ((c' : Int), 1)

theorem portsU1 : portsN sigU 1 = 2 := by decide
theorem cell_port {s : List Ag} {n : Nt} {c : Nat} {a : Int} {k : Int} (hc : n.cells[c]? = some a) (h0 : 0 ≤ k) (hk : k < portsN s a) : ((c : Int), k) ∈ portsL s n := by
  unfold portsL
  rw [List.mem_append]
  right
  exact mem_cells.2 ⟨c, a, hc, by simp, h0, hk⟩

theorem getD_get {l : List Int} {c : Nat} {a : Int} (h : l.getD c 0 = a) (hl : c < l.length) : l[c]? = some a := by
  rw [List.getD_eq_getElem?_getD, List.getElem?_eq_getElem hl] at h
  rw [List.getElem?_eq_getElem hl, ← h]; rfl

theorem port_cell {s : List Ag} {n : Nt} {p : Pt} (hp : p ∈ portsL s n) (h0 : 0 ≤ p.1) : p.1.toNat < n.cells.length ∧ ((p.1.toNat : Nat) : Int) = p.1 := by
  refine ⟨?_, by omega⟩
  unfold portsL at hp
  rcases List.mem_append.1 hp with h | h
  · have := (mem_free.1 h).1; omega
  · obtain ⟨i, a, h1, h2, _⟩ := mem_cells.1 h
    have := (List.getElem?_eq_some_iff.1 h1).1
    omega

theorem readF_some {n : Nt} (g : Good sigU n) : ∀ (m k : Nat) (V : List Nat) (p : Pt), p ∈ portsL sigU n → RV (linksOf n.wires) n.cells V p → n.cells.length < m + V.length → ∃ y, readF (linksOf n.wires) n.cells m k p = some y
  | 0, k, V, p, hp, r, hm => by have := len_bound n.cells.length V r.nd r.lt; omega
  | m + 1, k, V, p, hp, r, hm => by
    obtain ⟨i1, i2, i3, i4⟩ := g.inv.val hp
    simp only [readF]
    split
    · exact ⟨_, rfl⟩
    rename_i h1
    split
    · split <;> exact ⟨_, rfl⟩
    split
    · exact ⟨_, rfl⟩
    rename_i h2 h3
    simp only [not_or, Int.not_lt, ne_eq, Decidable.not_not] at h1 h3
    obtain ⟨c1, c2⟩ := port_cell i1 h1.1
    have hq : valN (linksOf n.wires) p = (((valN (linksOf n.wires) p).1.toNat : Int), 0) := by
      ext
      · exact c2.symm
      · exact h1.2
    generalize (valN (linksOf n.wires) p).1.toNat = c at c1 c2 hq h3
    rw [hq] at i3 i4
    have hc1 := cell_port (s := sigU) (k := 1) (getD_get h3 c1) (by omega) (by rw [portsU1]; omega)
    have hnV : c ∉ V := fun hc => r.ne c hc i3
    rw [← c2]
    refine readF_some g m (k + 1) (c :: V) _ hc1 ⟨List.nodup_cons.2 ⟨hnV, r.nd⟩, ?_, ?_, ?_, .inr ⟨c, by simp, rfl⟩⟩ (by simp; omega)
    · intro x hx
      rcases List.mem_cons.1 hx with rfl | hx
      · exact c1
      · exact r.lt x hx
    · intro x hx
      rcases List.mem_cons.1 hx with rfl | hx
      · rw [i3]
        rcases r.at' with h | ⟨c', h, h'⟩
        · exact .inl h
        · exact .inr ⟨c', List.mem_cons_of_mem _ h, h'⟩
      · rcases r.pr x hx with h | ⟨c', h, h'⟩
        · exact .inl h
        · exact .inr ⟨c', List.mem_cons_of_mem _ h, h'⟩
    · intro x hx he
      rcases List.mem_cons.1 hx with rfl | hx
      · rw [i3] at he
        rcases r.at' with h | ⟨c', h, h'⟩
        · rw [h] at he; simp at he
        · rw [h'] at he; simp at he
          exact hnV (by have : c' = x := by omega
                        rw [← this]; exact h)
      · rcases r.pr x hx with h | ⟨c', h, h'⟩
        · rw [h] at he; simp at he
        · rw [h'] at he; simp at he
          exact hnV (by have : c' = c := by omega
                        rw [← this]; exact h)

theorem readF_ex {n : Nt} (g : Good sigU n) (h1 : n.free = 1) : ∃ y, readF (linksOf n.wires) n.cells (n.cells.length + 1) 0 (-1, 0) = some y :=
  readF_some g _ 0 [] (-1, 0) (by unfold portsL; rw [List.mem_append]; exact .inl (mem_free.2 ⟨rfl, by simp, by simp [h1]⟩)) ⟨.nil, by simp, by simp, by simp, .inl rfl⟩ (by simp)

theorem readG_eq {n : Nt} (g : Good sigU n) : ∀ (m k : Nat) (p : Pt), p ∈ portsL sigU n →
    readG (portsL sigU n) ((portsL sigU n).map (vP sigU n (linksOf n.wires))) (firstL sigU n.cells n.free) n.cells m k (placeN sigU n p) = readF (linksOf n.wires) n.cells m k p
  | 0, _, _, _ => rfl
  | m + 1, k, p, hp => by
    have hP := fun a => (sigChk_ports g.sg a).1
    obtain ⟨i1, i2, i3, i4⟩ := g.inv.val hp
    have e1 : ((portsL sigU n).map (vP sigU n (linksOf n.wires))).getD (placeN sigU n p).toNat 0 = placeN sigU n (valN (linksOf n.wires) p) := by
      rw [at_place hP g.f0 (isPort_iff.2 hp)]
      unfold vP; rw [i2]
    have e2 : (portsL sigU n).getD (placeN sigU n (valN (linksOf n.wires) p)).toNat (0, 0) = valN (linksOf n.wires) p := by
      have := at_place (f := fun p => p) (d := (0, 0)) hP g.f0 (isPort_iff.2 i1)
      simpa using this
    simp only [readG, readF, e1, e2]
    split
    · rfl
    rename_i h1
    split
    · rfl
    split
    · rfl
    rename_i h2 h3
    simp only [not_or, Int.not_lt, ne_eq, Decidable.not_not] at h1 h3
    obtain ⟨c1, c2⟩ := port_cell i1 h1.1
    have hc1 := cell_port (s := sigU) (k := 1) (getD_get h3 c1) (by omega) (by rw [portsU1]; omega)
    rw [c2] at hc1
    have e3 : (firstL sigU n.cells n.free).getD (valN (linksOf n.wires) p).1.toNat 0 + 1 = placeN sigU n ((valN (linksOf n.wires) p).1, 1) := by
      unfold placeN
      rw [if_neg (by simp; omega), if_neg (by rw [isPort_iff.2 hc1]; simp)]
    rw [e3]
    exact readG_eq g m (k + 1) _ hc1
end Go.Proofs.Nt

/-
  The contract of the reference's Read.
-/
namespace Go.Proofs.Nt
open Go.Sk
set_option linter.unusedVariables false
set_option linter.unusedSimpArgs false

def readN (n : Nt) : Int × Int := if (netChk sigU n).1 ≠ 0 then (0, (netChk sigU n).1) else if n.free ≠ 1 then (0, 62) else (readF (linksOf n.wires) n.cells (n.cells.length + 1) 0 (-1, 0)).getD (0, 0)
def readV (n : Nt) : AV := .tup [.int .i64 (readN n).1, .int .i64 (readN n).2]

theorem first_place {s : List Ag} {n : Nt} {c : Nat} {k : Int} (h : ((c : Int), k) ∈ portsL s n) : placeN s n ((c : Int), k) = (firstL s n.cells n.free).getD c 0 + k := by
  unfold placeN
  rw [if_neg (by simp), if_neg (by rw [isPort_iff.2 h]; simp)]
  simp

theorem readG_ok {n : Nt} (g : Good sigU n) (h1 : n.free = 1) (hwl : n.wires.length ≤ 1000000) :
    ∃ lk : List Int, lk = links03 sigU n n.wires (List.replicate (portsL sigU n).length 0) ∧ okF sigU n ∧ (portsL sigU n).length = (portsL sigU n).length ∧ (portsL sigU n).length ≤ 1000000 ∧ 0 < (portsL sigU n).length ∧ lk.length = (portsL sigU n).length ∧
      (∀ i : Nat, i < (portsL sigU n).length → 0 ≤ lk.getD i 0 ∧ lk.getD i 0 < (portsL sigU n).length) ∧ (∀ p ∈ portsL sigU n, 0 ≤ p.1 → p.1 < n.cells.length) ∧ (∀ i : Nat, i < n.cells.length → n.cells.getD i 0 = 1 → 0 ≤ (firstL sigU n.cells n.free).getD i 0 ∧ (firstL sigU n.cells n.free).getD i 0 + 1 < (portsL sigU n).length) ∧
      ∃ m, m ≤ 1000000 ∧ readG (portsL sigU n) lk (firstL sigU n.cells n.free) n.cells m 0 0 = some (readN n) := by
  have hPP := sigChk_ports g.sg
  have hP := fun a => (hPP a).1
  have hml := ports_len' hPP g.f1 g.cl
  have hme := most_eq (s := sigU) (n := n) hP g.f0
  have hpl := fun p => place_lt (s := sigU) (n := n) hP g.f0 p
  rw [hme, Int.toNat_natCast] at hpl
  have hp0 : ((-1 : Int), (0 : Int)) ∈ portsL sigU n := by unfold portsL; rw [List.mem_append]; exact .inl (mem_free.2 ⟨rfl, by simp, by simp [h1]⟩)
  have hlen : 0 < (portsL sigU n).length := List.length_pos_of_mem hp0
  refine ⟨_, rfl, ⟨g.sg, by have := g.cl; omega, by have := g.f0; omega, by have := g.f1; omega, hwl⟩, rfl, by omega, hlen, ?_, ?_, ?_, ?_, ?_⟩
  · rw [links03_len, List.length_replicate]
  · intro i hi
    rw [links_good g, List.getD_eq_getElem?_getD, List.getElem?_map, List.getElem?_eq_getElem hi]
    have hm := List.getElem_mem hi
    obtain ⟨i1, i2, _, _⟩ := g.inv.val hm
    obtain ⟨v, v1, v2⟩ := place_at hP g.f0 (isPort_iff.2 i1)
    have := hpl (valN (linksOf n.wires) (portsL sigU n)[i]) (by omega)
    simp only [Option.map_some, Option.getD_some, vP, i2]
    exact ⟨by omega, this⟩
  · intro p hp h0
    obtain ⟨c1, c2⟩ := port_cell hp h0
    omega
  · intro i hi ha
    have hc := getD_get ha hi
    have m0 := cell_port (s := sigU) (k := 0) hc (by omega) (by rw [portsU1]; omega)
    have m1 := cell_port (s := sigU) (k := 1) hc (by omega) (by rw [portsU1]; omega)
    have p0 := first_place m0
    have p1 := first_place m1
    obtain ⟨v, v1, _⟩ := place_at hP g.f0 (isPort_iff.2 m0)
    have := hpl ((i : Int), 1) (by omega)
    exact ⟨by omega, by omega⟩
  · refine ⟨n.cells.length + 1, by have := g.cl; omega, ?_⟩
    rw [links_good g]
    have h0 : placeN sigU n (-1, 0) = 0 := by unfold placeN; rw [if_pos rfl, if_neg (by simp [h1])]
    have := readG_eq g (n.cells.length + 1) 0 (-1, 0) hp0
    rw [h0] at this
    rw [this]
    obtain ⟨y, hy⟩ := readF_ex g h1
    unfold readN
    rw [if_neg (by rw [g.chk]; simp), if_neg (by simp [h1]), hy]
    rfl

def sRG : List AV → Option AV
  | [v] => match netOf v with | some n => if n.wires.length ≤ 1000000 then some (readV n) else none | none => none
  | _ => none
def hkRG := addHk hkCh 29 sRG
theorem ERG : EvOK (mkEv Tryz.prog mu0 hkRG) := mkEv_add ECh fun args v hs => by
  unfold sRG at hs; split at hs
  · rename_i v'
    split at hs
    · rename_i n h1
      split at hs
      · rename_i hl
        cases hs
        have hP := fun a => (sigChk_ports sigU_ok a).1
        have hce : chk03 sigU n = netChk sigU n := chk_eq hP sigU_ok
        obtain ⟨N, hN⟩ : ∃ N, N = n.wires.length + 1100000 := ⟨_, rfl⟩
        obtain ⟨h', hb⟩ := bRG (evCall (mkEv Tryz.prog mu0 hkCh) (N + 1)) (rg Tryz.prog mu0 hkCh (N + 1) 29) (N + 1) sigUV v' n isSig_U (netOf_inv h1) (hSR_of (fun _ _ => rfl) (by omega)) (hCh_of (fun _ _ => rfl) (by omega)) (hAl_of (fun _ _ => rfl) (by omega)) (hF1_of (fun _ _ => rfl) (by omega)) hl (by omega)
          (links03 sigU n n.wires (List.replicate (portsL sigU n).length 0)) (portsL sigU n).length
          (fun h0 v h hv => by
            obtain ⟨r, h', q0, q⟩ := bLk (evCall (mkEv Tryz.prog mu0 hkCh) N) (rg Tryz.prog mu0 hkCh N 57) N sigUV v sigU n isSig_U hv (good_of (by rw [← hce]; exact h0)) hl (hF1_of (fun _ _ => rfl) (by omega)) (hPl_of (fun _ _ => rfl) (by omega)) (by omega) h
            exact ⟨r, h', ev_of_cBodyS tab57 rfl Tryz.func57 rfl fits57 q0, q⟩)
          (fun _ _ _ => rfl) (readN n).1 (readN n).2 (by
            rw [hce]
            by_cases e1 : (netChk sigU n).1 = 0
            · by_cases e2 : n.free = 1
              · obtain ⟨lk, hlk, q1, q2, q3, q4, q5, q6, q7, q8, q9⟩ := readG_ok (good_of e1) e2 hl
                subst hlk
                exact .inr (.inr ⟨e1, e2, q1, q2, q3, q4, q5, q6, q7, q8, q9⟩)
              · refine .inr (.inl ⟨e1, e2, ?_⟩)
                unfold readN; rw [if_neg (by simpa using e1), if_pos e2]; exact ⟨rfl, rfl⟩
            · refine .inl ⟨e1, ?_⟩
              unfold readN; rw [if_pos e1]; exact ⟨rfl, rfl⟩) .empty
        exact ⟨rfl, ev_ofS tab29 rfl Tryz.func29 rfl fits29 hb⟩
      · cases hs
    · cases hs
  · cases hs
def hRG (call : CallT) : Prop := ∀ v n h, IsNet v n → n.wires.length ≤ 1000000 → call (.func 29) [v] h = some (.ret (readV n), h)
theorem hRG_of {hk : Hooks} {n : Nat} (hk' : ∀ args h, hk 29 args h = hkRG 29 args h) (hn : 0 < n) : hRG (evCall (mkEv Tryz.prog mu0 hk) n) := fun v nt h hv hl => ev_hk (by
  rw [hk']
  refine hk_top (by simp [freeL, net_free hv]) ?_
  show (match netOf (weakV v) with | some n => if n.wires.length ≤ 1000000 then some (readV n) else none | none => none) = _
  rw [netOf_of hv]; simp only [if_pos hl]) hn
end Go.Proofs.Nt

/-
  net.Ends, net.Ports: their rounds.
-/
namespace Go.Proofs.Nt
open Go.Sk
set_option linter.unusedVariables false
set_option linter.unusedSimpArgs false
set_option maxRecDepth 10000

theorem no_pos {p : Prop} {b : Bool} (hp : b = true) (h : b = false) : p := by rw [h] at hp; cases hp

section
variable {i7 i8 r b2 b3 l d : Sk.Id} {x c w : AV} {f : Int}

structure Rnd49 (i7 i8 r b2 b3 l d : Sk.Id) (x c w : AV) (f : Int) (N : Lk) (tm : List AV) (W : List Pt) (h : AH) : Prop where
  g7 : h.get i7 = some (.cells [.map r] 87)
  g8 : ∃ wl, h.get i8 = some (.cells [wl] 84) ∧ Grow h wl (W.map portV)
  gm : MapAt h r fun p => (N p).map portV
  pg : PortsG b2 b3 x c w f h
  gl : h.get l = some (.loop .ready none 49 tm #[22, 23] (rngA (codeOf Tryz.f49) 0) (rngB (codeOf Tryz.f49) 0) d)
  gd : h.get d = some (.defs true)
  lr : l.nat < h.next.nat

theorem y49 (call rgn n) (N : Lk) (W : List Pt) (hWl : W.length ≤ 100000000) (p : Pt) (i : AV) (h : AH) (tm0 : List AV) (hrg : ∀ id ops st, rgn id ops st = drawn ⟨Tryz.prog, mu0, call⟩ 49 ops st) {g0 g1 g2 g3 g4 g5 g6 g9 g10 g11 g12 g13 g14 g15 g16 g17 g18 g19 g20 g21 g24 g25 g26 g27 g28 g29 g30 : AV} (hR : Rnd49 i7 i8 r b2 b3 l d x c w f N tm0 W h)
    (o1 : r.nat < i7.nat) (o2 : i7.nat < i8.nat) (o4 : i8.nat < b2.nat) (o5 : b2.nat < b3.nat) (o6 : b3.nat < d.nat) (o7 : d.nat < l.nat) :
    ∃ h', cR Tryz.prog mu0 call rgn shT n l 49 (rngA (codeOf Tryz.f49) 0) (rngB (codeOf Tryz.f49) 0) (g0 :: g1 :: g2 :: g3 :: g4 :: g5 :: g6 :: .ptr i7 0 :: .ptr i8 0 :: g9 :: g10 :: g11 :: g12 :: g13 :: g14 :: g15 :: g16 :: g17 :: g18 :: g19 :: g20 :: g21 :: i :: portV p :: g24 :: g25 :: g26 :: g27 :: g28 :: g29 :: g30 :: []) h = some (.ret (.bool true), h') ∧ Rnd49 i7 i8 r b2 b3 l d x c w f N tm0 (W ++ [valN N p]) h' := by
  have um : Tryz.prog.underlying 87 = some (.map 60 60) := by kernel_rfl
  suffices hq : ∀ Q : Option (AOut × AH) → Prop, ¬ Q none → (∀ h', Rnd49 i7 i8 r b2 b3 l d x c w f N tm0 (W ++ [valN N p]) h' → Q (some (.ret (.bool true), h'))) → Q (cR Tryz.prog mu0 call rgn shT n l 49 (rngA (codeOf Tryz.f49) 0) (rngB (codeOf Tryz.f49) 0) (g0 :: g1 :: g2 :: g3 :: g4 :: g5 :: g6 :: .ptr i7 0 :: .ptr i8 0 :: g9 :: g10 :: g11 :: g12 :: g13 :: g14 :: g15 :: g16 :: g17 :: g18 :: g19 :: g20 :: g21 :: i :: portV p :: g24 :: g25 :: g26 :: g27 :: g28 :: g29 :: g30 :: []) h) from
    hq (fun y => ∃ h', y = some (.ret (.bool true), h') ∧ Rnd49 i7 i8 r b2 b3 l d x c w f N tm0 (W ++ [valN N p]) h') (by rintro ⟨_, h, _⟩; cases h) fun h' h1 => ⟨h', rfl, h1⟩
  intro Q hN hQ
  obtain ⟨g7, ⟨wl, g8, gw⟩, ⟨Lm, ck, gr, gmv⟩, ⟨gb2, gb3⟩, gl, gd, lr⟩ := hR
  have look : ((N p).map portV).getD (portV (0, 0)) = portV (valN N p) := by unfold valN; cases N p <;> rfl
  have lk := fun (h : AH) (g : h.get r = some (.map (Lm.map entV) ck)) => lookup_M (h := h) um (z := portV (0, 0)) (by kernel_rfl) ⟨Lm, ck, g, gmv⟩ p
  rw [look] at lk
  generalize valN N p = vq at lk hQ
  obtain ⟨p0, p1⟩ := p
  obtain ⟨v0, v1⟩ := vq
  conv => arg 1; whnf
  refine atCall_P (alloc_new (z := .agg [.int .i64 0, .int .i64 0]) (cs := [.int .i64 0, .int .i64 0]) (by kernel_rfl) rfl rfl) ?_
  have gw := grow_alloc gw (.cells [.int .i64 0, .int .i64 0] 60)
  generalize hh_h1 : h.alloc (.cells [.int .i64 0, .int .i64 0] 60) = h1 at *
  obtain ⟨a_q, n_q, k_h1⟩ := alloc_facts hh_h1
  replace g7 := k_h1 _ _ g7 (by omega)
  replace g8 := k_h1 _ _ g8 (by omega)
  replace gr := k_h1 _ _ gr (by omega)
  replace gb2 := k_h1 _ _ gb2 (by omega)
  replace gb3 := k_h1 _ _ gb3 (by omega)
  replace gl := k_h1 _ _ gl (by omega)
  replace gd := k_h1 _ _ gd (by omega)
  clear hh_h1 k_h1
  generalize hi_q : h.next = q at *
  clear hi_q
  have st : hOf (aStore Tryz.prog 60 (.ptr q 0) (portV (p0, p1)) h1) = some (.ret undefA, h1.set q (.cells [.int .i64 p0, .int .i64 p1] 60)) := st_ptr (n := 2) a_q (by kernel_rfl) rfl (by simp) rfl
  conv => arg 1; whnf
  refine atCall_P (st) ?_
  have gw := grow_set gw (.cells [.int .i64 p0, .int .i64 p1] 60) (notGrp a_q)
  clear st
  generalize hh_h2 : h1.set q (.cells [.int .i64 p0, .int .i64 p1] 60) = h2 at *
  obtain ⟨b_q, n_h2, k_h2⟩ := set_facts hh_h2
  replace g7 := k_h2 _ _ g7 (by rintro rfl; omega)
  replace g8 := k_h2 _ _ g8 (by rintro rfl; omega)
  replace gr := k_h2 _ _ gr (by rintro rfl; omega)
  replace gb2 := k_h2 _ _ gb2 (by rintro rfl; omega)
  replace gb3 := k_h2 _ _ gb3 (by rintro rfl; omega)
  replace gl := k_h2 _ _ gl (by rintro rfl; omega)
  replace gd := k_h2 _ _ gd (by rintro rfl; omega)
  clear hh_h2 k_h2
  replace n_h2 : h2.next.nat = h1.next.nat := congrArg Id.nat n_h2
  conv => arg 1; whnf
  refine atBusy_P (setLoop (st' := .busy) (pd' := none) gl rfl) ?_
  have gw := grow_set gw (.loop .busy none 49 tm0 #[22, 23] (rngA (codeOf Tryz.f49) 0) (rngB (codeOf Tryz.f49) 0) d) (fun n hn => by rw [gl] at hn; cases hn)
  generalize hh_h3 : h2.set l (.loop .busy none 49 tm0 #[22, 23] (rngA (codeOf Tryz.f49) 0) (rngB (codeOf Tryz.f49) 0) d) = h3 at *
  obtain ⟨b_l, n_h3, k_h3⟩ := set_facts hh_h3
  replace g7 := k_h3 _ _ g7 (by rintro rfl; omega)
  replace g8 := k_h3 _ _ g8 (by rintro rfl; omega)
  replace gr := k_h3 _ _ gr (by rintro rfl; omega)
  replace gb2 := k_h3 _ _ gb2 (by rintro rfl; omega)
  replace gb3 := k_h3 _ _ gb3 (by rintro rfl; omega)
  replace gd := k_h3 _ _ gd (by rintro rfl; omega)
  replace b_q := k_h3 _ _ b_q (by rintro rfl; omega)
  clear hh_h3 k_h3
  replace n_h3 : h3.next.nat = h2.next.nat := congrArg Id.nat n_h3
  have l8 : ∀ h, h.get i8 = some (.cells [wl] 84) → vOf h (aLoad Tryz.prog 84 (.ptr i8 0) h) = some (.ret wl, h) := fun h g => ld_ptr (n := 1) g (by kernel_rfl) (by kernel_rfl) rfl
  have l7 : ∀ h, h.get i7 = some (.cells [.map r] 87) → vOf h (aLoad Tryz.prog 87 (.ptr i7 0) h) = some (.ret (.map r), h) := fun h g => ld_ptr (n := 1) g (by kernel_rfl) (by kernel_rfl) rfl
  have lq : ∀ h, h.get q = some (.cells [.int .i64 p0, .int .i64 p1] 60) → vOf h (aLoad Tryz.prog 60 (.ptr q 0) h) = some (.ret (portV (p0, p1)), h) := fun h g => ld_agg (n := 2) g (by kernel_rfl) (by kernel_rfl) (by simp)
  conv => arg 1; whnf
  refine atRgn_N true (fun hh => hh.get i8 = some (.cells [wl] 84) ∧ hh.get i7 = some (.cells [.map r] 87) ∧ hh.get q = some (.cells [.int .i64 p0, .int .i64 p1] 60) ∧ hh.get r = some (.map (Lm.map entV) ck)) (T := [0, 0, 0, 6, 14, 31, 63]) (ord := [0, 1, 2, 3, 4, 5, 6]) (by kernel_rfl) (hrg _ _ _) hN ?_
  conv => arg 1; whnf
  refine atCall_P (l8 h3 g8) ?_
  conv => arg 1; whnf
  refine atCall_P (l7 h3 g7) ?_
  conv => arg 1; whnf
  refine atCall_P (lq h3 b_q) ?_
  conv => arg 1; whnf
  refine atCall_P (lk h3 gr) ?_
  obtain ⟨wl', h4, r1, r2, r3, r4⟩ := ports_app (call := call) (W := W) (a := (v0, v1)) (c := .lit) gw (by omega)
  conv => arg 1; whnf
  refine atCall_P (r1) ?_
  have e7 := r4 _ _ g7 (notGrp g7) (by omega)
  have e8 := r4 _ _ g8 (notGrp g8) (by omega)
  have er := r4 _ _ gr (fun n hn => by rw [gr] at hn; cases hn) (by omega)
  have eb2 := r4 _ _ gb2 (notGrp gb2) (by omega)
  have eb3 := r4 _ _ gb3 (notGrp gb3) (by omega)
  have ed := r4 _ _ gd (fun n hn => by rw [gd] at hn; cases hn) (by omega)
  have el := r4 _ _ b_l (fun n hn => by rw [b_l] at hn; cases hn) (by omega)
  have hws : wl'.scalar = true := isL_scalar (grow_isL r2)
  have hwc : wl'.cells = [wl'] := isL_cells (grow_isL r2)
  have s8 : hOf (aStore Tryz.prog 84 (.ptr i8 0) wl' h4) = some (.ret undefA, h4.set i8 (.cells [wl'] 84)) := by
    have := st_ptr (P := Tryz.prog) (t := 84) (n := 1) (off := 0) (v := wl') e8 (by kernel_rfl) (by rw [hwc]; rfl) (by simp) (by rw [hwc]; simp [hws])
    rw [this, hwc]; rfl
  conv => arg 1; whnf
  refine atCall_P (s8) ?_
  have gw5 := grow_set r2 (.cells [wl'] 84) (notGrp e8)
  clear s8
  generalize hh_h5 : h4.set i8 (.cells [wl'] 84) = h5 at *
  obtain ⟨b_i8, n_h5, k_h5⟩ := set_facts hh_h5
  replace e7 := k_h5 _ _ e7 (by rintro rfl; omega)
  replace er := k_h5 _ _ er (by rintro rfl; omega)
  replace eb2 := k_h5 _ _ eb2 (by rintro rfl; omega)
  replace eb3 := k_h5 _ _ eb3 (by rintro rfl; omega)
  replace ed := k_h5 _ _ ed (by rintro rfl; omega)
  replace el := k_h5 _ _ el (by rintro rfl; omega)
  clear hh_h5 k_h5
  replace n_h5 : h5.next.nat = h4.next.nat := congrArg Id.nat n_h5
  conv => arg 1; whnf
  refine atP_P ⟨?_, (fun q hk hp => match q, hk, hp with
      | 0, _, _ => ⟨g8, g7, b_q, gr⟩
      | 1, _, hp => no_pos hp (by kernel_rfl)
      | 2, _, hp => no_pos hp (by kernel_rfl)
      | q + 3, hk, _ => absurd hk (by simp)), (fun a ha => by cases ha), rfl⟩ ?_
  · refine ⟨fun _ hh g => ⟨hh, l8 hh g.1⟩, fun _ hh g => ⟨hh, l7 hh g.2.1⟩, fun _ hh g => ⟨hh, lq hh g.2.2.1⟩, fun _ hh g => ⟨hh, lk hh g.2.2.2⟩, trivial, trivial, trivial, trivial⟩
  conv => arg 1; whnf
  refine atRound_P (y := some (.ret (.bool true), h5.set l (.loop .ready none 49 tm0 #[22, 23] (rngA (codeOf Tryz.f49) 0) (rngB (codeOf Tryz.f49) 0) d))) ?_ ?_
  · simp only [endRoundA]
    rw [setLoop (st' := .ready) (pd' := none) el rfl]
  have gw6 := grow_set gw5 (.loop .ready none 49 tm0 #[22, 23] (rngA (codeOf Tryz.f49) 0) (rngB (codeOf Tryz.f49) 0) d) (fun n hn => by rw [el] at hn; cases hn)
  generalize hh_h6 : h5.set l (.loop .ready none 49 tm0 #[22, 23] (rngA (codeOf Tryz.f49) 0) (rngB (codeOf Tryz.f49) 0) d) = h6 at *
  obtain ⟨b_l, n_h6, k_h6⟩ := set_facts hh_h6
  replace e7 := k_h6 _ _ e7 (by rintro rfl; omega)
  replace er := k_h6 _ _ er (by rintro rfl; omega)
  replace eb2 := k_h6 _ _ eb2 (by rintro rfl; omega)
  replace eb3 := k_h6 _ _ eb3 (by rintro rfl; omega)
  replace ed := k_h6 _ _ ed (by rintro rfl; omega)
  replace b_i8 := k_h6 _ _ b_i8 (by rintro rfl; omega)
  clear hh_h6 k_h6
  replace n_h6 : h6.next.nat = h5.next.nat := congrArg Id.nat n_h6
  exact hQ _ ⟨e7, ⟨wl', b_i8, gw6⟩, ⟨Lm, ck, er, gmv⟩, ⟨eb2, eb3⟩, b_l, ed, by omega⟩
end
end Go.Proofs.Nt

/-
  net.Ends runs.
-/
namespace Go.Proofs.Nt
open Go.Sk
set_option linter.unusedVariables false
set_option linter.unusedSimpArgs false
set_option maxRecDepth 10000

theorem leave49 {fn : Func} {d : Sk.Id} {tm : List AV} {h : AH} {a b : AV} (rd : h.get d = some (.defs true)) (hr : aResults Tryz.prog tm (h.set d (.defs false)) fn.results.toList = some [a, b]) : leaveA Tryz.prog fn (some (.ret, ⟨tm, [d], h⟩)) = some (.ret (.tup [a, b]), h.set d (.defs false)) := by
  simp only [leaveA, takeDefs, rd, hr]; rfl

structure C49 (call callY : CallT) (x : AV) (s : List Ag) (nt : Nt) (c w : AV) : Prop where
  c25 : ∀ h, call (.func 87) [x, .agg [c, .int .i64 nt.free, w]] h = some (.ret (.int .i64 (netChk s nt).1), h)
  c27 : ∀ h, ∃ r h', call (.func 88) [.agg [c, .int .i64 nt.free, w]] h = some (.ret (.map r), h') ∧ MapAt h' r (linkM nt.wires fun _ => none) ∧ h.next.nat ≤ r.nat ∧ r.nat < h'.next.nat ∧ Kept h.next.nat h h'
  c32 : ∀ h, call (.func 89) [x, .agg [c, .int .i64 nt.free, w]] h = some (.ret (.fn (.func 117) [] [.ptr (h.alloc (.cells [x] 22)).next 0, .ptr h.next 0]), (h.alloc (.cells [x] 22)).alloc (.cells [c, .int .i64 nt.free, w] 43))
  c37 : (netChk s nt).1 = 0 → ∀ {l b2 b3 h h'}, PortsG b2 b3 x c w nt.free h → YRun callY l (PortsG b2 b3 x c w nt.free) 0 (portsL s nt) h h' →
    call (.func 117) [.fn (.yield l) [] [], .ptr b3 0, .ptr b2 0] h = some (.ret (.tup []), h')
  cy : ∀ {i7 i8 r b2 b3 l d : Sk.Id} {N : Lk} {g0 g1 g2 g3 g4 g5 g6 g9 g10 g11 g12 g13 g14 g15 g16 g17 g18 g19 g20 g21 g22 g23 g24 g25 g26 g27 g28 g29 g30 : AV}, r.nat < i7.nat → i7.nat < i8.nat → i8.nat < b2.nat → b2.nat < b3.nat → b3.nat < d.nat → d.nat < l.nat →
    ∀ (p : Int × Int) (i : Nat) (W : List Pt) (h : AH), W.length ≤ 100000000 → Rnd49 i7 i8 r b2 b3 l d x c w nt.free N (g0 :: g1 :: g2 :: g3 :: g4 :: g5 :: g6 :: .ptr i7 0 :: .ptr i8 0 :: g9 :: g10 :: g11 :: g12 :: g13 :: g14 :: g15 :: g16 :: g17 :: g18 :: g19 :: g20 :: g21 :: g22 :: g23 :: g24 :: g25 :: g26 :: g27 :: g28 :: g29 :: g30 :: []) W h →
      ∃ h', callY (.yield l) [.int .i64 i, portV p] h = some (.ret (.bool true), h') ∧ Rnd49 i7 i8 r b2 b3 l d x c w nt.free N (g0 :: g1 :: g2 :: g3 :: g4 :: g5 :: g6 :: .ptr i7 0 :: .ptr i8 0 :: g9 :: g10 :: g11 :: g12 :: g13 :: g14 :: g15 :: g16 :: g17 :: g18 :: g19 :: g20 :: g21 :: g22 :: g23 :: g24 :: g25 :: g26 :: g27 :: g28 :: g29 :: g30 :: []) (W ++ [valN N p]) h'

theorem run49 {callY : CallT} {i7 i8 r b2 b3 l d : Sk.Id} {x c w : AV} {f : Int} {N : Lk} {tm0 : List AV}
    (Hy : ∀ (p : Int × Int) (i : Nat) (W : List Pt) (h : AH), W.length ≤ 100000000 → Rnd49 i7 i8 r b2 b3 l d x c w f N tm0 W h → ∃ h', callY (.yield l) [.int .i64 i, portV p] h = some (.ret (.bool true), h') ∧ Rnd49 i7 i8 r b2 b3 l d x c w f N tm0 (W ++ [valN N p]) h') :
    ∀ (ps : List Pt) (i : Nat) (W : List Pt) (h : AH), W.length + ps.length ≤ 100000000 → Rnd49 i7 i8 r b2 b3 l d x c w f N tm0 W h → ∃ h', YRun callY l (PortsG b2 b3 x c w f) i ps h h' ∧ Rnd49 i7 i8 r b2 b3 l d x c w f N tm0 (W ++ ps.map (valN N)) h'
  | [], i, W, h, _, hR => ⟨h, .nil _ _, by simpa using hR⟩
  | p :: ps, i, W, h, hl, hR => by
    simp only [List.length_cons] at hl
    obtain ⟨h', hc, hR'⟩ := Hy p i W h (by omega) hR
    obtain ⟨h'', hY, hR''⟩ := run49 Hy ps (i + 1) (W ++ [valN N p]) h' (by simp; omega) hR'
    refine ⟨h'', .cons hc hR'.pg hY, ?_⟩
    rw [List.append_assoc] at hR''
    exact hR''

def endsL (s : List Ag) (n : Nt) : List Pt := (portsL s n).map (valN (linksOf n.wires))

set_option maxHeartbeats 4000000 in
theorem b49 (call callY rgn n) (x v : AV) (s : List Ag) (nt : Nt) (hx : IsSig x s) (hv : IsNet v nt) (hpl : (netChk s nt).1 = 0 → (portsL s nt).length ≤ 100000000) (C : ∀ c w, v = .agg [c, .int .i64 nt.free, w] → C49 call callY x s nt c w) (h : AH) :
    ((netChk s nt).1 = 0 → ∃ u h', B shT call rgn n 49 Tryz.f49 [x, v] h = some (.ret (.tup [u, .int .i64 0]), h') ∧ IsN portV u (endsL s nt)) ∧
    ((netChk s nt).1 ≠ 0 → ∃ h', B shT call rgn n 49 Tryz.f49 [x, v] h = some (.ret (.tup [.nilsl, .int .i64 (netChk s nt).1]), h')) := by
  suffices hq : ∀ Q : Option (AOut × AH) → Prop, ((netChk s nt).1 = 0 → ∀ u h', IsN portV u (endsL s nt) → Q (some (.ret (.tup [u, .int .i64 0]), h'))) →
      ((netChk s nt).1 ≠ 0 → ∀ h', Q (some (.ret (.tup [.nilsl, .int .i64 (netChk s nt).1]), h'))) → Q (B shT call rgn n 49 Tryz.f49 [x, v] h) by
    refine ⟨fun h0 => hq (fun y => ∃ u h', y = some (.ret (.tup [u, .int .i64 0]), h') ∧ IsN portV u (endsL s nt)) (fun _ u h' h1 => ⟨u, h', rfl, h1⟩) (fun h1 => absurd h0 h1),
      fun h0 => hq (fun y => ∃ h', y = some (.ret (.tup [.nilsl, .int .i64 (netChk s nt).1]), h')) (fun h1 => absurd h1 h0) (fun _ h' => ⟨h', rfl⟩)⟩
  intro Q hT hF
  have hxs := isL_scalar hx
  obtain ⟨c, w, rfl, hc, hw⟩ := hv
  replace C := C c w rfl
  have hcs := isL_scalar hc
  have hws := isL_scalar hw
  conv => arg 1; whnf
  refine atCall_P (box_new (cs := [c, .int .i64 nt.free, w]) rfl (by simp only [List.all_cons, hcs, hws, List.all_nil]; rfl)) ?_
  generalize hh_h1 : h.alloc (.cells [c, .int .i64 nt.free, w] 43) = h1 at *
  obtain ⟨a_i3, n_i3, k_h1⟩ := alloc_facts hh_h1
  clear hh_h1 k_h1
  generalize hi_i3 : h.next = i3 at *
  clear hi_i3
  have l3 : ∀ h, h.get i3 = some (.cells [c, .int .i64 nt.free, w] 43) → vOf h (aLoad Tryz.prog 43 (.ptr i3 0) h) = some (.ret (.agg [c, .int .i64 nt.free, w]), h) := fun h g => ld_agg (n := 3) g (by kernel_rfl) (by kernel_rfl) (by simp)
  conv => arg 1; whnf
  refine atCall_P (l3 h1 a_i3) ?_
  conv => arg 1; whnf
  refine atCall_P (C.c25 h1) ?_
  conv => arg 1; whnf
  cases e0 : ((netChk s nt).1 != 0)
  rotate_left
  · conv => arg 1; whnf
    exact atLeave_P (leave_plain (.inl rfl) rfl) (hF (by simpa using e0) _)
  have e1 : (netChk s nt).1 = 0 := by simpa using e0
  conv => arg 1; whnf
  refine atCall_P (l3 h1 a_i3) ?_
  obtain ⟨r, h2, q1, q2, q3, q4, q5⟩ := C.c27 h1
  rw [linkM_of] at q2
  obtain ⟨Lm, ck, gr, gmv⟩ := q2
  replace a_i3 := q5.1 _ _ a_i3 (by omega)
  conv => arg 1; whnf
  refine atCall_P (q1) ?_
  conv => arg 1; whnf
  refine atCall_P (alloc_new (z := .nilmap) (cs := [.nilmap]) (by kernel_rfl) rfl rfl) ?_
  generalize hh_h3 : h2.alloc (.cells [.nilmap] 87) = h3 at *
  obtain ⟨a_i7, n_i7, k_h3⟩ := alloc_facts hh_h3
  replace a_i3 := k_h3 _ _ a_i3 (by omega)
  replace gr := k_h3 _ _ gr (by omega)
  clear hh_h3 k_h3
  generalize hi_i7 : h2.next = i7 at *
  clear hi_i7
  have st7 : hOf (aStore Tryz.prog 87 (.ptr i7 0) (.map r) h3) = some (.ret undefA, h3.set i7 (.cells [.map r] 87)) := st_ptr (n := 1) a_i7 (by kernel_rfl) rfl (by simp) rfl
  conv => arg 1; whnf
  refine atCall_P (st7) ?_
  clear st7
  have nr7 : r ≠ i7 := by rintro rfl; omega
  generalize hh_h4 : h3.set i7 (.cells [.map r] 87) = h4 at *
  obtain ⟨b_i7, n_h4, k_h4⟩ := set_facts hh_h4
  replace a_i3 := k_h4 _ _ a_i3 (by rintro rfl; omega)
  replace gr := k_h4 _ _ gr (by rintro rfl; omega)
  clear hh_h4 k_h4
  replace n_h4 : h4.next.nat = h3.next.nat := congrArg Id.nat n_h4
  conv => arg 1; whnf
  refine atCall_P (alloc_new (z := .nilsl) (cs := [.nilsl]) (by kernel_rfl) rfl rfl) ?_
  generalize hh_h5 : h4.alloc (.cells [.nilsl] 84) = h5 at *
  obtain ⟨a_i8, n_i8, k_h5⟩ := alloc_facts hh_h5
  replace a_i3 := k_h5 _ _ a_i3 (by omega)
  replace gr := k_h5 _ _ gr (by omega)
  replace b_i7 := k_h5 _ _ b_i7 (by omega)
  clear hh_h5 k_h5
  generalize hi_i8 : h4.next = i8 at *
  clear hi_i8
  conv => arg 1; whnf
  refine atCall_P (l3 h5 a_i3) ?_
  conv => arg 1; whnf
  refine atCall_P (C.c32 h5) ?_
  generalize hh_h6 : h5.alloc (.cells [x] 22) = h6 at *
  obtain ⟨a_b2, n_b2, k_h6⟩ := alloc_facts hh_h6
  replace a_i3 := k_h6 _ _ a_i3 (by omega)
  replace gr := k_h6 _ _ gr (by omega)
  replace b_i7 := k_h6 _ _ b_i7 (by omega)
  replace a_i8 := k_h6 _ _ a_i8 (by omega)
  clear hh_h6 k_h6
  generalize hi_b2 : h5.next = b2 at *
  clear hi_b2
  generalize hh_h10 : h6.alloc (.cells [c, .int .i64 nt.free, w] 43) = h10 at *
  obtain ⟨a_b3, n_b3, k_h10⟩ := alloc_facts hh_h10
  replace a_i3 := k_h10 _ _ a_i3 (by omega)
  replace gr := k_h10 _ _ gr (by omega)
  replace b_i7 := k_h10 _ _ b_i7 (by omega)
  replace a_i8 := k_h10 _ _ a_i8 (by omega)
  replace a_b2 := k_h10 _ _ a_b2 (by omega)
  clear hh_h10 k_h10
  generalize hi_b3 : h6.next = b3 at *
  clear hi_b3
  generalize hd : h10.next = d at *
  have hl : (loopId h10).nat = d.nat + 1 := by unfold loopId; rw [AH.next_alloc, Id.nat_succ, hd]
  have key : ∀ {g0 g1 g2 g3 g4 g5 g6 g9 g10 g11 g12 g13 g14 g15 g16 g17 g18 g19 g20 g21 g22 g23 g24 g25 g26 g27 g28 g29 g30 : AV}, ∃ h', call (.func 117) ([] ++ [.fn (.yield (loopId h10)) [] []] ++ [.ptr b3 0, .ptr b2 0]) (loopHeap 49 (g0 :: g1 :: g2 :: g3 :: g4 :: g5 :: g6 :: .ptr i7 0 :: .ptr i8 0 :: g9 :: g10 :: g11 :: g12 :: g13 :: g14 :: g15 :: g16 :: g17 :: g18 :: g19 :: g20 :: g21 :: g22 :: g23 :: g24 :: g25 :: g26 :: g27 :: g28 :: g29 :: g30 :: []) #[22, 23] (rngA (codeOf Tryz.f49) 0) (rngB (codeOf Tryz.f49) 0) h10) = some (.ret (.tup []), h') ∧
      Rnd49 i7 i8 r b2 b3 (loopId h10) d x c w nt.free (linksOf nt.wires) (g0 :: g1 :: g2 :: g3 :: g4 :: g5 :: g6 :: .ptr i7 0 :: .ptr i8 0 :: g9 :: g10 :: g11 :: g12 :: g13 :: g14 :: g15 :: g16 :: g17 :: g18 :: g19 :: g20 :: g21 :: g22 :: g23 :: g24 :: g25 :: g26 :: g27 :: g28 :: g29 :: g30 :: []) ([] ++ (portsL s nt).map (valN (linksOf nt.wires))) h' := by
    intro g0 g1 g2 g3 g4 g5 g6 g9 g10 g11 g12 g13 g14 g15 g16 g17 g18 g19 g20 g21 g22 g23 g24 g25 g26 g27 g28 g29 g30
    have hk : Kept h10.next.nat h10 (loopHeap 49 (g0 :: g1 :: g2 :: g3 :: g4 :: g5 :: g6 :: .ptr i7 0 :: .ptr i8 0 :: g9 :: g10 :: g11 :: g12 :: g13 :: g14 :: g15 :: g16 :: g17 :: g18 :: g19 :: g20 :: g21 :: g22 :: g23 :: g24 :: g25 :: g26 :: g27 :: g28 :: g29 :: g30 :: []) #[22, 23] (rngA (codeOf Tryz.f49) 0) (rngB (codeOf Tryz.f49) 0) h10) := (kept_one h10 _).alloc _
    have hR : Rnd49 i7 i8 r b2 b3 (loopId h10) d x c w nt.free (linksOf nt.wires) (g0 :: g1 :: g2 :: g3 :: g4 :: g5 :: g6 :: .ptr i7 0 :: .ptr i8 0 :: g9 :: g10 :: g11 :: g12 :: g13 :: g14 :: g15 :: g16 :: g17 :: g18 :: g19 :: g20 :: g21 :: g22 :: g23 :: g24 :: g25 :: g26 :: g27 :: g28 :: g29 :: g30 :: []) [] (loopHeap 49 (g0 :: g1 :: g2 :: g3 :: g4 :: g5 :: g6 :: .ptr i7 0 :: .ptr i8 0 :: g9 :: g10 :: g11 :: g12 :: g13 :: g14 :: g15 :: g16 :: g17 :: g18 :: g19 :: g20 :: g21 :: g22 :: g23 :: g24 :: g25 :: g26 :: g27 :: g28 :: g29 :: g30 :: []) #[22, 23] (rngA (codeOf Tryz.f49) 0) (rngB (codeOf Tryz.f49) 0) h10) := by
      refine ⟨hk.1 _ _ b_i7 (by rw [hd]; omega), ⟨.nilsl, hk.1 _ _ a_i8 (by rw [hd]; omega), .inl ⟨rfl, rfl⟩⟩, ⟨Lm, ck, hk.1 _ _ gr (by rw [hd]; omega), gmv⟩,
        ⟨hk.1 _ _ a_b2 (by rw [hd]; omega), hk.1 _ _ a_b3 (by rw [hd]; omega)⟩, ?_, ?_, ?_⟩
      · unfold loopHeap loopId; rw [AH.get_alloc, if_pos rfl, hd]
      · unfold loopHeap
        refine kept_alloc (by rw [← hd, AH.get_alloc, if_pos rfl]) ?_
        rw [AH.next_alloc, Id.nat_succ, hd]; omega
      · unfold loopHeap; rw [AH.next_alloc, Id.nat_succ, AH.next_alloc, Id.nat_succ, hd]; omega
    obtain ⟨h', hY, hres⟩ := run49 (C.cy (by omega) (by omega) (by omega) (by omega) (by omega) (by omega)) (portsL s nt) 0 [] _ (by simpa using hpl e1) hR
    exact ⟨h', C.c37 e1 hR.pg hY, hres⟩
  conv => arg 1; whnf
  refine atRange_ex key ?_
  intro h11 hR
  rw [List.nil_append] at hR
  have hld : d.nat < (loopId h10).nat := by omega
  obtain ⟨wl, g8, gw⟩ := hR.g8
  obtain ⟨h12, hlv, ks, kn, kg⟩ := leaveLoop_ex3 hR.gl
  rw [hlv]
  have d8 := ks _ _ g8 (by rintro rfl; omega)
  have dd := ks _ _ hR.gd (by rintro rfl; omega)
  have l8 : vOf h12 (aLoad Tryz.prog 84 (.ptr i8 0) h12) = some (.ret wl, h12) := ld_ptr (n := 1) d8 (by kernel_rfl) (by kernel_rfl) rfl
  conv => arg 1; whnf
  refine atCall_P (l8) ?_
  conv => arg 1; whnf
  subst hd
  exact atLeave_P (leave49 dd rfl) (hT e1 _ _ (IsN.of_grow gw))
end Go.Proofs.Nt

/-
  net.Ports runs.
-/
namespace Go.Proofs.Nt
open Go.Sk
set_option linter.unusedVariables false
set_option linter.unusedSimpArgs false
set_option maxRecDepth 10000

section
variable {i7 b2 b3 l d : Sk.Id} {x c w : AV} {f : Int}

structure Rnd50 (i7 b2 b3 l d : Sk.Id) (x c w : AV) (f : Int) (tm : List AV) (W : List Pt) (h : AH) : Prop where
  g7 : ∃ wl, h.get i7 = some (.cells [wl] 84) ∧ Grow h wl (W.map portV)
  pg : PortsG b2 b3 x c w f h
  gl : h.get l = some (.loop .ready none 50 tm #[19, 20] (rngA (codeOf Tryz.f50) 0) (rngB (codeOf Tryz.f50) 0) d)
  gd : h.get d = some (.defs true)
  lr : l.nat < h.next.nat

theorem y50 (call rgn n) (W : List Pt) (hWl : W.length ≤ 100000000) (p : Pt) (i : AV) (h : AH) (tm0 : List AV) {g0 g1 g2 g3 g4 g5 g6 g8 g9 g10 g11 g12 g13 g14 g15 g16 g17 g18 g21 g22 g23 g24 g25 : AV} (hR : Rnd50 i7 b2 b3 l d x c w f tm0 W h)
    (o4 : i7.nat < b2.nat) (o5 : b2.nat < b3.nat) (o6 : b3.nat < d.nat) (o7 : d.nat < l.nat) :
    ∃ h', cR Tryz.prog mu0 call rgn shT n l 50 (rngA (codeOf Tryz.f50) 0) (rngB (codeOf Tryz.f50) 0) (g0 :: g1 :: g2 :: g3 :: g4 :: g5 :: g6 :: .ptr i7 0 :: g8 :: g9 :: g10 :: g11 :: g12 :: g13 :: g14 :: g15 :: g16 :: g17 :: g18 :: i :: portV p :: g21 :: g22 :: g23 :: g24 :: g25 :: []) h = some (.ret (.bool true), h') ∧ Rnd50 i7 b2 b3 l d x c w f tm0 (W ++ [p]) h' := by
  suffices hq : ∀ Q : Option (AOut × AH) → Prop, (∀ h', Rnd50 i7 b2 b3 l d x c w f tm0 (W ++ [p]) h' → Q (some (.ret (.bool true), h'))) → Q (cR Tryz.prog mu0 call rgn shT n l 50 (rngA (codeOf Tryz.f50) 0) (rngB (codeOf Tryz.f50) 0) (g0 :: g1 :: g2 :: g3 :: g4 :: g5 :: g6 :: .ptr i7 0 :: g8 :: g9 :: g10 :: g11 :: g12 :: g13 :: g14 :: g15 :: g16 :: g17 :: g18 :: i :: portV p :: g21 :: g22 :: g23 :: g24 :: g25 :: []) h) from
    hq (fun y => ∃ h', y = some (.ret (.bool true), h') ∧ Rnd50 i7 b2 b3 l d x c w f tm0 (W ++ [p]) h') fun h' h1 => ⟨h', rfl, h1⟩
  intro Q hQ
  obtain ⟨⟨wl, g8, gw⟩, ⟨gb2, gb3⟩, gl, gd, lr⟩ := hR
  obtain ⟨p0, p1⟩ := p
  conv => arg 1; whnf
  refine atCall_P (alloc_new (z := .agg [.int .i64 0, .int .i64 0]) (cs := [.int .i64 0, .int .i64 0]) (by kernel_rfl) rfl rfl) ?_
  have gw := grow_alloc gw (.cells [.int .i64 0, .int .i64 0] 60)
  generalize hh_h1 : h.alloc (.cells [.int .i64 0, .int .i64 0] 60) = h1 at *
  obtain ⟨a_q, n_q, k_h1⟩ := alloc_facts hh_h1
  replace g8 := k_h1 _ _ g8 (by omega)
  replace gb2 := k_h1 _ _ gb2 (by omega)
  replace gb3 := k_h1 _ _ gb3 (by omega)
  replace gl := k_h1 _ _ gl (by omega)
  replace gd := k_h1 _ _ gd (by omega)
  clear hh_h1 k_h1
  generalize hi_q : h.next = q at *
  clear hi_q
  have st : hOf (aStore Tryz.prog 60 (.ptr q 0) (portV (p0, p1)) h1) = some (.ret undefA, h1.set q (.cells [.int .i64 p0, .int .i64 p1] 60)) := st_ptr (n := 2) a_q (by kernel_rfl) rfl (by simp) rfl
  conv => arg 1; whnf
  refine atCall_P (st) ?_
  have gw := grow_set gw (.cells [.int .i64 p0, .int .i64 p1] 60) (notGrp a_q)
  clear st
  generalize hh_h2 : h1.set q (.cells [.int .i64 p0, .int .i64 p1] 60) = h2 at *
  obtain ⟨b_q, n_h2, k_h2⟩ := set_facts hh_h2
  replace g8 := k_h2 _ _ g8 (by rintro rfl; omega)
  replace gb2 := k_h2 _ _ gb2 (by rintro rfl; omega)
  replace gb3 := k_h2 _ _ gb3 (by rintro rfl; omega)
  replace gl := k_h2 _ _ gl (by rintro rfl; omega)
  replace gd := k_h2 _ _ gd (by rintro rfl; omega)
  clear hh_h2 k_h2
  replace n_h2 : h2.next.nat = h1.next.nat := congrArg Id.nat n_h2
  conv => arg 1; whnf
  refine atBusy_P (setLoop (st' := .busy) (pd' := none) gl rfl) ?_
  have gw := grow_set gw (.loop .busy none 50 tm0 #[19, 20] (rngA (codeOf Tryz.f50) 0) (rngB (codeOf Tryz.f50) 0) d) (fun n hn => by rw [gl] at hn; cases hn)
  generalize hh_h3 : h2.set l (.loop .busy none 50 tm0 #[19, 20] (rngA (codeOf Tryz.f50) 0) (rngB (codeOf Tryz.f50) 0) d) = h3 at *
  obtain ⟨b_l, n_h3, k_h3⟩ := set_facts hh_h3
  replace g8 := k_h3 _ _ g8 (by rintro rfl; omega)
  replace gb2 := k_h3 _ _ gb2 (by rintro rfl; omega)
  replace gb3 := k_h3 _ _ gb3 (by rintro rfl; omega)
  replace gd := k_h3 _ _ gd (by rintro rfl; omega)
  replace b_q := k_h3 _ _ b_q (by rintro rfl; omega)
  clear hh_h3 k_h3
  replace n_h3 : h3.next.nat = h2.next.nat := congrArg Id.nat n_h3
  have l8 : ∀ h, h.get i7 = some (.cells [wl] 84) → vOf h (aLoad Tryz.prog 84 (.ptr i7 0) h) = some (.ret wl, h) := fun h g => ld_ptr (n := 1) g (by kernel_rfl) (by kernel_rfl) rfl
  have lq : ∀ h, h.get q = some (.cells [.int .i64 p0, .int .i64 p1] 60) → vOf h (aLoad Tryz.prog 60 (.ptr q 0) h) = some (.ret (portV (p0, p1)), h) := fun h g => ld_agg (n := 2) g (by kernel_rfl) (by kernel_rfl) (by simp)
  conv => arg 1; whnf
  refine atCall_P (l8 h3 g8) ?_
  conv => arg 1; whnf
  refine atCall_P (lq h3 b_q) ?_
  obtain ⟨wl', h4, r1, r2, r3, r4⟩ := ports_app (call := call) (W := W) (a := (p0, p1)) (c := .lit) gw (by omega)
  conv => arg 1; whnf
  refine atCall_P (r1) ?_
  have e8 := r4 _ _ g8 (notGrp g8) (by omega)
  have eb2 := r4 _ _ gb2 (notGrp gb2) (by omega)
  have eb3 := r4 _ _ gb3 (notGrp gb3) (by omega)
  have ed := r4 _ _ gd (fun n hn => by rw [gd] at hn; cases hn) (by omega)
  have el := r4 _ _ b_l (fun n hn => by rw [b_l] at hn; cases hn) (by omega)
  have hws : wl'.scalar = true := isL_scalar (grow_isL r2)
  have hwc : wl'.cells = [wl'] := isL_cells (grow_isL r2)
  have s8 : hOf (aStore Tryz.prog 84 (.ptr i7 0) wl' h4) = some (.ret undefA, h4.set i7 (.cells [wl'] 84)) := by
    have := st_ptr (P := Tryz.prog) (t := 84) (n := 1) (off := 0) (v := wl') e8 (by kernel_rfl) (by rw [hwc]; rfl) (by simp) (by rw [hwc]; simp [hws])
    rw [this, hwc]; rfl
  conv => arg 1; whnf
  refine atCall_P (s8) ?_
  have gw5 := grow_set r2 (.cells [wl'] 84) (notGrp e8)
  clear s8
  generalize hh_h5 : h4.set i7 (.cells [wl'] 84) = h5 at *
  obtain ⟨b_i7, n_h5, k_h5⟩ := set_facts hh_h5
  replace eb2 := k_h5 _ _ eb2 (by rintro rfl; omega)
  replace eb3 := k_h5 _ _ eb3 (by rintro rfl; omega)
  replace ed := k_h5 _ _ ed (by rintro rfl; omega)
  replace el := k_h5 _ _ el (by rintro rfl; omega)
  clear hh_h5 k_h5
  replace n_h5 : h5.next.nat = h4.next.nat := congrArg Id.nat n_h5
  conv => arg 1; whnf
  refine atRound_P (y := some (.ret (.bool true), h5.set l (.loop .ready none 50 tm0 #[19, 20] (rngA (codeOf Tryz.f50) 0) (rngB (codeOf Tryz.f50) 0) d))) ?_ ?_
  · simp only [endRoundA]
    rw [setLoop (st' := .ready) (pd' := none) el rfl]
  have gw6 := grow_set gw5 (.loop .ready none 50 tm0 #[19, 20] (rngA (codeOf Tryz.f50) 0) (rngB (codeOf Tryz.f50) 0) d) (fun n hn => by rw [el] at hn; cases hn)
  generalize hh_h6 : h5.set l (.loop .ready none 50 tm0 #[19, 20] (rngA (codeOf Tryz.f50) 0) (rngB (codeOf Tryz.f50) 0) d) = h6 at *
  obtain ⟨b_l, n_h6, k_h6⟩ := set_facts hh_h6
  replace eb2 := k_h6 _ _ eb2 (by rintro rfl; omega)
  replace eb3 := k_h6 _ _ eb3 (by rintro rfl; omega)
  replace ed := k_h6 _ _ ed (by rintro rfl; omega)
  replace b_i7 := k_h6 _ _ b_i7 (by rintro rfl; omega)
  clear hh_h6 k_h6
  replace n_h6 : h6.next.nat = h5.next.nat := congrArg Id.nat n_h6
  exact hQ _ ⟨⟨wl', b_i7, gw6⟩, ⟨eb2, eb3⟩, b_l, ed, by omega⟩

theorem run50 {callY : CallT} {tm0 : List AV}
    (Hy : ∀ (p : Int × Int) (i : Nat) (W : List Pt) (h : AH), W.length ≤ 100000000 → Rnd50 i7 b2 b3 l d x c w f tm0 W h → ∃ h', callY (.yield l) [.int .i64 i, portV p] h = some (.ret (.bool true), h') ∧ Rnd50 i7 b2 b3 l d x c w f tm0 (W ++ [p]) h') :
    ∀ (ps : List Pt) (i : Nat) (W : List Pt) (h : AH), W.length + ps.length ≤ 100000000 → Rnd50 i7 b2 b3 l d x c w f tm0 W h → ∃ h', YRun callY l (PortsG b2 b3 x c w f) i ps h h' ∧ Rnd50 i7 b2 b3 l d x c w f tm0 (W ++ ps) h'
  | [], i, W, h, _, hR => ⟨h, .nil _ _, by simpa using hR⟩
  | p :: ps, i, W, h, hl, hR => by
    simp only [List.length_cons] at hl
    obtain ⟨h', hc, hR'⟩ := Hy p i W h (by omega) hR
    obtain ⟨h'', hY, hR''⟩ := run50 Hy ps (i + 1) (W ++ [p]) h' (by simp; omega) hR'
    refine ⟨h'', .cons hc hR'.pg hY, ?_⟩
    rw [List.append_assoc] at hR''
    exact hR''
end

structure C50 (call callY : CallT) (x : AV) (s : List Ag) (nt : Nt) (c w : AV) : Prop where
  c25 : ∀ h, call (.func 87) [x, .agg [c, .int .i64 nt.free, w]] h = some (.ret (.int .i64 (netChk s nt).1), h)
  c32 : ∀ h, call (.func 89) [x, .agg [c, .int .i64 nt.free, w]] h = some (.ret (.fn (.func 117) [] [.ptr (h.alloc (.cells [x] 22)).next 0, .ptr h.next 0]), (h.alloc (.cells [x] 22)).alloc (.cells [c, .int .i64 nt.free, w] 43))
  c37 : (netChk s nt).1 = 0 → ∀ {l b2 b3 h h'}, PortsG b2 b3 x c w nt.free h → YRun callY l (PortsG b2 b3 x c w nt.free) 0 (portsL s nt) h h' →
    call (.func 117) [.fn (.yield l) [] [], .ptr b3 0, .ptr b2 0] h = some (.ret (.tup []), h')
  cy : ∀ {i7 b2 b3 l d : Sk.Id} {g0 g1 g2 g3 g4 g5 g6 g8 g9 g10 g11 g12 g13 g14 g15 g16 g17 g18 g19 g20 g21 g22 g23 g24 g25 : AV}, i7.nat < b2.nat → b2.nat < b3.nat → b3.nat < d.nat → d.nat < l.nat →
    ∀ (p : Int × Int) (i : Nat) (W : List Pt) (h : AH), W.length ≤ 100000000 → Rnd50 i7 b2 b3 l d x c w nt.free (g0 :: g1 :: g2 :: g3 :: g4 :: g5 :: g6 :: .ptr i7 0 :: g8 :: g9 :: g10 :: g11 :: g12 :: g13 :: g14 :: g15 :: g16 :: g17 :: g18 :: g19 :: g20 :: g21 :: g22 :: g23 :: g24 :: g25 :: []) W h →
      ∃ h', callY (.yield l) [.int .i64 i, portV p] h = some (.ret (.bool true), h') ∧ Rnd50 i7 b2 b3 l d x c w nt.free (g0 :: g1 :: g2 :: g3 :: g4 :: g5 :: g6 :: .ptr i7 0 :: g8 :: g9 :: g10 :: g11 :: g12 :: g13 :: g14 :: g15 :: g16 :: g17 :: g18 :: g19 :: g20 :: g21 :: g22 :: g23 :: g24 :: g25 :: []) (W ++ [p]) h'

set_option maxHeartbeats 4000000 in
theorem b50 (call callY rgn n) (x v : AV) (s : List Ag) (nt : Nt) (hx : IsSig x s) (hv : IsNet v nt) (hpl : (netChk s nt).1 = 0 → (portsL s nt).length ≤ 100000000) (C : ∀ c w, v = .agg [c, .int .i64 nt.free, w] → C50 call callY x s nt c w) (h : AH) :
    ((netChk s nt).1 = 0 → ∃ u h', B shT call rgn n 50 Tryz.f50 [x, v] h = some (.ret (.tup [u, .int .i64 0]), h') ∧ IsN portV u (portsL s nt)) ∧
    ((netChk s nt).1 ≠ 0 → ∃ h', B shT call rgn n 50 Tryz.f50 [x, v] h = some (.ret (.tup [.nilsl, .int .i64 (netChk s nt).1]), h')) := by
  suffices hq : ∀ Q : Option (AOut × AH) → Prop, ((netChk s nt).1 = 0 → ∀ u h', IsN portV u (portsL s nt) → Q (some (.ret (.tup [u, .int .i64 0]), h'))) →
      ((netChk s nt).1 ≠ 0 → ∀ h', Q (some (.ret (.tup [.nilsl, .int .i64 (netChk s nt).1]), h'))) → Q (B shT call rgn n 50 Tryz.f50 [x, v] h) by
    refine ⟨fun h0 => hq (fun y => ∃ u h', y = some (.ret (.tup [u, .int .i64 0]), h') ∧ IsN portV u (portsL s nt)) (fun _ u h' h1 => ⟨u, h', rfl, h1⟩) (fun h1 => absurd h0 h1),
      fun h0 => hq (fun y => ∃ h', y = some (.ret (.tup [.nilsl, .int .i64 (netChk s nt).1]), h')) (fun h1 => absurd h1 h0) (fun _ h' => ⟨h', rfl⟩)⟩
  intro Q hT hF
  have hxs := isL_scalar hx
  obtain ⟨c, w, rfl, hc, hw⟩ := hv
  replace C := C c w rfl
  have hcs := isL_scalar hc
  have hws := isL_scalar hw
  conv => arg 1; whnf
  refine atCall_P (box_new (cs := [c, .int .i64 nt.free, w]) rfl (by simp only [List.all_cons, hcs, hws, List.all_nil]; rfl)) ?_
  generalize hh_h1 : h.alloc (.cells [c, .int .i64 nt.free, w] 43) = h1 at *
  obtain ⟨a_i3, n_i3, k_h1⟩ := alloc_facts hh_h1
  clear hh_h1 k_h1
  generalize hi_i3 : h.next = i3 at *
  clear hi_i3
  have l3 : ∀ h, h.get i3 = some (.cells [c, .int .i64 nt.free, w] 43) → vOf h (aLoad Tryz.prog 43 (.ptr i3 0) h) = some (.ret (.agg [c, .int .i64 nt.free, w]), h) := fun h g => ld_agg (n := 3) g (by kernel_rfl) (by kernel_rfl) (by simp)
  conv => arg 1; whnf
  refine atCall_P (l3 h1 a_i3) ?_
  conv => arg 1; whnf
  refine atCall_P (C.c25 h1) ?_
  conv => arg 1; whnf
  cases e0 : ((netChk s nt).1 != 0)
  rotate_left
  · conv => arg 1; whnf
    exact atLeave_P (leave_plain (.inl rfl) rfl) (hF (by simpa using e0) _)
  have e1 : (netChk s nt).1 = 0 := by simpa using e0
  conv => arg 1; whnf
  refine atCall_P (alloc_new (z := .nilsl) (cs := [.nilsl]) (by kernel_rfl) rfl rfl) ?_
  generalize hh_h5 : h1.alloc (.cells [.nilsl] 84) = h5 at *
  obtain ⟨a_i7, n_i7, k_h5⟩ := alloc_facts hh_h5
  replace a_i3 := k_h5 _ _ a_i3 (by omega)
  clear hh_h5 k_h5
  generalize hi_i7 : h1.next = i7 at *
  clear hi_i7
  conv => arg 1; whnf
  refine atCall_P (l3 h5 a_i3) ?_
  conv => arg 1; whnf
  refine atCall_P (C.c32 h5) ?_
  generalize hh_h6 : h5.alloc (.cells [x] 22) = h6 at *
  obtain ⟨a_b2, n_b2, k_h6⟩ := alloc_facts hh_h6
  replace a_i3 := k_h6 _ _ a_i3 (by omega)
  replace a_i7 := k_h6 _ _ a_i7 (by omega)
  clear hh_h6 k_h6
  generalize hi_b2 : h5.next = b2 at *
  clear hi_b2
  generalize hh_h10 : h6.alloc (.cells [c, .int .i64 nt.free, w] 43) = h10 at *
  obtain ⟨a_b3, n_b3, k_h10⟩ := alloc_facts hh_h10
  replace a_i3 := k_h10 _ _ a_i3 (by omega)
  replace a_i7 := k_h10 _ _ a_i7 (by omega)
  replace a_b2 := k_h10 _ _ a_b2 (by omega)
  clear hh_h10 k_h10
  generalize hi_b3 : h6.next = b3 at *
  clear hi_b3
  generalize hd : h10.next = d at *
  have hl : (loopId h10).nat = d.nat + 1 := by unfold loopId; rw [AH.next_alloc, Id.nat_succ, hd]
  have key : ∀ {g0 g1 g2 g3 g4 g5 g6 g8 g9 g10 g11 g12 g13 g14 g15 g16 g17 g18 g19 g20 g21 g22 g23 g24 g25 : AV}, ∃ h', call (.func 117) ([] ++ [.fn (.yield (loopId h10)) [] []] ++ [.ptr b3 0, .ptr b2 0]) (loopHeap 50 (g0 :: g1 :: g2 :: g3 :: g4 :: g5 :: g6 :: .ptr i7 0 :: g8 :: g9 :: g10 :: g11 :: g12 :: g13 :: g14 :: g15 :: g16 :: g17 :: g18 :: g19 :: g20 :: g21 :: g22 :: g23 :: g24 :: g25 :: []) #[19, 20] (rngA (codeOf Tryz.f50) 0) (rngB (codeOf Tryz.f50) 0) h10) = some (.ret (.tup []), h') ∧
      Rnd50 i7 b2 b3 (loopId h10) d x c w nt.free (g0 :: g1 :: g2 :: g3 :: g4 :: g5 :: g6 :: .ptr i7 0 :: g8 :: g9 :: g10 :: g11 :: g12 :: g13 :: g14 :: g15 :: g16 :: g17 :: g18 :: g19 :: g20 :: g21 :: g22 :: g23 :: g24 :: g25 :: []) ([] ++ portsL s nt) h' := by
    intro g0 g1 g2 g3 g4 g5 g6 g8 g9 g10 g11 g12 g13 g14 g15 g16 g17 g18 g19 g20 g21 g22 g23 g24 g25
    have hk : Kept h10.next.nat h10 (loopHeap 50 (g0 :: g1 :: g2 :: g3 :: g4 :: g5 :: g6 :: .ptr i7 0 :: g8 :: g9 :: g10 :: g11 :: g12 :: g13 :: g14 :: g15 :: g16 :: g17 :: g18 :: g19 :: g20 :: g21 :: g22 :: g23 :: g24 :: g25 :: []) #[19, 20] (rngA (codeOf Tryz.f50) 0) (rngB (codeOf Tryz.f50) 0) h10) := (kept_one h10 _).alloc _
    have hR : Rnd50 i7 b2 b3 (loopId h10) d x c w nt.free (g0 :: g1 :: g2 :: g3 :: g4 :: g5 :: g6 :: .ptr i7 0 :: g8 :: g9 :: g10 :: g11 :: g12 :: g13 :: g14 :: g15 :: g16 :: g17 :: g18 :: g19 :: g20 :: g21 :: g22 :: g23 :: g24 :: g25 :: []) [] (loopHeap 50 (g0 :: g1 :: g2 :: g3 :: g4 :: g5 :: g6 :: .ptr i7 0 :: g8 :: g9 :: g10 :: g11 :: g12 :: g13 :: g14 :: g15 :: g16 :: g17 :: g18 :: g19 :: g20 :: g21 :: g22 :: g23 :: g24 :: g25 :: []) #[19, 20] (rngA (codeOf Tryz.f50) 0) (rngB (codeOf Tryz.f50) 0) h10) := by
      refine ⟨⟨.nilsl, hk.1 _ _ a_i7 (by rw [hd]; omega), .inl ⟨rfl, rfl⟩⟩,
        ⟨hk.1 _ _ a_b2 (by rw [hd]; omega), hk.1 _ _ a_b3 (by rw [hd]; omega)⟩, ?_, ?_, ?_⟩
      · unfold loopHeap loopId; rw [AH.get_alloc, if_pos rfl, hd]
      · unfold loopHeap
        refine kept_alloc (by rw [← hd, AH.get_alloc, if_pos rfl]) ?_
        rw [AH.next_alloc, Id.nat_succ, hd]; omega
      · unfold loopHeap; rw [AH.next_alloc, Id.nat_succ, AH.next_alloc, Id.nat_succ, hd]; omega
    obtain ⟨h', hY, hres⟩ := run50 (C.cy (by omega) (by omega) (by omega) (by omega)) (portsL s nt) 0 [] _ (by simpa using hpl e1) hR
    exact ⟨h', C.c37 e1 hR.pg hY, hres⟩
  conv => arg 1; whnf
  refine atRange_ex key ?_
  intro h11 hR
  rw [List.nil_append] at hR
  have hld : d.nat < (loopId h10).nat := by omega
  obtain ⟨wl, g8, gw⟩ := hR.g7
  obtain ⟨h12, hlv, ks, kn, kg⟩ := leaveLoop_ex3 hR.gl
  rw [hlv]
  have d8 := ks _ _ g8 (by rintro rfl; omega)
  have dd := ks _ _ hR.gd (by rintro rfl; omega)
  have l8 : vOf h12 (aLoad Tryz.prog 84 (.ptr i7 0) h12) = some (.ret wl, h12) := ld_ptr (n := 1) d8 (by kernel_rfl) (by kernel_rfl) rfl
  conv => arg 1; whnf
  refine atCall_P (l8) ?_
  conv => arg 1; whnf
  subst hd
  exact atLeave_P (leave49 dd rfl) (hT e1 _ _ (IsN.of_grow gw))
end Go.Proofs.Nt

/-
  The contracts of net.Ends, net.Ports.
-/
namespace Go.Proofs.Nt
open Go.Sk
set_option linter.unusedVariables false
set_option linter.unusedSimpArgs false
set_option maxRecDepth 10000

theorem fitsA49 : tabFits Tryz.prog (mu0 49) shT (rngA (codeOf Tryz.f49) 0) = true := by kernel_rfl
theorem fitsB49 : tabFits Tryz.prog (mu0 49) shT (rngB (codeOf Tryz.f49) 0) = true := by kernel_rfl
theorem nodA49 : noDefs (rngA (codeOf Tryz.f49) 0) = true := by kernel_rfl
theorem set49 {i7 i8 : Sk.Id} {i : Int} {p : Int × Int} {g0 g1 g2 g3 g4 g5 g6 g9 g10 g11 g12 g13 g14 g15 g16 g17 g18 g19 g20 g21 g22 g23 g24 g25 g26 g27 g28 g29 g30 : AV} : setTmps (g0 :: g1 :: g2 :: g3 :: g4 :: g5 :: g6 :: .ptr i7 0 :: .ptr i8 0 :: g9 :: g10 :: g11 :: g12 :: g13 :: g14 :: g15 :: g16 :: g17 :: g18 :: g19 :: g20 :: g21 :: g22 :: g23 :: g24 :: g25 :: g26 :: g27 :: g28 :: g29 :: g30 :: []) [22, 23] [.int .i64 i, portV p] = (g0 :: g1 :: g2 :: g3 :: g4 :: g5 :: g6 :: .ptr i7 0 :: .ptr i8 0 :: g9 :: g10 :: g11 :: g12 :: g13 :: g14 :: g15 :: g16 :: g17 :: g18 :: g19 :: g20 :: g21 :: .int .i64 i :: portV p :: g24 :: g25 :: g26 :: g27 :: g28 :: g29 :: g30 :: []) := by
  simp only [setTmps]
  rfl
theorem fitsA50 : tabFits Tryz.prog (mu0 50) shT (rngA (codeOf Tryz.f50) 0) = true := by kernel_rfl
theorem fitsB50 : tabFits Tryz.prog (mu0 50) shT (rngB (codeOf Tryz.f50) 0) = true := by kernel_rfl
theorem nodA50 : noDefs (rngA (codeOf Tryz.f50) 0) = true := by kernel_rfl
theorem set50 {i7 : Sk.Id} {i : Int} {p : Int × Int} {g0 g1 g2 g3 g4 g5 g6 g8 g9 g10 g11 g12 g13 g14 g15 g16 g17 g18 g19 g20 g21 g22 g23 g24 g25 : AV} : setTmps (g0 :: g1 :: g2 :: g3 :: g4 :: g5 :: g6 :: .ptr i7 0 :: g8 :: g9 :: g10 :: g11 :: g12 :: g13 :: g14 :: g15 :: g16 :: g17 :: g18 :: g19 :: g20 :: g21 :: g22 :: g23 :: g24 :: g25 :: []) [19, 20] [.int .i64 i, portV p] = (g0 :: g1 :: g2 :: g3 :: g4 :: g5 :: g6 :: .ptr i7 0 :: g8 :: g9 :: g10 :: g11 :: g12 :: g13 :: g14 :: g15 :: g16 :: g17 :: g18 :: .int .i64 i :: portV p :: g21 :: g22 :: g23 :: g24 :: g25 :: []) := by
  simp only [setTmps]
  rfl

theorem ports_big {s : List Ag} {nt : Nt} (hP : ∀ a, 0 ≤ portsN s a ∧ portsN s a ≤ 7) : (netChk s nt).1 = 0 → (portsL s nt).length ≤ 100000000 := fun e1 => by
  obtain ⟨p1, p2, p3, p4⟩ := chk_ok e1
  have := ports_len' (n := nt) hP p3 p2
  omega

theorem c49 {m : Nat} (x v c w : AV) (s : List Ag) (nt : Nt) (hx : IsSig x s) (hv : IsNet v nt) (hvc : v = .agg [c, .int .i64 nt.free, w]) (hl : nt.wires.length ≤ 1000000000) (hm : nt.wires.length + 5010 < m) :
    C49 (evCall (mkEv Tryz.prog mu0 hkRG) (m + 1)) (evCall (mkEv Tryz.prog mu0 hkRG) m) x s nt c w := by
  have hv0 := hv
  subst hvc
  obtain ⟨c', w', he, hc, hw⟩ := hv
  simp only [AV.agg.injEq, List.cons.injEq, and_true, true_and] at he
  obtain ⟨rfl, rfl⟩ := he
  exact {
    c25 := fun h => h25_of (hk := hkRG) (n := m + 1) (fun _ _ => rfl) (by omega) h hx hv0 hl
    c27 := fun h => by
      obtain ⟨r, h', q1, q2⟩ := b27 (evCall (mkEv Tryz.prog mu0 hkRG) m) (rg Tryz.prog mu0 hkRG m 88) m c w nt.free nt.wires hw hl (by omega) h (isL_scalar hc)
      exact ⟨r, h', ev_of_cBodyS tab27 rfl Tryz.func88 rfl fits27 q1, q2⟩
    c32 := fun h => ev_of_cBodyS shT rfl Tryz.func89 rfl (by kernel_rfl) (b32 (evCall (mkEv Tryz.prog mu0 hkRG) m) (rg Tryz.prog mu0 hkRG m 89) m x c w nt.free h (isL_scalar hx) (isL_scalar hc) (isL_scalar hw))
    c37 := fun h0 {l b2 b3 h h'} hG hY => by
      obtain ⟨p1, p2, p3, p4⟩ := chk_ok h0
      exact ev_of_cBodyS shT rfl Tryz.func117 rfl (by kernel_rfl)
        (b37 (evCall (mkEv Tryz.prog mu0 hkRG) m) (rg Tryz.prog mu0 hkRG m 117) m l b2 b3 x c w nt.free s nt.cells hx hc (sigChk_ports p1) (by omega) (by omega) (by omega) (by omega) (by omega) (h31_of (hk := hkRG) (n := m) (fun _ _ => rfl) (by omega)) h h' hG hY)
    cy := by
      intro i7 i8 r b2 b3 l d N g0 g1 g2 g3 g4 g5 g6 g9 g10 g11 g12 g13 g14 g15 g16 g17 g18 g19 g20 g21 g22 g23 g24 g25 g26 g27 g28 g29 g30 o1 o2 o3 o4 o5 o6 p i W h hW hR
      obtain ⟨k, rfl⟩ : ∃ k, m = k + 1 := ⟨m - 1, by omega⟩
      obtain ⟨h', h1, h2⟩ := y49 (evCall (mkEv Tryz.prog mu0 hkRG) k) (rg Tryz.prog mu0 hkRG k 49) k N W hW p (.int .i64 i) h _ (fun _ _ _ => rfl) (g0 := g0) (g1 := g1) (g2 := g2) (g3 := g3) (g4 := g4) (g5 := g5) (g6 := g6) (g9 := g9) (g10 := g10) (g11 := g11) (g12 := g12) (g13 := g13) (g14 := g14) (g15 := g15) (g16 := g16) (g17 := g17) (g18 := g18) (g19 := g19) (g20 := g20) (g21 := g21) (g24 := g24) (g25 := g25) (g26 := g26) (g27 := g27) (g28 := g28) (g29 := g29) (g30 := g30) hR o1 o2 o3 o4 o5 o6
      exact ⟨h', ev_yield shT hR.gl rfl fitsA49 fitsB49 nodA49 set49 h1, h2⟩ }

theorem c50 {m : Nat} (x v c w : AV) (s : List Ag) (nt : Nt) (hx : IsSig x s) (hv : IsNet v nt) (hvc : v = .agg [c, .int .i64 nt.free, w]) (hl : nt.wires.length ≤ 1000000000) (hm : nt.wires.length + 5010 < m) {hk : Hooks} (k25 : ∀ args h, hk 87 args h = hk25 87 args h) (k31 : ∀ args h, hk 118 args h = hk31 118 args h) (kp : ∀ args h, hk 89 args h = none) (kp1 : ∀ args h, hk 117 args h = none) :
    C50 (evCall (mkEv Tryz.prog mu0 hk) (m + 1)) (evCall (mkEv Tryz.prog mu0 hk) m) x s nt c w := by
  have hv0 := hv
  subst hvc
  obtain ⟨c', w', he, hc, hw⟩ := hv
  simp only [AV.agg.injEq, List.cons.injEq, and_true, true_and] at he
  obtain ⟨rfl, rfl⟩ := he
  exact {
    c25 := fun h => h25_of k25 (by omega) h hx hv0 hl
    c32 := fun h => ev_of_cBodyS shT (kp _ _) Tryz.func89 rfl (by kernel_rfl) (b32 (evCall (mkEv Tryz.prog mu0 hk) m) (rg Tryz.prog mu0 hk m 89) m x c w nt.free h (isL_scalar hx) (isL_scalar hc) (isL_scalar hw))
    c37 := fun h0 {l b2 b3 h h'} hG hY => by
      obtain ⟨p1, p2, p3, p4⟩ := chk_ok h0
      exact ev_of_cBodyS shT (kp1 _ _) Tryz.func117 rfl (by kernel_rfl)
        (b37 (evCall (mkEv Tryz.prog mu0 hk) m) (rg Tryz.prog mu0 hk m 117) m l b2 b3 x c w nt.free s nt.cells hx hc (sigChk_ports p1) (by omega) (by omega) (by omega) (by omega) (by omega) (h31_of k31 (by omega)) h h' hG hY)
    cy := by
      intro i7 b2 b3 l d g0 g1 g2 g3 g4 g5 g6 g8 g9 g10 g11 g12 g13 g14 g15 g16 g17 g18 g19 g20 g21 g22 g23 g24 g25 o1 o2 o3 o4 p i W h hW hR
      obtain ⟨k, rfl⟩ : ∃ k, m = k + 1 := ⟨m - 1, by omega⟩
      obtain ⟨h', h1, h2⟩ := y50 (evCall (mkEv Tryz.prog mu0 hk) k) (rg Tryz.prog mu0 hk k 50) k W hW p (.int .i64 i) h _ (g0 := g0) (g1 := g1) (g2 := g2) (g3 := g3) (g4 := g4) (g5 := g5) (g6 := g6) (g8 := g8) (g9 := g9) (g10 := g10) (g11 := g11) (g12 := g12) (g13 := g13) (g14 := g14) (g15 := g15) (g16 := g16) (g17 := g17) (g18 := g18) (g21 := g21) (g22 := g22) (g23 := g23) (g24 := g24) (g25 := g25) hR o1 o2 o3 o4
      exact ⟨h', ev_yield shT hR.gl rfl fitsA50 fitsB50 nodA50 set50 h1, h2⟩ }

def endsV (s : List Ag) (n : Nt) : AV := if (netChk s n).1 = 0 then .tup [listW portV (endsL s n), .int .i64 0] else .tup [.nilsl, .int .i64 (netChk s n).1]
def portsV (s : List Ag) (n : Nt) : AV := if (netChk s n).1 = 0 then .tup [listW portV (portsL s n), .int .i64 0] else .tup [.nilsl, .int .i64 (netChk s n).1]
def sEn : List AV → Option AV
  | [x, v] => match sigOf x, netOf v with | some s, some n => if n.wires.length ≤ 1000000 then some (endsV s n) else none | _, _ => none
  | _ => none
def sPo : List AV → Option AV
  | [x, v] => match sigOf x, netOf v with | some s, some n => if n.wires.length ≤ 1000000 then some (portsV s n) else none | _, _ => none
  | _ => none
def hkEn := addHk hkRG 49 sEn
def hkPo := addHk hkEn 50 sPo

theorem ports_big' {s : List Ag} {nt : Nt} (h0 : (netChk s nt).1 = 0) : (portsL s nt).length ≤ 100000000 := ports_big (sigChk_ports (chk_ok h0).1) h0

theorem EEn : EvOK (mkEv Tryz.prog mu0 hkEn) := mkEv_add3 ERG fun args v hs => by
  unfold sEn at hs; split at hs
  · rename_i x v'
    split at hs
    · rename_i s n h1 h2
      split at hs
      · rename_i hl
        cases hs
        have hx := decL_inv h1
        have hv := netOf_inv h2
        obtain ⟨N, hN⟩ : ∃ N, N = n.wires.length + 6000 := ⟨_, rfl⟩
        have C := fun c w h => c49 (m := N) x v' c w s n hx hv h (by omega) (by omega)
        obtain ⟨b1, b2⟩ := b49 (evCall (mkEv Tryz.prog mu0 hkRG) (N + 1)) (evCall (mkEv Tryz.prog mu0 hkRG) N) (rg Tryz.prog mu0 hkRG (N + 1) 49) (N + 1) x v' s n hx hv ports_big' C .empty
        by_cases h0 : (netChk s n).1 = 0
        · obtain ⟨u, h', q1, q2⟩ := b1 h0
          obtain ⟨w1, w2⟩ := q2.weak (fun _ => rfl) (fun _ => rfl)
          refine ⟨.tup [u, .int .i64 0], by show (freeV u && true) = true; rw [w2]; rfl, ?_, ev_ofS shT rfl Tryz.func49 rfl (by kernel_rfl) q1⟩
          unfold endsV; rw [if_pos h0]
          show _ = AV.tup [weakV u, .int .i64 0]
          rw [w1]
        · obtain ⟨h', q1⟩ := b2 h0
          refine ⟨.tup [.nilsl, .int .i64 (netChk s n).1], rfl, ?_, ev_ofS shT rfl Tryz.func49 rfl (by kernel_rfl) q1⟩
          unfold endsV; rw [if_neg h0]; rfl
      · cases hs
    · cases hs
  · cases hs

theorem EPo : EvOK (mkEv Tryz.prog mu0 hkPo) := mkEv_add3 EEn fun args v hs => by
  unfold sPo at hs; split at hs
  · rename_i x v'
    split at hs
    · rename_i s n h1 h2
      split at hs
      · rename_i hl
        cases hs
        have hx := decL_inv h1
        have hv := netOf_inv h2
        obtain ⟨N, hN⟩ : ∃ N, N = n.wires.length + 6000 := ⟨_, rfl⟩
        have C := fun c w h => c50 (m := N) x v' c w s n hx hv h (by omega) (by omega) (hk := hkEn) (fun _ _ => rfl) (fun _ _ => rfl) (fun _ _ => rfl) (fun _ _ => rfl)
        obtain ⟨b1, b2⟩ := b50 (evCall (mkEv Tryz.prog mu0 hkEn) (N + 1)) (evCall (mkEv Tryz.prog mu0 hkEn) N) (rg Tryz.prog mu0 hkEn (N + 1) 50) (N + 1) x v' s n hx hv ports_big' C .empty
        by_cases h0 : (netChk s n).1 = 0
        · obtain ⟨u, h', q1, q2⟩ := b1 h0
          obtain ⟨w1, w2⟩ := q2.weak (fun _ => rfl) (fun _ => rfl)
          refine ⟨.tup [u, .int .i64 0], by show (freeV u && true) = true; rw [w2]; rfl, ?_, ev_ofS shT rfl Tryz.func50 rfl (by kernel_rfl) q1⟩
          unfold portsV; rw [if_pos h0]
          show _ = AV.tup [weakV u, .int .i64 0]
          rw [w1]
        · obtain ⟨h', q1⟩ := b2 h0
          refine ⟨.tup [.nilsl, .int .i64 (netChk s n).1], rfl, ?_, ev_ofS shT rfl Tryz.func50 rfl (by kernel_rfl) q1⟩
          unfold portsV; rw [if_neg h0]; rfl
      · cases hs
    · cases hs
  · cases hs

def hEn (call : CallT) : Prop := ∀ x v s n h, IsSig x s → IsNet v n → n.wires.length ≤ 1000000 → call (.func 49) [x, v] h = some (.ret (endsV s n), h)
def hPo (call : CallT) : Prop := ∀ x v s n h, IsSig x s → IsNet v n → n.wires.length ≤ 1000000 → call (.func 50) [x, v] h = some (.ret (portsV s n), h)
theorem hEn_of {hk : Hooks} {n : Nat} (hk' : ∀ args h, hk 49 args h = hkEn 49 args h) (hn : 0 < n) : hEn (evCall (mkEv Tryz.prog mu0 hk) n) := fun x v s nt h hx hv hl => ev_hk (by
  rw [hk']
  refine hk_top (by simp [freeL, sig_free hx, net_free hv]) ?_
  show (match sigOf (weakV x), netOf (weakV v) with | some s, some n => if n.wires.length ≤ 1000000 then some (endsV s n) else none | _, _ => none) = _
  rw [sigOf_of hx, netOf_of hv]; simp only [if_pos hl]) hn
theorem hPo_of {hk : Hooks} {n : Nat} (hk' : ∀ args h, hk 50 args h = hkPo 50 args h) (hn : 0 < n) : hPo (evCall (mkEv Tryz.prog mu0 hk) n) := fun x v s nt h hx hv hl => ev_hk (by
  rw [hk']
  refine hk_top (by simp [freeL, sig_free hx, net_free hv]) ?_
  show (match sigOf (weakV x), netOf (weakV v) with | some s, some n => if n.wires.length ≤ 1000000 then some (portsV s n) else none | _, _ => none) = _
  rw [sigOf_of hx, netOf_of hv]; simp only [if_pos hl]) hn
end Go.Proofs.Nt

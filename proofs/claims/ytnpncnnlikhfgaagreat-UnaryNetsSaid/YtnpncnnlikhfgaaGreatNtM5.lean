/- The reference's net of a term: a cell more, a wire more, a number, a term. -/
import Derived.Test.YtnpncnnlikhfgaaGreatNtM4
import Derived.Test.YtnpncnnlikhfgaaGreatSkOpen
import Derived.Deep.Slices
import Derived.Test.YtnpncnnlikhfgaaGreatNtM2
set_option linter.unusedVariables false
set_option linter.unusedSimpArgs false
set_option maxRecDepth 10000
namespace Go.Proofs.Nt
open Go.Sk

theorem bRc (call rgn n) (i : Sk.Id) (f a : Int) (b : Bd) (h : AH) (hG : BdG i 114 f b h) (hb : b.cells.length ≤ 1000000) :
    ∃ h', B shT call rgn n 111 Tryz.f111 [.ptr i 0, .int .i64 a] h = some (.ret (.int .i64 (b.cells.length : Int)), h') ∧ BdG i 114 f ⟨b.cells ++ [a], b.wires⟩ h' ∧ KeptB h.next.nat i i h h' := by
  suffices hq : ∀ Q : Option (AOut × AH) → Prop, (∀ v h', v = (b.cells.length : Int) → BdG i 114 f ⟨b.cells ++ [a], b.wires⟩ h' → KeptB h.next.nat i i h h' → Q (some (.ret (.int .i64 v), h'))) → Q (B shT call rgn n 111 Tryz.f111 [.ptr i 0, .int .i64 a] h) from hq (fun y => ∃ h', y = some (.ret (.int .i64 (b.cells.length : Int)), h') ∧ BdG i 114 f ⟨b.cells ++ [a], b.wires⟩ h' ∧ KeptB h.next.nat i i h h') (fun v h' h1 h2 h3 => ⟨h', by rw [h1], h2, h3⟩)
  intro Q hQ
  obtain ⟨⟨cl, wl, hg, hc, hw, hd⟩, lt⟩ := hG
  have u : Tryz.prog.underlying 40 = some (.slice 3) := by kernel_rfl
  obtain ⟨l', h', a1, a2, a3, a4, a5, a6, a7, a8⟩ := BdG.cell (call := call) a hg hc hw hd lt hb
  have l1 : vOf h (aLoad Tryz.prog 40 (.ptr i 0) h) = some (.ret cl, h) := ld_ptr (n := 1) hg (by kernel_rfl) (by kernel_rfl) rfl
  have st : hOf (aStore Tryz.prog 40 (.ptr i 0) l' h') = some (.ret undefA, h'.set i (.cells [l', .int .i64 f, wl] 114)) := by
    rw [st_ptr (n := 1) a2 (by kernel_rfl) (by rw [a4]; rfl) (by simp) (by rw [a4]; simp only [List.all_cons, a5, List.all_nil]; rfl), a4]; rfl
  generalize h'.set i (.cells [l', .int .i64 f, wl] 114) = h2 at *
  have l2 : vOf h2 (aLoad Tryz.prog 40 (.ptr i 0) h2) = some (.ret l', h2) := ld_ptr (n := 1) a3 (by kernel_rfl) (by kernel_rfl) rfl
  have hln := len_L (X := ⟨Tryz.prog, mu0, call⟩) (mu := false) (h := h2) u a6
  rw [List.length_map, List.length_append, List.length_singleton] at hln
  conv => arg 1; whnf
  refine atCall_P (l1) ?_
  conv => arg 1; whnf
  refine atCall_P (a1) ?_
  conv => arg 1; whnf
  refine atCall_P (st) ?_
  conv => arg 1; whnf
  refine atCall_P (l2) ?_
  conv => arg 1; whnf
  refine atCall_P (hln) ?_
  conv => arg 1; whnf
  refine atLeave_P (leave_plain (.inl rfl) rfl) (hQ _ _ ?_ a7 a8)
  rw [wrap_small (by omega) (by omega)]; omega

theorem bRw (call rgn n) (i : Sk.Id) (f : Int) (p q : Pt) (b : Bd) (h : AH) (hG : BdG i 114 f b h) (hb : b.wires.length ≤ 1000000) (hrg : ∀ id ops st, rgn id ops st = drawn ⟨Tryz.prog, mu0, call⟩ 83 ops st) :
    ∃ h', B shT call rgn n 83 Tryz.f83 [.ptr i 0, portV p, portV q] h = some (.ret (.tup []), h') ∧ BdG i 114 f ⟨b.cells, b.wires ++ [mkW p q]⟩ h' ∧ KeptB h.next.nat i i h h' := by
  suffices hq : ∀ Q : Option (AOut × AH) → Prop, ¬ Q none → (∀ h', BdG i 114 f ⟨b.cells, b.wires ++ [mkW p q]⟩ h' → KeptB h.next.nat i i h h' → Q (some (.ret (.tup []), h'))) → Q (B shT call rgn n 83 Tryz.f83 [.ptr i 0, portV p, portV q] h) from hq (fun y => ∃ h', y = some (.ret (.tup []), h') ∧ BdG i 114 f ⟨b.cells, b.wires ++ [mkW p q]⟩ h' ∧ KeptB h.next.nat i i h h') (by rintro ⟨_, h, _⟩; cases h) (fun h' h2 h3 => ⟨h', rfl, h2, h3⟩)
  intro Q hN hQ
  obtain ⟨p0, p1⟩ := p
  obtain ⟨q0, q1⟩ := q
  obtain ⟨⟨cl, wl, hg, hc, hw, hd⟩, lt⟩ := hG
  have kb := KeptB.refl i i h
  generalize hn0 : h.next.nat = n0 at kb hQ
  have kb := kb.alloc (.cells [.int .i64 p0, .int .i64 p1] 65)
  have hc := growB_alloc hc (.cells [.int .i64 p0, .int .i64 p1] 65)
  have hw := growB_alloc hw (.cells [.int .i64 p0, .int .i64 p1] 65)
  conv => arg 1; whnf
  refine atCall_P (box_new (cs := [.int .i64 p0, .int .i64 p1]) rfl rfl) ?_
  generalize hh_h1 : h.alloc (.cells [.int .i64 p0, .int .i64 p1] 65) = h1 at *
  obtain ⟨a_i3, n_i3, k_h1⟩ := alloc_facts hh_h1
  replace hg := k_h1 _ _ hg (by omega)
  clear hh_h1 k_h1
  generalize hi_i3 : h.next = i3 at *
  clear hi_i3
  have kb := kb.alloc (.cells [.int .i64 q0, .int .i64 q1] 65)
  have hc := growB_alloc hc (.cells [.int .i64 q0, .int .i64 q1] 65)
  have hw := growB_alloc hw (.cells [.int .i64 q0, .int .i64 q1] 65)
  conv => arg 1; whnf
  refine atCall_P (box_new (cs := [.int .i64 q0, .int .i64 q1]) rfl rfl) ?_
  generalize hh_h2 : h1.alloc (.cells [.int .i64 q0, .int .i64 q1] 65) = h2 at *
  obtain ⟨a_i4, n_i4, k_h2⟩ := alloc_facts hh_h2
  replace hg := k_h2 _ _ hg (by omega)
  replace a_i3 := k_h2 _ _ a_i3 (by omega)
  clear hh_h2 k_h2
  generalize hi_i4 : h1.next = i4 at *
  clear hi_i4
  obtain ⟨l', h', a1, a2, a4, a5, a6, a7, a8⟩ := BdG.wire (call := call) (p0, p1, q0, q1) hg hc hw hd (by omega) hb
  have l1 : ∀ h, h.get i = some (.cells [cl, .int .i64 f, wl] 114) → vOf h (aLoad Tryz.prog 41 (.ptr i 2) h) = some (.ret wl, h) := fun h g => ld_ptr (n := 1) g (by kernel_rfl) (by kernel_rfl) rfl
  have l3 : ∀ h, h.get i3 = some (.cells [.int .i64 p0, .int .i64 p1] 65) → vOf h (aLoad Tryz.prog 65 (.ptr i3 0) h) = some (.ret (portV (p0, p1)), h) := fun h g => ld_agg (n := 2) g (by kernel_rfl) (by kernel_rfl) (by simp)
  have l4 : ∀ h, h.get i4 = some (.cells [.int .i64 q0, .int .i64 q1] 65) → vOf h (aLoad Tryz.prog 65 (.ptr i4 0) h) = some (.ret (portV (q0, q1)), h) := fun h g => ld_agg (n := 2) g (by kernel_rfl) (by kernel_rfl) (by simp)
  have st : hOf (aStore Tryz.prog 41 (.ptr i 2) l' h') = some (.ret undefA, h'.set i (.cells [cl, .int .i64 f, l'] 114)) := by
    rw [st_ptr (n := 1) a2 (by kernel_rfl) (by rw [a4]; rfl) (by simp) (by rw [a4]; simp only [List.all_cons, a5, List.all_nil]; rfl), a4]; rfl
  have kb := (kb.app a7 a6).set (i := i) (.cells [cl, .int .i64 f, l'] 114) (.inr (.inl rfl))
  have m3 := a7 _ _ a_i3 (notGrp a_i3) (by omega)
  have m4 := a7 _ _ a_i4 (notGrp a_i4) (by omega)
  conv => arg 1; whnf
  refine atRgn_N true (fun hh => hh.get i = some (.cells [cl, .int .i64 f, wl] 114) ∧ hh.get i3 = some (.cells [.int .i64 p0, .int .i64 p1] 65) ∧ hh.get i4 = some (.cells [.int .i64 q0, .int .i64 q1] 65)) (T := [0, 0, 2, 6, 14, 30, 0, 0, 192, 448, 1022, 2047, 4095, 8191, 16383]) (ord := [0, 1, 2, 3, 4, 5, 6, 7, 8, 9, 10, 11, 12, 13, 14]) (by kernel_rfl) (hrg _ _ _) hN ?_
  conv => arg 1; whnf
  refine atCall_P (l1 h2 hg) ?_
  conv => arg 1; whnf
  refine atCall_P (l3 h2 a_i3) ?_
  conv => arg 1; whnf
  refine atCall_P (l4 h2 a_i4) ?_
  conv => arg 1; whnf
  refine atCall_P (a1) ?_
  conv => arg 1; whnf
  refine atCall_P (st) ?_
  conv => arg 1; whnf
  refine atP_P ⟨?_, (fun k hk hp => match k, hk, hp with
    | 0, _, _ => ⟨hg, a_i3, a_i4⟩
    | 1, _, hp => no_pos hp (by kernel_rfl)
    | 2, _, hp => no_pos hp (by kernel_rfl)
    | k + 3, hk, _ => absurd hk (by simp)), (fun a ha => by cases ha), rfl⟩ ?_
  · exact ⟨trivial, trivial, trivial, trivial, trivial, fun _ hh g => ⟨hh, l1 hh g.1⟩, fun _ hh g => ⟨hh, l3 hh g.2.1⟩, fun _ hh g => ⟨hh, l4 hh g.2.2⟩, trivial, trivial, trivial, trivial, trivial, trivial, trivial, trivial⟩
  conv => arg 1; whnf
  exact atLeave_P (leave_plain (.inr rfl) rfl) (hQ _ a8 kb)

def hRc (i : Sk.Id) (call : CallT) : Prop := ∀ f a b h, BdG i 114 f b h → b.cells.length ≤ 1000000 → ∃ h', call (.func 111) [.ptr i 0, .int .i64 a] h = some (.ret (.int .i64 (b.cells.length : Int)), h') ∧ BdG i 114 f ⟨b.cells ++ [a], b.wires⟩ h' ∧ KeptB h.next.nat i i h h'
def hRw (i : Sk.Id) (call : CallT) : Prop := ∀ f p q b h, BdG i 114 f b h → b.wires.length ≤ 1000000 → ∃ h', call (.func 83) [.ptr i 0, portV p, portV q] h = some (.ret (.tup []), h') ∧ BdG i 114 f ⟨b.cells, b.wires ++ [mkW p q]⟩ h' ∧ KeptB h.next.nat i i h h'
theorem hRc_of {hk : Hooks} {n : Nat} (hno : ∀ args h, hk 111 args h = none) (hn : 0 < n) (i : Sk.Id) : hRc i (evCall (mkEv Tryz.prog mu0 hk) n) := fun f a b h hG hb => by
  obtain ⟨m, rfl⟩ : ∃ m, n = m + 1 := ⟨n - 1, by omega⟩
  obtain ⟨h', q1, q2⟩ := bRc (evCall (mkEv Tryz.prog mu0 hk) m) (rg Tryz.prog mu0 hk m 111) m i f a b h hG hb
  exact ⟨h', ev_of_cBodyS shT (hno _ _) Tryz.func111 rfl (by kernel_rfl) q1, q2⟩
theorem hRw_of {hk : Hooks} {n : Nat} (hno : ∀ args h, hk 83 args h = none) (hn : 0 < n) (i : Sk.Id) : hRw i (evCall (mkEv Tryz.prog mu0 hk) n) := fun f p q b h hG hb => by
  obtain ⟨m, rfl⟩ : ∃ m, n = m + 1 := ⟨n - 1, by omega⟩
  obtain ⟨h', q1, q2⟩ := bRw (evCall (mkEv Tryz.prog mu0 hk) m) (rg Tryz.prog mu0 hk m 83) m i f p q b h hG hb (fun _ _ _ => rfl)
  exact ⟨h', ev_of_cBodyS shT (hno _ _) Tryz.func83 rfl (by kernel_rfl) q1, q2⟩

/-! ### A number -/

section
variable {i i4 : Sk.Id} {b : Bd} {f : Int}

theorem KeptB.trans1 {n0 : Nat} {a : Sk.Id} {g h h' : AH} (hk : KeptB n0 a a g h) (h1 : KeptB h.next.nat a a h h') : KeptB n0 a a g h' := hk.trans h1

theorem lRn (call rgn n) (c1 : hRc i call) (c2 : hRw i call) {X : Nat} (hX : X ≤ 5000) (hbl : b.cells.length ≤ 5000) (hbw : b.wires.length ≤ 100000) {n0 : Nat} {gg : AH} {ob : AO} (o4 : i.nat < i4.nat) (hob : ∀ n, ob ≠ .grp n) {K : KC (AOut × AH)} {Q : Option (AOut × AH) → Prop} {cc xx : Int} (hcc : cc = b.cells.length) (hxx : xx = X)
    (hK : ∀ {h : AH} {y : Int} {g1 g2 g3 g7 g8 g9 aA aB aC aD aE aF aG aH aI aJ aK aL aM aN aO aP aQ aR aS aT aU aV aW aX aY aZ bA bB bC bD bE bF : AV}, y = (b.cells.length : Int) + X - 1 → BdG i 114 f ⟨b.cells ++ List.replicate X 1, b.wires ++ numW b.cells.length (X - 1)⟩ h → h.get i4 = some ob → i4.nat < h.next.nat → KeptB n0 i i gg h → Q (K (.exit 0) ⟨[.ptr i 0,g1,g2,g3,.ptr i4 0,.int .i64 cc,.int .i64 y,g7,g8,g9,aA,aB,aC,aD,aE,aF,aG,aH,aI,aJ,aK,aL,aM,aN,aO,aP,aQ,aR,aS,aT,aU,aV,aW,aX,aY,aZ,bA,bB,bC,bD,bE,bF], [], h⟩)) :
    ∀ (m k : Nat) {z y : Int} {h : AH} {g2 g3 g8 g9 aA aB aC aD aE aF aG aH aI aJ aK aL aM aN aO aP aQ aR aS aT aU aV aW aX aY aZ bA bB bC bD bE bF : AV}, z = k → 1 ≤ k → k ≤ X → X - k < m → y = (b.cells.length : Int) + k - 1 → BdG i 114 f ⟨b.cells ++ List.replicate k 1, b.wires ++ numW b.cells.length (k - 1)⟩ h → h.get i4 = some ob → i4.nat < h.next.nat → KeptB n0 i i gg h →
    Q (cIter (LB shT call rgn n 110 Tryz.f110 0) m ⟨[.ptr i 0,.int .i64 xx,g2,g3,.ptr i4 0,.int .i64 cc,.int .i64 y,.int .i64 z,g8,g9,aA,aB,aC,aD,aE,aF,aG,aH,aI,aJ,aK,aL,aM,aN,aO,aP,aQ,aR,aS,aT,aU,aV,aW,aX,aY,aZ,bA,bB,bC,bD,bE,bF], [], h⟩ K) := by
  intro m
  induction m with
  | zero => intros; omega
  | succ m ih =>
    intro k z y h g2 g3 g8 g9 aA aB aC aD aE aF aG aH aI aJ aK aL aM aN aO aP aQ aR aS aT aU aV aW aX aY aZ bA bB bC bD bE bF hz h1 hk hm hy G g4 l4 kb
    rw [cIter_succ]
    conv => arg 1; whnf
    split
    · rename_i hd
      have hlt : k < X := by simp at hd; omega
      have hz' : IntKind.i64.wrap (z + 1) = ((k + 1 : Nat) : Int) := by rw [hz]; exact wrap_succ (by omega)
      obtain ⟨h2, q1, q2, q3⟩ := c1 f 1 _ h G (by simp; omega)
      simp only [List.length_append, List.length_replicate] at q1
      have hcells : b.cells ++ List.replicate k 1 ++ [1] = b.cells ++ List.replicate (k + 1) 1 := by rw [List.append_assoc, ← List.replicate_succ']
      simp only [hcells] at q2
      obtain ⟨h3, w1, w2, w3⟩ := c2 f (y, 1) (((b.cells.length + k : Nat) : Int), 0) _ h2 q2 (by simp [numW]; omega)
      have hwires : b.wires ++ numW b.cells.length (k - 1) ++ [mkW (y, 1) (((b.cells.length + k : Nat) : Int), 0)] = b.wires ++ numW b.cells.length (k + 1 - 1) := by
        rw [Nat.add_sub_cancel, numW_last b.cells.length (k := k) (by omega) (a := y) (d := ((b.cells.length + k : Nat) : Int)) (by omega) rfl, List.append_assoc]; rfl
      simp only [hwires] at w2
      have ne4 : i4 ≠ i := fun e => by have := congrArg Sk.Id.nat e; omega
      have bG := q3.1 _ _ g4 hob l4 ne4 ne4
      have l42 : i4.nat < h2.next.nat := Nat.lt_of_lt_of_le l4 q3.2
      have bH := w3.1 _ _ bG hob l42 ne4 ne4
      have l43 : i4.nat < h3.next.nat := Nat.lt_of_lt_of_le l42 w3.2
      conv => arg 1; whnf
      refine atCall_P (q1) ?_
      conv => arg 1; whnf
      refine atCall_P (w1) ?_
      conv => arg 1; whnf
      exact ih (k + 1) hz' (by omega) (by omega) (by omega) (by omega) w2 bH l43 ((kb.trans1 q3).trans1 w3)
    · rename_i hd
      have hlt : ¬ k < X := by simp at hd; omega
      have : k = X := by omega
      subst this
      exact hK hy G g4 l4 kb

theorem bRn (call rgn n) (hn : 6000 < n) (c1 : hRc i call) (c2 : hRw i call) (X : Nat) (hX : b.cells.length + X + 1 ≤ 5000) (hbw : b.wires.length ≤ 50000) (h : AH) (G : BdG i 114 f b h) :
    ∃ h', B shT call rgn n 110 Tryz.f110 [.ptr i 0, .int .i64 (X : Int)] h = some (.ret (portV ((b.cells.length : Int), 0)), h') ∧ BdG i 114 f (numB b (X : Int)) h' ∧ KeptB h.next.nat i i h h' := by
  suffices hq : ∀ Q : Option (AOut × AH) → Prop, (∀ h', BdG i 114 f (numB b (X : Int)) h' → KeptB h.next.nat i i h h' → Q (some (.ret (portV ((b.cells.length : Int), 0)), h'))) → Q (B shT call rgn n 110 Tryz.f110 [.ptr i 0, .int .i64 (X : Int)] h) from hq (fun y => ∃ h', y = some (.ret (portV ((b.cells.length : Int), 0)), h') ∧ BdG i 114 f (numB b (X : Int)) h' ∧ KeptB h.next.nat i i h h') (fun h' a b => ⟨h', rfl, a, b⟩)
  intro Q hQ
  have kb := (KeptB.refl i i h).alloc (.cells [.int .i64 0, .int .i64 0] 65)
  have G1 := G.alloc (.cells [.int .i64 0, .int .i64 0] 65)
  have lt0 := G.lt
  clear G
  conv => arg 1; whnf
  refine atCall_P (alloc_new (z := .agg [.int .i64 0, .int .i64 0]) (cs := [.int .i64 0, .int .i64 0]) (by kernel_rfl) rfl rfl) ?_
  generalize hh_h1 : h.alloc (.cells [.int .i64 0, .int .i64 0] 65) = h1 at *
  obtain ⟨a_i4, n_i4, k_h1⟩ := alloc_facts hh_h1
  clear hh_h1 k_h1
  generalize hi_i4 : h.next = i4 at *
  clear hi_i4
  have o4 : i.nat < i4.nat := lt0
  have l4 : i4.nat < h1.next.nat := by omega
  have ne4 : i4 ≠ i := fun e => by have := congrArg Sk.Id.nat e; omega
  have hob : ∀ n, AO.cells [.int .i64 0, .int .i64 0] 65 ≠ .grp n := fun n => nofun
  have fin : ∀ (h7 : AH) (b7 : Bd), BdG i 114 f b7 h7 → h7.get i4 = some (.cells [.int .i64 0, .int .i64 0] 65) → KeptB i4.nat i i h h7 → b7 = numB b (X : Int) →
      ∃ h8, hOf (aStore Tryz.prog 65 (.ptr i4 0) (portV ((b.cells.length : Int), 0)) h7) = some (.ret undefA, h8) ∧ aLoad Tryz.prog 65 (.ptr i4 0) h8 = some (portV ((b.cells.length : Int), 0)) ∧ Q (some (.ret (portV ((b.cells.length : Int), 0)), h8)) := fun h7 b7 G7 g7 k7 eb => by
    subst eb
    refine ⟨h7.set i4 (.cells [.int .i64 (b.cells.length : Int), .int .i64 0] 65), st_ptr (n := 2) g7 (by kernel_rfl) rfl (by simp) rfl, ld_val (ld_agg (r := i4) (off := 0) (cs := [.int .i64 (b.cells.length : Int), .int .i64 0]) (T := 65) (n := 2) (by rw [AH.get_set, if_pos rfl]) (by kernel_rfl) (by kernel_rfl) (by simp)), hQ _ (G7.set _ (notGrp g7) ne4) (k7.set _ (.inl (Nat.le_refl _)))⟩
  conv => arg 1; whnf
  cases e1 : ((X : Int) == 0)
  · have h0 : ¬ X = 0 := by simpa using e1
    obtain ⟨h2, q1, q2, q3⟩ := c1 f 1 _ h1 G1 (by omega)
    have bG := q3.1 _ _ a_i4 hob l4 ne4 ne4
    have l42 : i4.nat < h2.next.nat := Nat.lt_of_lt_of_le l4 q3.2
    conv => arg 1; whnf
    conv => arg 1; whnf
    refine atCall_P (q1) ?_
    conv => arg 1; whnf
    refine lRn (b := b) (f := f) (X := X) (n0 := i4.nat) (gg := h) (i4 := i4) (ob := .cells [.int .i64 0, .int .i64 0] 65) call rgn n c1 c2 (by omega) (by omega) (by omega) o4 hob rfl rfl ?_ n 1 (z := 1) rfl (by omega) (by omega) (by omega) (by omega) (by simpa [numW] using q2) bG l42 (kb.trans1 q3)
    intro h3 y g1 g2 g3 g7 g8 g9 aA aB aC aD aE aF aG aH aI aJ aK aL aM aN aO aP aQ aR aS aT aU aV aW aX aY aZ bA bB bC bD bE bF hy G3 bH l43 kb3
    obtain ⟨h5, r1, r2, r3⟩ := c1 f 0 _ h3 G3 (by simp; omega)
    simp only [List.length_append, List.length_replicate] at r1
    have bJ := r3.1 _ _ bH hob l43 ne4 ne4
    have l45 : i4.nat < h5.next.nat := Nat.lt_of_lt_of_le l43 r3.2
    obtain ⟨h6, w1, w2, w3⟩ := c2 f (y, 1) (((b.cells.length + X : Nat) : Int), 0) _ h5 r2 (by simp [numW]; omega)
    have bK := w3.1 _ _ bJ hob l45 ne4 ne4
    obtain ⟨h8, s1, s2, s3⟩ := fin h6 _ w2 bK ((kb3.trans1 r3).trans1 w3) (by
      simp only [numB, Int.toNat_natCast, List.append_assoc, Bd.mk.injEq, true_and]
      congr 1
      rw [numW_last b.cells.length (k := X) (by omega) (a := y) (d := ((b.cells.length + X : Nat) : Int)) (by omega) rfl]; rfl)
    conv => arg 1; whnf
    refine atCall_P (r1) ?_
    conv => arg 1; whnf
    conv => arg 1; whnf
    refine atCall_P (w1) ?_
    conv => arg 1; whnf
    refine atCall_P (s1) ?_
    conv => arg 1; whnf
    refine atLeave_P (leave_plain (.inl rfl) (l := [portV ((b.cells.length : Int), 0)]) ?_) s3
    show (match aLoad Tryz.prog 65 (.ptr i4 0) h8, some ([] : List AV) with | some v, some l => some (v :: l) | _, _ => none) = _
    rw [s2]
  · have h0 : X = 0 := by simpa using e1
    subst h0
    obtain ⟨h2, q1, q2, q3⟩ := c1 f 0 _ h1 G1 (by omega)
    have bG := q3.1 _ _ a_i4 hob l4 ne4 ne4
    obtain ⟨h8, s1, s2, s3⟩ := fin h2 _ q2 bG (kb.trans1 q3) (by simp [numB, numW])
    conv => arg 1; whnf
    conv => arg 1; whnf
    refine atCall_P (q1) ?_
    conv => arg 1; whnf
    refine atCall_P (s1) ?_
    conv => arg 1; whnf
    refine atLeave_P (leave_plain (.inl rfl) (l := [portV ((b.cells.length : Int), 0)]) ?_) s3
    show (match aLoad Tryz.prog 65 (.ptr i4 0) h8, some ([] : List AV) with | some v, some l => some (v :: l) | _, _ => none) = _
    rw [s2]
end
section
variable {i : Sk.Id} {f : Int} {t : List Int} {x0 : AV}

def hRt (i : Sk.Id) (f : Int) (x0 : AV) (t : List Int) (m : Nat) (call : CallT) : Prop := ∀ (k : Nat) (kk : Int) b h b' p j, kk = k → BdG i 114 f b h → bdF t m k b = some (b', p, j) → b'.cells.length ≤ 5000 → b'.wires.length ≤ 50000 →
  ∃ h', call (.func 82) [.ptr i 0, x0, .int .i64 kk] h = some (.ret (.tup [portV p, .int .i64 (j : Int)]), h') ∧ BdG i 114 f b' h' ∧ KeptB h.next.nat i i h h'
def hRn (i : Sk.Id) (f : Int) (call : CallT) : Prop := ∀ (b : Bd) (X : Nat) (xx : Int) h, xx = X → BdG i 114 f b h → b.cells.length + X + 1 ≤ 5000 → b.wires.length ≤ 50000 →
  ∃ h', call (.func 110) [.ptr i 0, .int .i64 xx] h = some (.ret (portV ((b.cells.length : Int), 0)), h') ∧ BdG i 114 f (numB b (X : Int)) h' ∧ KeptB h.next.nat i i h h'

theorem bRt (call rgn n) (hx : IsL x0 (t.map intV)) (ht : ∀ x ∈ t, -2 ≤ x) (ht5 : t.length ≤ 100000) (c1 : hRc i call) (c2 : hRw i call) (c3 : hRn i f call) (m : Nat) (hB : hRt i f x0 t m call)
    (k : Nat) (b : Bd) (h : AH) (b' : Bd) (p : Pt) (j : Nat) (G : BdG i 114 f b h) (hF : bdF t (m + 1) k b = some (b', p, j)) (hbc : b'.cells.length ≤ 5000) (hbw : b'.wires.length ≤ 50000) :
    ∃ h', B shT call rgn n 82 Tryz.f82 [.ptr i 0, x0, .int .i64 (k : Int)] h = some (.ret (.tup [portV p, .int .i64 (j : Int)]), h') ∧ BdG i 114 f b' h' ∧ KeptB h.next.nat i i h h' := by
  suffices hq : ∀ Q : Option (AOut × AH) → Prop, (∀ h', BdG i 114 f b' h' → KeptB h.next.nat i i h h' → Q (some (.ret (.tup [portV p, .int .i64 (j : Int)]), h'))) → Q (B shT call rgn n 82 Tryz.f82 [.ptr i 0, x0, .int .i64 (k : Int)] h) from
    hq (fun y => ∃ h', y = some (.ret (.tup [portV p, .int .i64 (j : Int)]), h') ∧ BdG i 114 f b' h' ∧ KeptB h.next.nat i i h h') (fun h' a b => ⟨h', rfl, a, b⟩)
  intro Q hQ
  have hm := bd_mono ht hF
  simp only [bdF] at hF
  cases e0 : t[k]? with
  | none => rw [e0] at hF; cases hF
  | some x =>
  rw [e0] at hF
  simp only at hF
  have hlt : k < t.length := (List.getElem?_eq_some_iff.1 e0).1
  have hxm : -2 ≤ x := ht x (List.mem_of_getElem? e0)
  have kb := (KeptB.refl i i h).alloc (.cells [.int .i64 0, .int .i64 0] 65)
  have G1 := G.alloc (.cells [.int .i64 0, .int .i64 0] 65)
  have lt0 := G.lt
  clear G
  conv => arg 1; whnf
  refine atCall_P (alloc_new (z := .agg [.int .i64 0, .int .i64 0]) (cs := [.int .i64 0, .int .i64 0]) (by kernel_rfl) rfl rfl) ?_
  generalize hh_h1 : h.alloc (.cells [.int .i64 0, .int .i64 0] 65) = h1 at *
  obtain ⟨a_i6, n_i6, k_h1⟩ := alloc_facts hh_h1
  clear hh_h1 k_h1
  generalize hi_i6 : h.next = i6 at *
  clear hi_i6
  have o6 : i.nat < i6.nat := lt0
  have l6 : i6.nat < h1.next.nat := by omega
  have ne6 : i6 ≠ i := fun e => by have := congrArg Sk.Id.nat e; omega
  have hob : ∀ n, AO.cells [.int .i64 0, .int .i64 0] 65 ≠ .grp n := fun n => nofun
  have fin : ∀ (h7 : AH) (b7 : Bd) (q : Pt) (j7 : Nat), BdG i 114 f b7 h7 → h7.get i6 = some (.cells [.int .i64 0, .int .i64 0] 65) → KeptB i6.nat i i h h7 → b7 = b' → q = p → j7 = j →
      ∃ h8, hOf (aStore Tryz.prog 65 (.ptr i6 0) (portV q) h7) = some (.ret undefA, h8) ∧ aLoad Tryz.prog 65 (.ptr i6 0) h8 = some (portV q) ∧ Q (some (.ret (.tup [portV q, .int .i64 (j7 : Int)]), h8)) := fun h7 b7 q j7 G7 g7 k7 eb eq ej => by
    subst eb; subst eq; subst ej
    obtain ⟨q0, q1⟩ := q
    refine ⟨h7.set i6 (.cells [.int .i64 q0, .int .i64 q1] 65), st_ptr (n := 2) g7 (by kernel_rfl) rfl (by simp) rfl, ld_val (ld_agg (r := i6) (off := 0) (cs := [.int .i64 q0, .int .i64 q1]) (T := 65) (n := 2) (by rw [AH.get_set, if_pos rfl]) (by kernel_rfl) (by kernel_rfl) (by simp)), hQ _ (G7.set _ (notGrp g7) ne6) (k7.set _ (.inl (Nat.le_refl _)))⟩
  have idx : ∀ h, vOf h (aIndexAddr Tryz.prog 40 x0 (.int .i64 (k : Int))) = some (.ret (.ref (.int .i64 x)), h) := fun h => by
    obtain ⟨y, y1, y2⟩ := idx_ints (h := h) (a := (k : Int)) hx (by omega) (by omega)
    rw [Int.toNat_natCast, e0, Option.some.injEq] at y1
    subst y1; exact y2
  have hw1 : IntKind.i64.wrap ((k : Int) + 1) = ((k + 1 : Nat) : Int) := wrap_succ (by omega)
  conv => arg 1; whnf
  refine atCall_P (idx h1) ?_
  conv => arg 1; whnf
  cases e1 : decide (x ≥ 0)
  · -- a sum, a product
    have hx0 : x < 0 := by simp at e1; omega
    rw [if_pos hx0] at hF
    cases ea : bdF t m (k + 1) ⟨b.cells ++ [1 - x], b.wires⟩ with
    | none => rw [ea] at hF; cases hF
    | some y1 =>
    obtain ⟨b1, p1, j1⟩ := y1
    rw [ea] at hF
    simp only at hF
    cases eb : bdF t m j1 ⟨b1.cells, b1.wires ++ [mkW ((b.cells.length : Int), 0) p1]⟩ with
    | none => rw [eb] at hF; cases hF
    | some y2 =>
    obtain ⟨b2, p2, j2⟩ := y2
    rw [eb] at hF
    simp only [Option.some.injEq, Prod.mk.injEq] at hF
    obtain ⟨rfl, rfl, rfl⟩ := hF
    obtain ⟨ma1, ma2, ma3⟩ := bd_mono ht ea
    obtain ⟨mb1, mb2, mb3⟩ := bd_mono ht eb
    simp only [List.length_append, List.length_cons, List.length_nil] at ma1 ma2 mb1 mb2 hbc hbw hm
    obtain ⟨h3, q1, G3, q4⟩ := c1 f (1 - x) _ h1 G1 (by omega)
    have cB := q4.1 _ _ a_i6 hob l6 ne6 ne6
    have l63 : i6.nat < h3.next.nat := Nat.lt_of_lt_of_le l6 q4.2
    have kb3 := kb.trans1 q4
    obtain ⟨h4, r1, G4, r3⟩ := hB (k + 1) (IntKind.i64.wrap ((k : Int) + 1)) _ h3 b1 p1 j1 hw1 G3 ea (by omega) (by omega)
    have cC := r3.1 _ _ cB hob l63 ne6 ne6
    have l64 : i6.nat < h4.next.nat := Nat.lt_of_lt_of_le l63 r3.2
    have kb4 := kb3.trans1 r3
    obtain ⟨p10, p11⟩ := p1
    obtain ⟨p20, p21⟩ := p2
    -- the cell's number: by the kind of term
    have hsel : (x = -1 ∧ 1 - x = 2) ∨ (x = -2 ∧ 1 - x = 3) := by omega
    conv => arg 1; whnf
    conv => arg 1; whnf
    refine atCall_P (idx h1) ?_
    conv => arg 1; whnf
    rcases hsel with ⟨rfl, hc1⟩ | ⟨rfl, hc1⟩
    all_goals
      simp only [hc1] at q1
      conv => arg 1; whnf
      conv => arg 1; whnf
      refine atCall_P (q1) ?_
      conv => arg 1; whnf
      conv => arg 1; whnf
      refine atCall_P (r1) ?_
      conv => arg 1; whnf
      have G5 := G4.alloc (.cells [.int .i64 0, .int .i64 0] 65)
      have kb5 := kb4.alloc (.cells [.int .i64 0, .int .i64 0] 65)
      conv => arg 1; whnf
      refine atCall_P (alloc_new (z := .agg [.int .i64 0, .int .i64 0]) (cs := [.int .i64 0, .int .i64 0]) (by kernel_rfl) rfl rfl) ?_
      generalize hh_h5 : h4.alloc (.cells [.int .i64 0, .int .i64 0] 65) = h5 at *
      obtain ⟨a_i10, n_i10, k_h5⟩ := alloc_facts hh_h5
      replace cC := k_h5 _ _ cC (by omega)
      clear hh_h5 k_h5
      generalize hi_i10 : h4.next = i10 at *
      clear hi_i10
      have st10 : hOf (aStore Tryz.prog 65 (.ptr i10 0) (portV (p10, p11)) h5) = some (.ret undefA, h5.set i10 (.cells [.int .i64 p10, .int .i64 p11] 65)) := st_ptr (n := 2) a_i10 (by kernel_rfl) rfl (by simp) rfl
      have G6 := G5.set (.cells [.int .i64 p10, .int .i64 p11] 65) (notGrp a_i10) (fun e => by have := congrArg Sk.Id.nat e; omega)
      have kb6 := kb5.set (i := i10) (.cells [.int .i64 p10, .int .i64 p11] 65) (.inl (by omega))
      conv => arg 1; whnf
      refine atCall_P (st10) ?_
      clear st10 G5 kb5
      generalize hh_h6 : h5.set i10 (.cells [.int .i64 p10, .int .i64 p11] 65) = h6 at *
      obtain ⟨b_i10, n_h6, k_h6⟩ := set_facts hh_h6
      replace cC := k_h6 _ _ cC (by rintro rfl; omega)
      clear hh_h6 k_h6
      replace n_h6 : h6.next.nat = h5.next.nat := congrArg Id.nat n_h6
      have l10 : vOf h6 (aLoad Tryz.prog 65 (.ptr i10 0) h6) = some (.ret (portV (p10, p11)), h6) := ld_agg (n := 2) b_i10 (by kernel_rfl) (by kernel_rfl) (by simp)
      obtain ⟨h7, w1, G7, w3⟩ := c2 f ((b.cells.length : Int), 0) (p10, p11) _ h6 G6 (by omega)
      have cF := w3.1 _ _ cC hob (by omega) ne6 ne6
      have l67 : i6.nat < h7.next.nat := by have := w3.2; omega
      have kb7 := kb6.trans1 w3
      obtain ⟨h8, r1', G8, r3'⟩ := hB j1 (j1 : Int) _ h7 b2 (p20, p21) j2 rfl G7 eb (by omega) (by omega)
      have cG := r3'.1 _ _ cF hob l67 ne6 ne6
      have l68 : i6.nat < h8.next.nat := Nat.lt_of_lt_of_le l67 r3'.2
      have kb8 := kb7.trans1 r3'
      conv => arg 1; whnf
      conv => arg 1; whnf
      refine atCall_P (l10) ?_
      conv => arg 1; whnf
      refine atCall_P (w1) ?_
      conv => arg 1; whnf
      conv => arg 1; whnf
      refine atCall_P (r1') ?_
      conv => arg 1; whnf
      have G9 := G8.alloc (.cells [.int .i64 0, .int .i64 0] 65)
      have kb9 := kb8.alloc (.cells [.int .i64 0, .int .i64 0] 65)
      conv => arg 1; whnf
      refine atCall_P (alloc_new (z := .agg [.int .i64 0, .int .i64 0]) (cs := [.int .i64 0, .int .i64 0]) (by kernel_rfl) rfl rfl) ?_
      generalize hh_h9 : h8.alloc (.cells [.int .i64 0, .int .i64 0] 65) = h9 at *
      obtain ⟨a_i12, n_i12, k_h9⟩ := alloc_facts hh_h9
      replace cG := k_h9 _ _ cG (by omega)
      clear hh_h9 k_h9
      generalize hi_i12 : h8.next = i12 at *
      clear hi_i12
      have st12 : hOf (aStore Tryz.prog 65 (.ptr i12 0) (portV (p20, p21)) h9) = some (.ret undefA, h9.set i12 (.cells [.int .i64 p20, .int .i64 p21] 65)) := st_ptr (n := 2) a_i12 (by kernel_rfl) rfl (by simp) rfl
      have G10 := G9.set (.cells [.int .i64 p20, .int .i64 p21] 65) (notGrp a_i12) (fun e => by have := congrArg Sk.Id.nat e; omega)
      have kb10 := kb9.set (i := i12) (.cells [.int .i64 p20, .int .i64 p21] 65) (.inl (by omega))
      conv => arg 1; whnf
      refine atCall_P (st12) ?_
      clear st12 G9 kb9
      generalize hh_h10 : h9.set i12 (.cells [.int .i64 p20, .int .i64 p21] 65) = h10 at *
      obtain ⟨b_i12, n_h10, k_h10⟩ := set_facts hh_h10
      replace cG := k_h10 _ _ cG (by rintro rfl; omega)
      clear hh_h10 k_h10
      replace n_h10 : h10.next.nat = h9.next.nat := congrArg Id.nat n_h10
      have l12 : vOf h10 (aLoad Tryz.prog 65 (.ptr i12 0) h10) = some (.ret (portV (p20, p21)), h10) := ld_agg (n := 2) b_i12 (by kernel_rfl) (by kernel_rfl) (by simp)
      obtain ⟨h11, v1, G11, v3⟩ := c2 f ((b.cells.length : Int), 1) (p20, p21) _ h10 G10 (by omega)
      have g611 := v3.1 _ _ cG hob (by omega) ne6 ne6
      have kb11 := kb10.trans1 v3
      obtain ⟨h12, s1, s2, s3⟩ := fin h11 _ ((b.cells.length : Int), 2) j2 G11 g611 kb11 rfl rfl rfl
      conv => arg 1; whnf
      refine atCall_P (l12) ?_
      conv => arg 1; whnf
      refine atCall_P (v1) ?_
      conv => arg 1; whnf
      conv => arg 1; whnf
      refine atCall_P (s1) ?_
      conv => arg 1; whnf
      refine atLeave_P (leave_plain (.inl rfl) (l := [portV ((b.cells.length : Int), 2), .int .i64 (j2 : Int)]) ?_) s3
      show (match aLoad Tryz.prog 65 (.ptr i6 0) h12, some [AV.int .i64 (j2 : Int)] with | some v, some l => some (v :: l) | _, _ => none) = _
      rw [s2]
  · -- a number
    have hx0 : ¬ x < 0 := by simp at e1; omega
    rw [if_neg hx0] at hF
    simp only [Option.some.injEq, Prod.mk.injEq] at hF
    obtain ⟨rfl, rfl, rfl⟩ := hF
    simp only [numB, List.length_append, List.length_replicate, List.length_cons, List.length_nil] at hbc hbw hm
    obtain ⟨h2, q1, q2, q3⟩ := c3 b x.toNat x h1 (by omega) G1 (by omega) (by omega)
    rw [show ((x.toNat : Nat) : Int) = x by omega] at q2
    have cA := q3.1 _ _ a_i6 hob l6 ne6 ne6
    obtain ⟨h8, s1, s2, s3⟩ := fin h2 _ ((b.cells.length : Int), 0) (k + 1) q2 cA (kb.trans1 q3) rfl rfl rfl
    conv => arg 1; whnf
    conv => arg 1; whnf
    refine atCall_P (idx h1) ?_
    conv => arg 1; whnf
    refine atCall_P (q1) ?_
    conv => arg 1; whnf
    refine atCall_P (s1) ?_
    conv => arg 1; whnf
    rw [hw1]
    refine atLeave_P (leave_plain (.inl rfl) (l := [portV ((b.cells.length : Int), 0), .int .i64 ((k + 1 : Nat) : Int)]) ?_) s3
    show (match aLoad Tryz.prog 65 (.ptr i6 0) h8, some [AV.int .i64 ((k + 1 : Nat) : Int)] with | some v, some l => some (v :: l) | _, _ => none) = _
    rw [s2]
end
section
variable {t : List Int} {x : AV}

theorem lSr (call rgn n) (hx : IsL x (t.map intV)) {L : Nat} (hL : t.length = L) (hL8 : L ≤ 100000) {i2 : Sk.Id} (res : Bool) {h : AH} (g2 : h.get i2 = some (.cells [.nilsl, .int .i64 0, .nilsl] 43)) {K : KC (AOut × AH)} {Q : Option (AOut × AH) → Prop}
    (hR : res = false → ∀ {h' : AH} {g0 g1 g4 g5 g6 g7 g8 g9 aA aB aC aD aE aF aG aH aI aJ aK aL aM aN aO aP aQ aR aS aT aU aV aW aX aY aZ bA bB bC bD bE bF bG bH bI bJ bK bL bM bN bO bP bQ bR bS bT bU bV : AV}, h'.get i2 = some (.cells [.nilsl, .int .i64 0, .nilsl] 43) → Q (K .ret ⟨[g0,g1,.ptr i2 0,.int .i64 15,g4,g5,g6,g7,g8,g9,aA,aB,aC,aD,aE,aF,aG,aH,aI,aJ,aK,aL,aM,aN,aO,aP,aQ,aR,aS,aT,aU,aV,aW,aX,aY,aZ,bA,bB,bC,bD,bE,bF,bG,bH,bI,bJ,bK,bL,bM,bN,bO,bP,bQ,bR,bS,bT,bU,bV], [], h'⟩))
    (hK : res = true → ∀ {g1 g3 g4 g5 g6 g7 g8 g9 aA aB aC aD aE aF aG aH aI aJ aK aL aM aN aO aP aQ aR aS aT aU aV aW aX aY aZ bA bB bC bD bE bF bG bH bI bJ bK bL bM bN bO bP bQ bR bS bT bU bV : AV}, Q (K (.exit 0) ⟨[x,g1,.ptr i2 0,g3,g4,g5,g6,g7,g8,g9,aA,aB,aC,aD,aE,aF,aG,aH,aI,aJ,aK,aL,aM,aN,aO,aP,aQ,aR,aS,aT,aU,aV,aW,aX,aY,aZ,bA,bB,bC,bD,bE,bF,bG,bH,bI,bJ,bK,bL,bM,bN,bO,bP,bQ,bR,bS,bT,bU,bV], [], h⟩)) :
    ∀ (m i c : Nat) {z y : Int} {g1 g3 g6 g7 g8 g9 aA aB aC aD aE aF aG aH aI aJ aK aL aM aN aO aP aQ aR aS aT aU aV aW aX aY aZ bA bB bC bD bE bF bG bH bI bJ bK bL bM bN bO bP bQ bR bS bT bU bV : AV}, z = i → y = c → i ≤ L → L - i < m → c ≤ 4096 → decide (c + sizeT' (t.drop i) ≤ 4096) = res →
    Q (cIter (LB shT call rgn n 33 Tryz.f33 0) m ⟨[x,g1,.ptr i2 0,g3,.int .i64 y,.int .i64 z,g6,g7,g8,g9,aA,aB,aC,aD,aE,aF,aG,aH,aI,aJ,aK,aL,aM,aN,aO,aP,aQ,aR,aS,aT,aU,aV,aW,aX,aY,aZ,bA,bB,bC,bD,bE,bF,bG,bH,bI,bJ,bK,bL,bM,bN,bO,bP,bQ,bR,bS,bT,bU,bV], [], h⟩ K) := by
  have u : Tryz.prog.underlying 40 = some (.slice 3) := by kernel_rfl
  have hlx := fun h => len_L (X := ⟨Tryz.prog, mu0, call⟩) (mu := false) (h := h) u hx
  rw [List.length_map, hL] at hlx
  intro m
  induction m with
  | zero => intros; omega
  | succ m ih =>
    intro i c z y g1 g3 g6 g7 g8 g9 aA aB aC aD aE aF aG aH aI aJ aK aL aM aN aO aP aQ aR aS aT aU aV aW aX aY aZ bA bB bC bD bE bF bG bH bI bJ bK bL bM bN bO bP bQ bR bS bT bU bV hz hy hi hm hc hF
    rw [cIter_succ]
    conv => arg 1; whnf
    refine atCall_P (hlx h) ?_
    conv => arg 1; whnf
    split
    · rename_i hd
      have hlt : i < t.length := by simp at hd; omega
      have hdrop : t.drop i = t[i] :: t.drop (i + 1) := List.drop_eq_getElem_cons hlt
      obtain ⟨y0, y1, y2⟩ := idx_ints (h := h) (a := z) hx (by omega) (by omega)
      rw [show z.toNat = i by omega, List.getElem?_eq_getElem hlt, Option.some.injEq] at y1
      rw [hdrop, y1] at hF
      simp only [sizeT'] at hF
      have hz' : IntKind.i64.wrap (z + 1) = ((i + 1 : Nat) : Int) := by rw [hz]; exact wrap_succ (by omega)
      have st : hOf (aStore Tryz.prog 43 (.ptr i2 0) (.agg [.nilsl, .int .i64 0, .nilsl]) h) = some (.ret undefA, h.set i2 (.cells [.nilsl, .int .i64 0, .nilsl] 43)) := st_ptr (n := 3) g2 (by kernel_rfl) rfl (by simp) rfl
      have gs : (h.set i2 (.cells [.nilsl, .int .i64 0, .nilsl] 43)).get i2 = some (.cells [.nilsl, .int .i64 0, .nilsl] 43) := by rw [AH.get_set, if_pos rfl]
      conv => arg 1; whnf
      refine atCall_P (y2) ?_
      conv => arg 1; whnf
      cases e1 : decide (y0 > 4096)
      · have h1 : ¬ y0 > 4096 := by simpa using e1
        conv => arg 1; whnf
        conv => arg 1; whnf
        refine atCall_P (y2) ?_
        conv => arg 1; whnf
        have hmx : (if 0 > y0 then (0 : Int) else y0) = ((y0.toNat : Nat) : Int) := by split <;> omega
        have hw : IntKind.i64.wrap (IntKind.i64.wrap (y + 1) + if 0 > y0 then 0 else y0) = ((c + (1 + y0.toNat) : Nat) : Int) := by
          rw [hmx, wrap_small (a := y + 1) (by omega) (by omega), wrap_small (by omega) (by omega)]; omega
        rw [hw]
        cases e2 : decide (((c + (1 + y0.toNat) : Nat) : Int) > 4096)
        · have h2 : ¬ ((c + (1 + y0.toNat) : Nat) : Int) > 4096 := by simpa using e2
          conv => arg 1; whnf
          exact ih (i + 1) (c + (1 + y0.toNat)) hz' rfl (by omega) (by omega) (by omega) (by rw [← hF]; congr 1; rw [eq_iff_iff]; omega)
        · have h2 : ((c + (1 + y0.toNat) : Nat) : Int) > 4096 := by simpa using e2
          conv => arg 1; whnf
          conv => arg 1; whnf
          refine atCall_P (st) ?_
          conv => arg 1; whnf
          exact hR (by rw [← hF]; exact decide_eq_false (by omega)) gs
      · have h1 : y0 > 4096 := by simpa using e1
        conv => arg 1; whnf
        conv => arg 1; whnf
        refine atCall_P (st) ?_
        conv => arg 1; whnf
        exact hR (by rw [← hF]; exact decide_eq_false (by omega)) gs
    · rename_i hd
      have hlt : ¬ i < L := by simp at hd; omega
      refine hK ?_
      rw [← hF, List.drop_eq_nil_of_le (by omega)]
      exact (decide_eq_true (by simp only [sizeT']; omega)).symm.symm

def unaryR (t : List Int) : AV := if tfF t 1 = false then .tup [zNet, .int .i64 62] else if 4096 < sizeT' t then .tup [zNet, .int .i64 15] else .tup [netC (tidyN sigU (netT t)), .int .i64 0]

theorem bRN (call rgn n) (hx : IsL x (t.map intV)) (hL8 : t.length ≤ 100000) (hn : t.length + 1 < n) (hGd : ∀ h, call (.func 81) [x] h = some (.ret (.bool (tfF t 1)), h))
    (hT : ∀ i f, (∀ x ∈ t, -2 ≤ x) → hRt i f x t (t.length + 1) call) (c2 : ∀ i, hRw i call) (hSR : ∀ h, call (.func 72) [] h = some (.ret sigUV, h)) (hNe : hNe call) (hrg : ∀ id ops st, rgn id ops st = drawn ⟨Tryz.prog, mu0, call⟩ 33 ops st) (h : AH) :
    ∃ h', B shT call rgn n 33 Tryz.f33 [x] h = some (.ret (unaryR t), h') := by
  suffices hq : ∀ Q : Option (AOut × AH) → Prop, ¬ Q none → (∀ v h', v = unaryR t → Q (some (.ret v, h'))) → Q (B shT call rgn n 33 Tryz.f33 [x] h) from
    hq (fun y => ∃ h', y = some (.ret (unaryR t), h')) (by rintro ⟨h, he⟩; cases he) (fun v h' e => ⟨h', by rw [e]⟩)
  intro Q hN hQ
  conv => arg 1; whnf
  refine atCall_P (alloc_new (z := .agg [.nilsl, .int .i64 0, .nilsl]) (cs := [.nilsl, .int .i64 0, .nilsl]) (by kernel_rfl) rfl rfl) ?_
  generalize hh_h1 : h.alloc (.cells [.nilsl, .int .i64 0, .nilsl] 43) = h1 at *
  obtain ⟨a_i2, n_i2, k_h1⟩ := alloc_facts hh_h1
  clear hh_h1 k_h1
  generalize hi_i2 : h.next = i2 at *
  clear hi_i2
  have zend : ∀ (h' : AH) (e : Int), h'.get i2 = some (.cells [.nilsl, .int .i64 0, .nilsl] 43) → aLoad Tryz.prog 43 (.ptr i2 0) h' = some zNet := fun h' e g => ld_val (ld_agg (n := 3) g (by kernel_rfl) (by kernel_rfl) (by simp))
  conv => arg 1; whnf
  refine atCall_P (hGd h1) ?_
  conv => arg 1; whnf
  cases e1 : tfF t 1
  · have st : hOf (aStore Tryz.prog 43 (.ptr i2 0) (.agg [.nilsl, .int .i64 0, .nilsl]) h1) = some (.ret undefA, h1.set i2 (.cells [.nilsl, .int .i64 0, .nilsl] 43)) := st_ptr (n := 3) a_i2 (by kernel_rfl) rfl (by simp) rfl
    conv => arg 1; whnf
    conv => arg 1; whnf
    refine atCall_P (st) ?_
    conv => arg 1; whnf
    refine atLeave_P (leave_plain (.inl rfl) (l := [zNet, .int .i64 62]) ?_) (hQ _ _ (by unfold unaryR; rw [if_pos e1]; rfl))
    show (match aLoad Tryz.prog 43 (.ptr i2 0) _, some [AV.int .i64 62] with | some v, some l => some (v :: l) | _, _ => none) = _
    rw [zend _ 0 (by rw [AH.get_set, if_pos rfl])]
  conv => arg 1; whnf
  refine lSr (i2 := i2) call rgn n hx rfl hL8 (decide (0 + sizeT' (t.drop 0) ≤ 4096)) a_i2 ?_ ?_ n 0 0 (z := 0) (y := 0) rfl rfl (Nat.zero_le _) (by omega) (by omega) rfl
  · intro hb h' g0 g1 g4 g5 g6 g7 g8 g9 aA aB aC aD aE aF aG aH aI aJ aK aL aM aN aO aP aQ aR aS aT aU aV aW aX aY aZ bA bB bC bD bE bF bG bH bI bJ bK bL bM bN bO bP bQ bR bS bT bU bV g2
    have hs : ¬ 0 + sizeT' (t.drop 0) ≤ 4096 := by simpa using hb
    rw [List.drop_zero] at hs
    refine atLeave_P (leave_plain (.inl rfl) (l := [zNet, .int .i64 15]) ?_) (hQ _ _ (by unfold unaryR; rw [if_neg (by rw [e1]; simp), if_pos (by omega)]; rfl))
    show (match aLoad Tryz.prog 43 (.ptr i2 0) _, some [AV.int .i64 15] with | some v, some l => some (v :: l) | _, _ => none) = _
    rw [zend _ 0 g2]
  intro hb g1 g3 g4 g5 g6 g7 g8 g9 aA aB aC aD aE aF aG aH aI aJ aK aL aM aN aO aP aQ aR aS aT aU aV aW aX aY aZ bA bB bC bD bE bF bG bH bI bJ bK bL bM bN bO bP bQ bR bS bT bU bV
  have hs : 0 + sizeT' (t.drop 0) ≤ 4096 := by simpa using hb
  rw [List.drop_zero] at hs
  obtain ⟨b, p, t1, t2, t3, t4⟩ := term_good e1 (show sizeT' t ≤ 4096 by omega)
  have hlow := tf_low t 1 e1
  have hnt : netT t = bdNt b p := by unfold netT; rw [t1]
  have hv : unaryR t = .tup [netC (tidyN sigU (bdNt b p)), .int .i64 0] := by unfold unaryR; rw [if_neg (by rw [e1]; simp), if_neg (by omega), hnt]
  conv => arg 1; whnf
  conv => arg 1; whnf
  refine atCall_P (box_new (cs := [.nilsl, .int .i64 0, .nilsl]) rfl rfl) ?_
  generalize hh_h2 : h1.alloc (.cells [.nilsl, .int .i64 0, .nilsl] 114) = h2 at *
  obtain ⟨a_i6, n_i6, k_h2⟩ := alloc_facts hh_h2
  replace a_i2 := k_h2 _ _ a_i2 (by omega)
  clear hh_h2 k_h2
  generalize hi_i6 : h1.next = i6 at *
  clear hi_i6
  have hob : ∀ n, AO.cells [.nilsl, .int .i64 0, .nilsl] 43 ≠ .grp n := fun n => nofun
  have ne2 : i2 ≠ i6 := fun e => by have := congrArg Sk.Id.nat e; omega
  have lt2 : i2.nat < h2.next.nat := by omega
  have G : BdG i6 114 0 ⟨[], []⟩ h2 := ⟨⟨_, _, a_i6, .inl (.inl ⟨rfl, rfl⟩), .inl (.inl ⟨rfl, rfl⟩), fun g hg => by cases hg⟩, by omega⟩
  obtain ⟨h3, r1, G3, r3⟩ := hT i6 0 hlow 0 0 ⟨[], []⟩ h2 b p t.length rfl G t1 (by omega) (by omega)
  have g2 := r3.1 _ _ a_i2 hob lt2 ne2 ne2
  have lt3 : i2.nat < h3.next.nat := Nat.lt_of_lt_of_le lt2 r3.2
  obtain ⟨p0, p1⟩ := p
  conv => arg 1; whnf
  refine atCall_P (r1) ?_
  conv => arg 1; whnf
  have G4 := G3.alloc (.cells [.int .i64 0, .int .i64 0] 65)
  have lt6 := G3.lt
  clear a_i6 a_i2 G G3
  conv => arg 1; whnf
  refine atCall_P (alloc_new (z := .agg [.int .i64 0, .int .i64 0]) (cs := [.int .i64 0, .int .i64 0]) (by kernel_rfl) rfl rfl) ?_
  generalize hh_h4 : h3.alloc (.cells [.int .i64 0, .int .i64 0] 65) = h4 at *
  obtain ⟨a_i7, n_i7, k_h4⟩ := alloc_facts hh_h4
  replace g2 := k_h4 _ _ g2 (by omega)
  clear hh_h4 k_h4
  generalize hi_i7 : h3.next = i7 at *
  clear hi_i7
  have st7 : hOf (aStore Tryz.prog 65 (.ptr i7 0) (portV (p0, p1)) h4) = some (.ret undefA, h4.set i7 (.cells [.int .i64 p0, .int .i64 p1] 65)) := st_ptr (n := 2) a_i7 (by kernel_rfl) rfl (by simp) rfl
  have G5 := G4.set (.cells [.int .i64 p0, .int .i64 p1] 65) (notGrp a_i7) (fun e => by have := congrArg Sk.Id.nat e; omega)
  conv => arg 1; whnf
  refine atCall_P (st7) ?_
  clear st7 G4
  generalize hh_h5 : h4.set i7 (.cells [.int .i64 p0, .int .i64 p1] 65) = h5 at *
  obtain ⟨b_i7, n_h5, k_h5⟩ := set_facts hh_h5
  replace g2 := k_h5 _ _ g2 (by rintro rfl; omega)
  clear hh_h5 k_h5
  replace n_h5 : h5.next.nat = h4.next.nat := congrArg Id.nat n_h5
  obtain ⟨⟨cl, wl, hg, hc, hw, hd⟩, lt7⟩ := G5
  have st8 : hOf (aStore Tryz.prog 3 (.ptr i6 1) (.int .i64 1) h5) = some (.ret undefA, h5.set i6 (.cells [cl, .int .i64 1, wl] 114)) := st_ptr (n := 1) hg (by kernel_rfl) rfl (by simp) rfl
  have hc6 := growB_set hc (.cells [cl, .int .i64 1, wl] 114) (notGrp hg)
  have hw6 := growB_set hw (.cells [cl, .int .i64 1, wl] 114) (notGrp hg)
  conv => arg 1; whnf
  refine atCall_P (st8) ?_
  clear st8
  generalize hh_h6 : h5.set i6 (.cells [cl, .int .i64 1, wl] 114) = h6 at *
  obtain ⟨b_i6, n_h6, k_h6⟩ := set_facts hh_h6
  replace g2 := k_h6 _ _ g2 (by rintro rfl; omega)
  replace b_i7 := k_h6 _ _ b_i7 (by rintro rfl; omega)
  clear hh_h6 k_h6
  replace n_h6 : h6.next.nat = h5.next.nat := congrArg Id.nat n_h6
  have G6 : BdG i6 114 1 b h6 := ⟨⟨cl, wl, b_i6, hc6, hw6, hd⟩, by omega⟩
  clear hc6 hw6 hc hw hd b_i6
  have l7 : vOf h6 (aLoad Tryz.prog 65 (.ptr i7 0) h6) = some (.ret (portV (p0, p1)), h6) := ld_agg (n := 2) b_i7 (by kernel_rfl) (by kernel_rfl) (by simp)
  obtain ⟨h7, w1, w2, w3⟩ := c2 i6 1 (-1, 0) (p0, p1) _ h6 G6 (by omega)
  have aR := w3.1 _ _ g2 hob (by omega) ne2 ne2
  conv => arg 1; whnf
  refine atCall_P (l7) ?_
  conv => arg 1; whnf
  refine atCall_P (w1) ?_
  obtain ⟨⟨cl, wl, hg, hc, hw, hd⟩, lt7⟩ := w2
  have l6 : ∀ h, h.get i6 = some (.cells [cl, .int .i64 1, wl] 114) → vOf h (aLoad Tryz.prog 43 (.ptr i6 0) h) = some (.ret (.agg [cl, .int .i64 1, wl]), h) := fun h g => ld_agg (n := 3) g (by kernel_rfl) (by kernel_rfl) (by simp)
  have hNn := hNe sigUV (.agg [cl, .int .i64 1, wl]) sigU (bdNt b (p0, p1)) h7 isSig_U ⟨cl, wl, rfl, hc.isL, hw.isL⟩ (by simp [bdNt]; omega) (by rw [t2.chk])
  obtain ⟨c9, w9, n9, s9, z9⟩ : ∃ c w, netC (tidyN sigU (bdNt b (p0, p1))) = .agg [c, .int .i64 (tidyN sigU (bdNt b (p0, p1))).free, w] ∧ c.scalar = true ∧ w.scalar = true :=
    ⟨_, _, rfl, isL_scalar (listW_isL _), isL_scalar (listW_isL _)⟩
  rw [n9] at hNn hv
  have st : hOf (aStore Tryz.prog 43 (.ptr i2 0) (.agg [c9, .int .i64 (tidyN sigU (bdNt b (p0, p1))).free, w9]) h7) = some (.ret undefA, h7.set i2 (.cells [c9, .int .i64 (tidyN sigU (bdNt b (p0, p1))).free, w9] 43)) :=
    st_ptr (n := 3) aR (by kernel_rfl) rfl (by simp) (by simp only [AV.cells, List.all_cons, s9, z9, List.all_nil]; rfl)
  generalize (tidyN sigU (bdNt b (p0, p1))).free = f9 at *
  conv => arg 1; whnf
  refine atRgn_N true (fun hh => hh.get i6 = some (.cells [cl, .int .i64 1, wl] 114)) (T := [0, 0, 2, 6, 14, 31, 63, 127]) (ord := [1, 2, 3, 4, 0, 5, 6, 7]) (by kernel_rfl) (hrg _ _ _) hN ?_
  conv => arg 1; whnf
  refine atCall_P (l6 h7 hg) ?_
  conv => arg 1; whnf
  refine atCall_P (hSR h7) ?_
  conv => arg 1; whnf
  refine atCall_P (hNn) ?_
  conv => arg 1; whnf
  refine atCall_P (st) ?_
  conv => arg 1; whnf
  refine atP_P ⟨?_, (fun k hk hp => match k, hk, hp with
    | 0, _, _ => hg
    | 1, _, _ => hg
    | 2, _, hp => no_pos hp (by kernel_rfl)
    | 3, _, hp => no_pos hp (by kernel_rfl)
    | k + 4, hk, _ => absurd hk (by simp)), (fun a ha => by cases ha), rfl⟩ ?_
  · exact ⟨trivial, trivial, trivial, fun _ hh g => ⟨hh, l6 hh g⟩, trivial, trivial, trivial, trivial, trivial⟩
  conv => arg 1; whnf
  refine atLeave_P (leave_plain (.inl rfl) (l := [.agg [c9, .int .i64 f9, w9], .int .i64 0]) ?_) (hQ _ _ (by rw [hv]; rfl))
  show (match aLoad Tryz.prog 43 (.ptr i2 0) (h7.set i2 (.cells [c9, .int .i64 f9, w9] 43)), some [AV.int .i64 0] with | some v, some l => some (v :: l) | _, _ => none) = _
  rw [ld_val (ld_agg (r := i2) (off := 0) (cs := [c9, .int .i64 f9, w9]) (T := 43) (n := 3) (by rw [AH.get_set, if_pos rfl]) (by kernel_rfl) (by kernel_rfl) (by simp))]
  rfl
end

/-! ### The contract -/

theorem hRn_of {hk : Hooks} {n : Nat} (hno : ∀ args h, hk 110 args h = none) (hc : ∀ args h, hk 111 args h = none) (hw : ∀ args h, hk 83 args h = none) (hn : 7000 < n) (i : Sk.Id) (f : Int) : hRn i f (evCall (mkEv Tryz.prog mu0 hk) n) := fun b X xx h hxx hG hb hb2 => by
  obtain ⟨m, rfl⟩ : ∃ m, n = m + 1 := ⟨n - 1, by omega⟩
  subst hxx
  obtain ⟨h', q1, q2⟩ := bRn (evCall (mkEv Tryz.prog mu0 hk) m) (rg Tryz.prog mu0 hk m 110) m (by omega) (hRc_of hc (by omega) i) (hRw_of hw (by omega) i) X hb hb2 h hG
  exact ⟨h', ev_of_cBodyS shT (hno _ _) Tryz.func110 rfl (by kernel_rfl) q1, q2⟩
theorem hRt_of {hk : Hooks} (ht0 : ∀ args h, hk 82 args h = none) (hno : ∀ args h, hk 110 args h = none) (hc : ∀ args h, hk 111 args h = none) (hw : ∀ args h, hk 83 args h = none) {t : List Int} {x0 : AV} (hx : IsL x0 (t.map intV)) (ht5 : t.length ≤ 100000) (i : Sk.Id) (f : Int) (ht : ∀ x ∈ t, -2 ≤ x) :
    ∀ m, hRt i f x0 t m (evCall (mkEv Tryz.prog mu0 hk) (m + 10000))
  | 0 => fun k kk b h b' p j _ G hF _ _ => by simp [bdF] at hF
  | m + 1 => fun k kk b h b' p j hkk G hF l1 l2 => by
    subst hkk
    obtain ⟨h', q1, q2⟩ := bRt (evCall (mkEv Tryz.prog mu0 hk) (m + 10000)) (rg Tryz.prog mu0 hk (m + 10000) 82) (m + 10000) hx ht ht5 (hRc_of hc (by omega) i) (hRw_of hw (by omega) i) (hRn_of hno hc hw (by omega) i f) m (hRt_of ht0 hno hc hw hx ht5 i f ht m) k b h b' p j G hF l1 l2
    have := ev_of_cBodyS (n := m + 10000) shT (ht0 _ _) Tryz.func82 rfl (by kernel_rfl) q1
    exact ⟨h', this, q2⟩

theorem unaryR_weak (t : List Int) : weakV (unaryR t) = unaryR t ∧ freeV (unaryR t) = true := by
  unfold unaryR
  split
  · exact ⟨rfl, rfl⟩
  · split
    · exact ⟨rfl, rfl⟩
    · obtain ⟨e, f⟩ := netC_weak (tidyN sigU (netT t))
      exact ⟨by show AV.tup [weakV (netC (tidyN sigU (netT t))), .int .i64 0] = _; rw [e], by show (freeV (netC (tidyN sigU (netT t))) && (true && true)) = true; rw [f]; rfl⟩

def sRN : List AV → Option AV
  | [x] => match intsOf x with | some t => if t.length ≤ 100000 then some (unaryR t) else none | none => none
  | _ => none
noncomputable def hkRN := addHk hkGd 33 sRN
theorem noR1 : ∀ args h, hkGd 82 args h = none := fun _ _ => rfl
theorem noR2 : ∀ args h, hkGd 110 args h = none := fun _ _ => rfl
theorem noR3 : ∀ args h, hkGd 111 args h = none := fun _ _ => rfl
theorem noR4 : ∀ args h, hkGd 83 args h = none := fun _ _ => rfl
theorem gdG : ∀ args h, hkGd 81 args h = hkGd 81 args h := fun _ _ => rfl
theorem srG : ∀ args h, hkGd 72 args h = hkSR 72 args h := fun _ _ => rfl
theorem neG : ∀ args h, hkGd 56 args h = hkNe 56 args h := fun _ _ => rfl
theorem ERN : EvOK (mkEv Tryz.prog mu0 hkRN) := mkEv_add3 EGd fun args v hs => by
  unfold sRN at hs; split at hs
  · rename_i x
    split at hs
    · rename_i t ht
      split at hs
      · rename_i hL
        cases hs
        have hx : IsL x (t.map intV) := decL_inv ht
        obtain ⟨N, hN⟩ : ∃ N, N = t.length + 1 + 10000 := ⟨_, rfl⟩
        have hB : ∀ i f, (∀ x ∈ t, -2 ≤ x) → hRt i f x t (t.length + 1) (evCall (mkEv Tryz.prog mu0 hkGd) N) := fun i f hl => by
          rw [hN]; exact hRt_of noR1 noR2 noR3 noR4 hx hL i f hl (t.length + 1)
        obtain ⟨h', hb⟩ := bRN (evCall (mkEv Tryz.prog mu0 hkGd) N) (rg Tryz.prog mu0 hkGd N 33) N hx hL (by omega) (fun h => hGd_of (hk := hkGd) gdG (by omega) t x h hx hL) hB (fun i => hRw_of (hk := hkGd) noR4 (by omega) i) (fun h => hSR_of (hk := hkGd) srG (by omega) h) (hNe_of (hk := hkGd) neG (by omega)) (fun _ _ _ => rfl) .empty
        exact ⟨_, (unaryR_weak t).2, (unaryR_weak t).1.symm, ev_ofS shT rfl Tryz.func33 rfl (by kernel_rfl) hb⟩
      · cases hs
    · cases hs
  · cases hs
def hRN (call : CallT) : Prop := ∀ (t : List Int) (x : AV) (h : AH), IsL x (t.map intV) → t.length ≤ 100000 → call (.func 33) [x] h = some (.ret (unaryR t), h)
theorem hRN_of {hk : Hooks} {n : Nat} (hk' : ∀ args h, hk 33 args h = hkRN 33 args h) (hn : 0 < n) : hRN (evCall (mkEv Tryz.prog mu0 hk) n) := fun t x h hx hL => ev_hk (by
  rw [hk']
  obtain ⟨a1, a2⟩ := intsOf_of hx
  refine hk_top (by simp [freeL, a2]) ?_
  show (match intsOf (weakV x) with | some t => if t.length ≤ 100000 then some (unaryR t) else none | none => none) = _
  rw [a1]; simp only [if_pos hL]) hn
/-! ### Plainly -/

def popF (v : Int) : List Int → Option (List Int)
  | a :: b :: s' => if opV v a b > 65536 then none else some (opV v a b :: s')
  | _ => none
theorem st_range : ∀ (r s : List Int), stF r = some s → ∀ v ∈ s, 0 ≤ v ∧ v ≤ 65536
  | [], s, h, v, hv => by
    simp only [stF, Option.some.injEq] at h
    subst h; cases hv
  | x :: r, s, h, v, hv => by
    simp only [stF] at h
    cases e : stF r with
    | none => rw [e] at h; cases h
    | some s1 =>
    have ih := st_range r s1 e
    rw [e] at h
    simp only at h
    split at h
    · split at h
      · rename_i a b s'
        have ho := opV_range (x := x) (ih a (by simp)) (ih b (by simp))
        split at h
        · cases h
        · simp only [Option.some.injEq] at h
          subst h
          rcases List.mem_cons.1 hv with rfl | hv
          · omega
          · exact ih v (by simp [hv])
      · cases h
    · split at h
      · cases h
      · simp only [Option.some.injEq] at h
        subst h
        rcases List.mem_cons.1 hv with rfl | hv
        · omega
        · exact ih v hv

theorem st_len : ∀ (r : List Int) (left : Nat) (s : List Int), tfF r left = true → stF r = some s → s.length = left
  | [], left, s, h, hs => by
    simp only [stF, Option.some.injEq] at hs
    subst hs
    simp [tfF] at h; simp [h]
  | x :: r, left, s, h, hs => by
    simp only [tfF] at h
    simp only [stF] at hs
    cases e : stF r with
    | none => rw [e] at hs; cases hs
    | some s1 =>
    rw [e] at hs
    simp only at hs
    split at h
    · cases h
    · rename_i hn
      split at h
      · rename_i hx
        rw [if_pos hx] at hs
        have := st_len r _ s1 h e
        split at hs
        · rename_i a b s'
          split at hs
          · cases hs
          · simp only [Option.some.injEq] at hs
            subst hs
            simp at this ⊢; omega
        · cases hs
      · rename_i hx
        rw [if_neg hx] at hs
        have := st_len r _ s1 h e
        split at hs
        · cases hs
        · simp only [Option.some.injEq] at hs
          subst hs
          simp at this ⊢; omega

theorem tf_drop {t : List Int} : ∀ (i left : Nat), tfF t left = true → i ≤ t.length → ∃ l, tfF (t.drop i) l = true ∧ l ≤ left + i
  | 0, left, h, _ => ⟨left, by simpa using h, by omega⟩
  | i + 1, left, h, hi => by
    cases t with
    | nil => simp at hi
    | cons x r =>
      simp only [tfF] at h
      split at h
      · cases h
      · split at h
        · obtain ⟨l, h1, h2⟩ := tf_drop i _ h (by simpa using hi)
          exact ⟨l, by simpa using h1, by omega⟩
        · obtain ⟨l, h1, h2⟩ := tf_drop i _ h (by simpa using hi)
          exact ⟨l, by simpa using h1, by omega⟩
theorem st_none {t : List Int} : ∀ (k i : Nat), stF (t.drop (i + k)) = none → stF (t.drop i) = none
  | 0, i, h => h
  | k + 1, i, h => by
    have h1 := st_none k (i + 1) (by rw [← h]; congr 2; omega)
    by_cases hi : i < t.length
    · rw [List.drop_eq_getElem_cons hi]
      simp only [stF, h1]
    · rw [List.drop_eq_nil_of_le (by omega)] at h1
      simp [stF] at h1

/-! ### The stack in memory -/

/-- The values that stand, the last one first. -/
def StkH (h : AH) (l : AV) (s : List Int) : Prop := (l = .nilsl ∧ s = []) ∨ ∃ r cs, l = .hsl r 0 s.length (.room 1) ∧ h.get r = some (.cells cs 3) ∧ r.nat < h.next.nat ∧ cs.take s.length = s.reverse.map intV ∧ s.length ≤ cs.length

theorem stk_push {call : CallT} {h : AH} {l : AV} {s : List Int} {v : Int} (hs : StkH h l s) (hl : s.length ≤ 1000000) :
    ∃ l' h', aBuiltin ⟨Tryz.prog, mu0, call⟩ true .append #[40, 40] [l, .vsl [.int .i64 v] .lit] h = some (.ret l', h') ∧ StkH h' l' (v :: s) := by
  have e1 : Tryz.prog.underlying 40 = some (.slice 3) := by kernel_rfl
  have e2 : sizeT Tryz.prog 3 = some 1 := by kernel_rfl
  have e3 : zeroT Tryz.prog 3 = some (.int .i64 0) := by kernel_rfl
  have e4 : Tryz.prog.bytesOf 3 = 8 := by kernel_rfl
  rcases hs with ⟨rfl, rfl⟩ | ⟨r, cs, rfl, hg, hlt, ht, hc⟩
  · refine ⟨.hsl h.next 0 1 (.room 1), h.alloc (.cells [.int .i64 v] 3), ?_, .inr ⟨h.next, [.int .i64 v], rfl, by rw [AH.get_alloc, if_pos rfl], by rw [AH.next_alloc, Id.nat_succ]; omega, rfl, by simp⟩⟩
    show vhOf (aAppend Tryz.prog true #[40, 40] .nilsl (.vsl [.int .i64 v] .lit) h) = _
    have : aAppend Tryz.prog true #[40, 40] .nilsl (.vsl [.int .i64 v] .lit) h = some (.hsl h.next 0 1 (.room 1), h.alloc (.cells [.int .i64 v] 3)) := by
      unfold aAppend
      simp [e1, e2, e3, e4, aElems, headOk, AV.cells, AV.scalar, flat]
    rw [this]; rfl
  · refine ⟨.hsl h.next 0 (s.length + 1) (.room 1), (h.set r .dead).alloc (.cells (cs.take s.length ++ [.int .i64 v]) 3), ?_, .inr ⟨h.next, cs.take s.length ++ [.int .i64 v], by simp, by rw [AH.get_alloc, AH.next_set, if_pos rfl], by rw [AH.next_alloc, AH.next_set, Id.nat_succ]; omega, ?_, by simp; omega⟩⟩
    · show vhOf (aAppend Tryz.prog true #[40, 40] (.hsl r 0 s.length (.room 1)) (.vsl [.int .i64 v] .lit) h) = _
      have : aAppend Tryz.prog true #[40, 40] (.hsl r 0 s.length (.room 1)) (.vsl [.int .i64 v] .lit) h = some (.hsl h.next 0 (s.length + 1) (.room 1), (h.set r .dead).alloc (.cells (cs.take s.length ++ [.int .i64 v]) 3)) := by
        unfold aAppend
        simp only [show (#[40, 40] : Array TypeId)[0]? = some 40 from rfl, show (#[40, 40] : Array TypeId)[1]? = some 40 from rfl, e1, e2, e3, e4, aElems, hg]
        rw [if_neg (by simp [headOk, AV.cells, AV.scalar])]
        simp only [List.length_cons, List.length_nil, Nat.zero_add, flat, List.flatMap_cons, List.flatMap_nil, AV.cells, List.append_nil, Nat.mul_one, Nat.one_ne_zero, if_false]
        rw [if_neg (by omega), if_pos (by refine ⟨hc, ?_, ?_, ?_⟩ <;> trivial)]
      rw [this]; rfl
    · rw [List.length_cons, List.take_of_length_le (by simp; omega), ht, List.reverse_cons, List.map_append]; rfl

theorem hixC {t e : TypeId} {r : Sk.Id} {m : Nat} {c : HCap} {a : Int} {h : AH} (ht : Tryz.prog.underlying t = some (.slice e)) (hn : sizeT Tryz.prog e = some 1) (h0 : 0 ≤ a) (h1 : a < m) : vOf h (aIndexAddr Tryz.prog t (.hsl r 0 m c) (.int .i64 a)) = some (.ret (.ptr r (0 + a.toNat * 1)), h) := by
  simp only [aIndexAddr, ht, hn]
  rw [if_pos ⟨h0, h1⟩]
  rfl
theorem len_C {X : Cx} {mu : Bool} {t e : TypeId} {r : Sk.Id} {m : Nat} {c : HCap} {h : AH} (ht : X.P.underlying t = some (.slice e)) : aBuiltin X mu .len #[t] [.hsl r 0 m c] h = some (.ret (.int .i64 m), h) := by
  simp [aBuiltin, aLen, ht, vOf]
theorem sl_C {t e : TypeId} {r : Sk.Id} {M L : Nat} {z : Int} {h : AH} (ht : Tryz.prog.underlying t = some (.slice e)) (hn : sizeT Tryz.prog e = some 1) (hz : z = L) (hL : L ≤ M) : vOf h (aSlice Tryz.prog t (.hsl r 0 M (.room 1)) none (some (.int .i64 z)) none) = some (.ret (.hsl r 0 L (.room 1)), h) := by
  subst hz
  have hb : aBounds M M none (some (.int .i64 (L : Int))) none = some (0, L, M) := by
    simp only [aBounds, aOptBound, aBound, Option.isNone_some, Bool.false_and, Bool.false_eq_true, if_false, Option.bind_some]
    rw [if_pos (by omega)]; simp
  simp only [aSlice, ht, hb, hn]
  simp [vOf]

section
variable {t : List Int} {x : AV}

theorem lRV (call rgn n) (hx : IsL x (t.map intV)) (hg : tfF t 1 = true) (hL8 : t.length ≤ 100000) {K : KC (AOut × AH)} {Q : Option (AOut × AH) → Prop}
    (hR : stF t = none → ∀ {h : AH} {g0 g1 g4 g5 g6 g7 g8 g9 aA aB aC aD aE aF aG aH aI aJ aK aL aM aN aO aP aQ aR aS aT aU aV aW aX aY aZ bA bB bC bD bE bF bG bH bI bJ bK bL bM bN bO bP bQ bR bS bT bU bV bW : AV}, Q (K .ret ⟨[g0,g1,.int .i64 0,.int .i64 15,g4,g5,g6,g7,g8,g9,aA,aB,aC,aD,aE,aF,aG,aH,aI,aJ,aK,aL,aM,aN,aO,aP,aQ,aR,aS,aT,aU,aV,aW,aX,aY,aZ,bA,bB,bC,bD,bE,bF,bG,bH,bI,bJ,bK,bL,bM,bN,bO,bP,bQ,bR,bS,bT,bU,bV,bW], [], h⟩))
    (hK : ∀ {h : AH} {s : List Int} {l : AV} {g0 g1 g2 g3 g5 g6 g7 g8 g9 aA aB aC aD aE aF aG aH aI aJ aK aL aM aN aO aP aQ aR aS aT aU aV aW aX aY aZ bA bB bC bD bE bF bG bH bI bJ bK bL bM bN bO bP bQ bR bS bT bU bV bW : AV}, stF t = some s → StkH h l s → Q (K (.exit 0) ⟨[g0,g1,g2,g3,l,g5,g6,g7,g8,g9,aA,aB,aC,aD,aE,aF,aG,aH,aI,aJ,aK,aL,aM,aN,aO,aP,aQ,aR,aS,aT,aU,aV,aW,aX,aY,aZ,bA,bB,bC,bD,bE,bF,bG,bH,bI,bJ,bK,bL,bM,bN,bO,bP,bQ,bR,bS,bT,bU,bV,bW], [], h⟩)) :
    ∀ (m i : Nat) {z : Int} {l : AV} {s : List Int} {h : AH} {g1 g2 g3 g6 g7 g8 g9 aA aB aC aD aE aF aG aH aI aJ aK aL aM aN aO aP aQ aR aS aT aU aV aW aX aY aZ bA bB bC bD bE bF bG bH bI bJ bK bL bM bN bO bP bQ bR bS bT bU bV bW : AV}, z = (i : Int) - 1 → i ≤ t.length → i < m → stF (t.drop i) = some s → StkH h l s →
    Q (cIter (LB shT call rgn n 35 Tryz.f35 0) m ⟨[x,g1,g2,g3,l,.int .i64 z,g6,g7,g8,g9,aA,aB,aC,aD,aE,aF,aG,aH,aI,aJ,aK,aL,aM,aN,aO,aP,aQ,aR,aS,aT,aU,aV,aW,aX,aY,aZ,bA,bB,bC,bD,bE,bF,bG,bH,bI,bJ,bK,bL,bM,bN,bO,bP,bQ,bR,bS,bT,bU,bV,bW], [], h⟩ K) := by
  have u : Tryz.prog.underlying 40 = some (.slice 3) := by kernel_rfl
  intro m
  induction m with
  | zero => intros; omega
  | succ m ih =>
    intro i z l s h g1 g2 g3 g6 g7 g8 g9 aA aB aC aD aE aF aG aH aI aJ aK aL aM aN aO aP aQ aR aS aT aU aV aW aX aY aZ bA bB bC bD bE bF bG bH bI bJ bK bL bM bN bO bP bQ bR bS bT bU bV bW hz hi hm hF hS
    rw [cIter_succ]
    conv => arg 1; whnf
    split
    · rename_i hd
      obtain ⟨k, rfl⟩ : ∃ k, i = k + 1 := ⟨i - 1, by simp at hd; omega⟩
      have hlt : k < t.length := by omega
      have hdrop : t.drop k = t[k] :: t.drop (k + 1) := List.drop_eq_getElem_cons hlt
      obtain ⟨v, y1, y2⟩ := idx_ints (h := h) (a := z) hx (by omega) (by omega)
      rw [show z.toNat = k by omega, List.getElem?_eq_getElem hlt, Option.some.injEq] at y1
      have hz' : IntKind.i64.wrap (z - 1) = (k : Int) - 1 := by rw [wrap_small (by omega) (by omega)]; omega
      have hrg := st_range _ _ hF
      obtain ⟨left, tl1, tl2⟩ := tf_drop k 1 hg (by omega)
      have hnx : stF (t.drop k) = if v < 0 then popF v s else if v > 65536 then none else some (v :: s) := by
        rw [hdrop, y1]; simp only [stF, hF]
        congr 1
      have hno : stF (t.drop k) = none → stF t = none := fun h => by
        have := st_none (t := t) k 0 (by rw [Nat.zero_add]; exact h)
        simpa using this
      conv => arg 1; whnf
      refine atCall_P (y2) ?_
      conv => arg 1; whnf
      cases e1 : decide (v < 0)
      · have h1 : ¬ v < 0 := by simpa using e1
        rw [if_neg h1] at hnx
        conv => arg 1; whnf
        cases e2 : decide (v > 65536)
        · have h2 : ¬ v > 65536 := by simpa using e2
          rw [if_neg h2] at hnx
          have hsl : s.length ≤ 1000000 := by
            obtain ⟨l2, q1, q2⟩ := tf_drop (k + 1) 1 hg (by omega)
            have := st_len _ _ _ q1 hF
            omega
          obtain ⟨l', h', p1, p2⟩ := stk_push (call := call) (v := v) hS hsl
          conv => arg 1; whnf
          rcases hS with ⟨rfl, rfl⟩ | ⟨r, cs, rfl, hgr, hlt', htk, hc⟩
          all_goals
            conv => arg 1; whnf
            conv => arg 1; whnf
            refine atCall_P (p1) ?_
            conv => arg 1; whnf
            exact ih k hz' (by omega) (by omega) hnx p2
        · have h2 : v > 65536 := by simpa using e2
          rw [if_pos h2] at hnx
          conv => arg 1; whnf
          exact hR (hno hnx)
      · have h1 : v < 0 := by simpa using e1
        rw [if_pos h1] at hnx
        have hsl : ∃ l2, s.length = l2 + 2 ∧ l2 ≤ 200000 := by
          rw [hdrop, y1] at tl1
          simp only [tfF] at tl1
          split at tl1
          · cases tl1
          · rename_i hc
            first | rw [if_pos h1] at tl1 | skip
            have := st_len _ _ _ tl1 hF
            exact ⟨left - 1, by omega, by omega⟩
        obtain ⟨l2, hl2, hl3⟩ := hsl
        rcases hS with ⟨rfl, rfl⟩ | ⟨r, cs, rfl, hgr, hlt', htk, hc⟩
        · simp at hl2
        match s, hl2, hnx, hrg, htk, hc, hF with
        | a :: b :: s', hl2, hnx, hrg, htk, hc, hF =>
        simp only [List.length_cons] at hl2 hc htk
        have hs' : s'.length = l2 := by omega
        subst hs'
        simp only [popF] at hnx
        have ho := opV_range (x := v) (hrg a (by simp)) (hrg b (by simp))
        have ga : cs[s'.length + 1]? = some (.int .i64 a) := by
          have : (cs.take (s'.length + 1 + 1))[s'.length + 1]? = some (.int .i64 a) := by
            rw [htk]
            simp [intV, List.getElem?_append]
          rwa [List.getElem?_take_of_lt (by omega)] at this
        have gb : cs[s'.length]? = some (.int .i64 b) := by
          have : (cs.take (s'.length + 1 + 1))[s'.length]? = some (.int .i64 b) := by
            rw [htk]
            simp [intV, List.getElem?_append]
          rwa [List.getElem?_take_of_lt (by omega)] at this
        have hS2 : StkH h (.hsl r 0 s'.length (.room 1)) s' := .inr ⟨r, cs, rfl, hgr, hlt', by
          have : (cs.take (s'.length + 1 + 1)).take s'.length = ((a :: b :: s').reverse.map intV).take s'.length := by rw [htk]
          rw [List.take_take, Nat.min_eq_left (by omega)] at this
          rw [this]
          simp, by omega⟩
        have hlH : ∀ {mu}, aBuiltin ⟨Tryz.prog, mu0, call⟩ mu .len #[40] [.hsl r 0 (a :: b :: s').length (.room 1)] h = some (.ret (.int .i64 ((s'.length + 1 + 1 : Nat) : Int)), h) := len_C u
        have w1 : IntKind.i64.wrap (((s'.length + 1 + 1 : Nat) : Int) - 1) = ((s'.length + 1 : Nat) : Int) := by rw [wrap_small (by omega) (by omega)]; omega
        have w2 : IntKind.i64.wrap (((s'.length + 1 + 1 : Nat) : Int) - 2) = ((s'.length : Nat) : Int) := by rw [wrap_small (by omega) (by omega)]; omega
        have ia := hixC (r := r) (m := (a :: b :: s').length) (c := .room 1) (a := ((s'.length + 1 : Nat) : Int)) (h := h) u (by kernel_rfl) (by omega) (by simp; omega)
        have ib := hixC (r := r) (m := (a :: b :: s').length) (c := .room 1) (a := ((s'.length : Nat) : Int)) (h := h) u (by kernel_rfl) (by omega) (by simp only [List.length_cons]; omega)
        have la : vOf h (aLoad Tryz.prog 3 (.ptr r (0 + (((s'.length + 1 : Nat) : Int)).toNat * 1)) h) = some (.ret (.int .i64 a), h) := hld (v := .int .i64 a) hgr (by kernel_rfl) (by kernel_rfl) (by rw [Int.toNat_natCast]; exact ga)
        have lb : vOf h (aLoad Tryz.prog 3 (.ptr r (0 + (((s'.length : Nat) : Int)).toNat * 1)) h) = some (.ret (.int .i64 b), h) := hld (v := .int .i64 b) hgr (by kernel_rfl) (by kernel_rfl) (by rw [Int.toNat_natCast]; exact gb)
        have sl := sl_C (t := 40) (r := r) (M := (a :: b :: s').length) (L := s'.length) (z := ((s'.length : Nat) : Int)) (h := h) u (by kernel_rfl) rfl (by simp; omega)
        obtain ⟨l', h', p1, p2⟩ := stk_push (call := call) (v := opV v a b) hS2 (by omega)
        rw [← w1] at ia la
        rw [← w2] at ib lb sl
        conv => arg 1; whnf
        conv => arg 1; whnf
        refine atCall_P (hlH) ?_
        conv => arg 1; whnf
        refine atCall_P (ia) ?_
        conv => arg 1; whnf
        refine atCall_P (la) ?_
        conv => arg 1; whnf
        conv => arg 1; whnf
        refine atCall_P (hlH) ?_
        conv => arg 1; whnf
        refine atCall_P (ib) ?_
        conv => arg 1; whnf
        refine atCall_P (lb) ?_
        conv => arg 1; whnf
        conv => arg 1; whnf
        refine atCall_P (hlH) ?_
        conv => arg 1; whnf
        refine atCall_P (sl) ?_
        conv => arg 1; whnf
        cases e3 : (v == -1)
        · have hx1 : ¬ v = -1 := by simpa using e3
          have hw : IntKind.i64.wrap (a * b) = opV v a b := by
            unfold opV at ho ⊢
            rw [if_neg hx1] at ho ⊢
            exact wrap_mid (by omega) (by omega)
          conv => arg 1; whnf
          rw [hw]
          generalize opV v a b = w at *
          cases e4 : decide (w > 65536)
          · rw [if_neg (by simpa using e4)] at hnx
            conv => arg 1; whnf
            conv => arg 1; whnf
            refine atCall_P (p1) ?_
            conv => arg 1; whnf
            exact ih k hz' (by omega) (by omega) hnx p2
          · rw [if_pos (by simpa using e4)] at hnx
            conv => arg 1; whnf
            exact hR (hno hnx)
        · have hx1 : v = -1 := by simpa using e3
          have hw : IntKind.i64.wrap (a + b) = opV v a b := by
            have := hrg a (by simp)
            have := hrg b (by simp)
            unfold opV
            rw [if_pos hx1]
            exact wrap_mid (by omega) (by omega)
          conv => arg 1; whnf
          rw [hw]
          generalize opV v a b = w at *
          cases e4 : decide (w > 65536)
          · rw [if_neg (by simpa using e4)] at hnx
            conv => arg 1; whnf
            conv => arg 1; whnf
            refine atCall_P (p1) ?_
            conv => arg 1; whnf
            exact ih k hz' (by omega) (by omega) hnx p2
          · rw [if_pos (by simpa using e4)] at hnx
            conv => arg 1; whnf
            exact hR (hno hnx)
    · rename_i hd
      have h0 : i = 0 := by simp at hd; omega
      subst h0
      rw [List.drop_zero] at hF
      exact hK hF hS

theorem bRV (call rgn n) (hx : IsL x (t.map intV)) (hL8 : t.length ≤ 100000) (hn : t.length < n) (hGd : ∀ h, call (.func 81) [x] h = some (.ret (.bool (tfF t 1)), h)) (h : AH) :
    ∃ h', B shT call rgn n 35 Tryz.f35 [x] h = some (.ret (valueV t), h') := by
  suffices hq : ∀ Q : Option (AOut × AH) → Prop, (∀ a b h', (a, b) = valueF t → Q (some (.ret (.tup [.int .i64 a, .int .i64 b]), h'))) → Q (B shT call rgn n 35 Tryz.f35 [x] h) from
    hq (fun y => ∃ h', y = some (.ret (valueV t), h')) (fun a b h' e => ⟨h', by unfold valueV; rw [← e]⟩)
  intro Q hQ
  have u : Tryz.prog.underlying 40 = some (.slice 3) := by kernel_rfl
  have hlx := len_L (X := ⟨Tryz.prog, mu0, call⟩) (mu := false) (h := h) u hx
  rw [List.length_map] at hlx
  conv => arg 1; whnf
  refine atCall_P (hGd h) ?_
  conv => arg 1; whnf
  cases e1 : tfF t 1
  · conv => arg 1; whnf
    exact atLeave_P (leave_plain (.inl rfl) rfl) (hQ _ _ _ (by unfold valueF; rw [if_pos e1]))
  obtain ⟨v, l, v1, v2, v3⟩ := value_st e1
  have hw : IntKind.i64.wrap ((t.length : Int) - 1) = (t.length : Int) - 1 := wrap_small (by omega) (by omega)
  conv => arg 1; whnf
  conv => arg 1; whnf
  refine atCall_P (hlx) ?_
  conv => arg 1; whnf
  refine lRV call rgn n hx e1 hL8 ?_ ?_ n t.length (l := .nilsl) (s := []) hw (Nat.le_refl _) (by omega) (by rw [List.drop_length]; rfl) (.inl ⟨rfl, rfl⟩)
  · intro hb h2
    intros
    cases l
    · rw [hb] at v2; cases v2
    · exact atLeave_P (leave_plain (.inl rfl) rfl) (hQ _ _ _ v3.symm)
  · intro h2 s l2 g0 g1 g2 g3 g5 g6 g7 g8 g9 aA aB aC aD aE aF aG aH aI aJ aK aL aM aN aO aP aQ aR aS aT aU aV aW aX aY aZ bA bB bC bD bE bF bG bH bI bJ bK bL bM bN bO bP bQ bR bS bT bU bV bW hb hS
    cases l
    · rw [if_neg (by simp)] at v2 v3
      rw [hb, Option.some.injEq] at v2
      subst v2
      rcases hS with ⟨_, h⟩ | ⟨r, cs, rfl, hgr, hlt', htk, hc⟩
      · cases h
      have ia := hixC (r := r) (m := 1) (c := .room 1) (a := 0) (h := h2) u (by kernel_rfl) (by omega) (by omega)
      have la : vOf h2 (aLoad Tryz.prog 3 (.ptr r (0 + (0 : Int).toNat * 1)) h2) = some (.ret (.int .i64 v), h2) := hld (v := .int .i64 v) hgr (by kernel_rfl) (by kernel_rfl) (by
        have : (cs.take 1)[0]? = some (.int .i64 v) := by
          have htk' : cs.take 1 = [v].reverse.map intV := htk
          rw [htk']; rfl
        rwa [List.getElem?_take_of_lt (by omega)] at this)
      conv => arg 1; whnf
      conv => arg 1; whnf
      refine atCall_P (ia) ?_
      conv => arg 1; whnf
      refine atCall_P (la) ?_
      conv => arg 1; whnf
      exact atLeave_P (leave_plain (.inl rfl) rfl) (hQ _ _ _ v3.symm)
    · rw [if_pos rfl, hb] at v2; cases v2
end

noncomputable def hkRV := addHk hkRN 35 sUV
theorem gdN : ∀ args h, hkRN 81 args h = hkGd 81 args h := fun _ _ => rfl
theorem ERV : EvOK (mkEv Tryz.prog mu0 hkRV) := mkEv_add ERN fun args v hs => by
  unfold sUV at hs; split at hs
  · rename_i x
    split at hs
    · rename_i t ht
      split at hs
      · rename_i hL
        cases hs
        have hx : IsL x (t.map intV) := decL_inv ht
        obtain ⟨N, hN⟩ : ∃ N, N = t.length + 1 := ⟨_, rfl⟩
        obtain ⟨h', hb⟩ := bRV (evCall (mkEv Tryz.prog mu0 hkRN) N) (rg Tryz.prog mu0 hkRN N 35) N hx hL (by omega) (fun h => hGd_of (hk := hkRN) gdN (by omega) t x h hx hL) .empty
        exact ⟨rfl, ev_ofS shT rfl Tryz.func35 rfl (by kernel_rfl) hb⟩
      · cases hs
    · cases hs
  · cases hs
def hRV (call : CallT) : Prop := ∀ (t : List Int) (x : AV) (h : AH), IsL x (t.map intV) → t.length ≤ 100000 → call (.func 35) [x] h = some (.ret (valueV t), h)
theorem hRV_of {hk : Hooks} {n : Nat} (hk' : ∀ args h, hk 35 args h = hkRV 35 args h) (hn : 0 < n) : hRV (evCall (mkEv Tryz.prog mu0 hk) n) := fun t x h hx hL => ev_hk (by
  rw [hk']
  obtain ⟨a1, a2⟩ := intsOf_of hx
  refine hk_top (by simp [freeL, a2]) ?_
  show (match intsOf (weakV x) with | some t => if t.length ≤ 100000 then some (valueV t) else none | none => none) = _
  rw [a1]; simp only [if_pos hL]) hn
end Go.Proofs.Nt
namespace Go.Proofs.Nt
open Go.Sk Go.ChangeShapes Go.WideShapes

section
variable {H : Type} {enc : TypeId × Value → H} {w : World} {base : Nat} {sp : Nat → Bool} {held : Bool}

theorem addr_add (b off i : Nat) : (Addr.mk b off none).add i = ⟨b, off + i, none⟩ := by
  unfold Addr.add; split
  · rename_i h0; subst h0; rfl
  · rfl

theorem open_listA {α : Type} [Inhabited α] {encA : α → AV} {sz : Nat} {t e : TypeId} {v : Value} {fuel : Nat} {x : DataW H × List MemPlace} (ht : Tryz.prog.underlying t = some (.slice e)) (hc : Tryz.prog.cellsOf e = sz) (hsz : ∀ a, (encA a).cells.length = sz)
    (hE : ∀ n cs x, DataW.trod enc Tryz.prog w base sp held n e cs = some x → ∃ a : α, LRel (rho0 w) (encA a).cells cs ∧ ∀ c ∈ cs, c.oneCell' = true)
    (hs : ∀ (a : Addr) l c, v = .slice (some a) l c → a.spot = none) (h : DataW.trod enc Tryz.prog w base sp held fuel t [v] = some x) :
    ∃ (u : AV) (l : List α), VRel (rho0 w) u v ∧ IsL u (l.map encA) := by
  rcases Deep.open_slice ht h with ⟨h1, _⟩ | ⟨a, len, cap, m, n, D, Pl, h1, hb, hl, hm, hmm, hx, hel⟩
  · simp only [List.cons.injEq, and_true] at h1
    subst h1
    exact ⟨.nilsl, [], .nilsl, .inl ⟨rfl, rfl⟩⟩
  · simp only [List.cons.injEq, and_true] at h1
    have hspot := hs a len cap h1
    subst h1
    obtain ⟨b, off, spot⟩ := a
    simp only at hspot; subst hspot
    have hlm : len ≤ m := by rw [hmm]; split <;> omega
    obtain ⟨f, hf⟩ := Deep.choose_lt (α := α × List Value) (n := len) (p := fun i y => w.cells? base ((Addr.mk b off none).add (i * Tryz.prog.cellsOf e)) (Tryz.prog.cellsOf e) = some y.2 ∧ LRel (rho0 w) (encA y.1).cells y.2 ∧ ∀ c ∈ y.2, c.oneCell' = true) (fun i hi => by
      obtain ⟨cs', q1, q2⟩ := hel i (by omega)
      obtain ⟨a, q3, q4⟩ := hE _ _ _ q2
      exact ⟨(a, cs'), q1, q3, q4⟩)
    have hlen : ((List.range len).map fun i => encA (f i).1).length = len := by simp
    have key : VRel (rho0 w) (.vsl ((List.range len).map fun i => encA (f i).1) .unk) (.slice (some ⟨b, off, none⟩) ((List.range len).map fun i => encA (f i).1).length cap) := by
      refine .vsl _ .unk b off cap sz (fun i j => (f i).2.getD j default) (fun i hi => by simp [hsz]) (fun i j hi hj => ?_) (fun i hi j hj => ?_) (by rw [hlen]; exact hl) trivial
      · rw [hlen] at hi
        obtain ⟨p1, p2, p3⟩ := hf i hi
        obtain ⟨_, r1, r2⟩ := World.cells?_some p1
        have := r2 j (by rw [hc]; exact hj)
        rw [hc, addr_add, addr_add] at this
        rw [rho0_imm, this]
        have hjl : j < (f i).2.length := by rw [r1, hc]; exact hj
        rw [List.getElem?_eq_getElem hjl]
        have hd : (f i).2.getD j default = (f i).2[j] := by rw [List.getD_eq_getElem?_getD, List.getElem?_eq_getElem hjl]; rfl
        rw [hd]
        exact ⟨rfl, p3 _ (List.getElem_mem _)⟩
      · rw [hlen] at hi
        obtain ⟨p1, p2, p3⟩ := hf i hi
        have hxi : ((List.range len).map fun i => encA (f i).1)[i] = encA (f i).1 := by simp
        have hj' : j < (encA (f i).1).cells.length := by rw [hxi] at hj; exact hj
        have hjl : j < (f i).2.length := by rw [p2.1]; exact hj'
        have hd : (f i).2.getD j default = (f i).2[j] := by rw [List.getD_eq_getElem?_getD, List.getElem?_eq_getElem hjl]; rfl
        have := p2.2 j hj' hjl
        rw [hd]
        simp only [hxi]
        exact this
    rw [hlen] at key
    exact ⟨_, (List.range len).map fun i => (f i).1, key, .inr ⟨.unk, by rw [List.map_map]; rfl⟩⟩

theorem t3 {n : Nat} {cs : List Value} {x : DataW H × List MemPlace} (h : DataW.trod enc Tryz.prog w base sp held n 3 cs = some x) : ∃ a, cs = [.int .i64 a] := by
  obtain ⟨a, h1, _⟩ := DataW.trod_int (k := .i64) (by kernel_rfl) h
  exact ⟨a, h1⟩

theorem spot_of {r : Reach} {b0 : Nat} {t e : TypeId} {v : Value} (ht : Tryz.prog.underlying t = some (.slice e)) (h : Cell.okWide Tryz.prog w r b0 t v) : ∀ (a : Addr) l c, v = .slice (some a) l c → a.spot = none := by
  rintro a l c rfl
  simp only [Cell.okWide, ht, Cell.ok] at h
  exact h.2.2.2.1

theorem open_intsA {r : Reach} {b0 : Nat} {v : Value} {d : DataW H} {ps : List MemPlace} (hval : Value.okWide Tryz.prog w r b0 40 v) (hd : DataW.Trod enc Tryz.prog w base sp held 40 v d ps) : ∃ (x : AV) (t : List Int), VRel (rho0 w) x v ∧ IsL x (t.map intV) := by
  have ht : Tryz.prog.underlying 40 = some (.slice 3) := by kernel_rfl
  obtain ⟨a, len, cap, rfl⟩ := okWide_slice ht hval
  obtain ⟨fuel, hf⟩ := hd
  have hc : Cell.okWide Tryz.prog w r b0 40 (.slice a len cap) := by
    unfold Value.okWide at hval
    rw [ht] at hval
    exact hval
  exact open_listA (encA := intV) (sz := 1) ht (by kernel_rfl) (fun _ => rfl) (fun n cs x h => by
    obtain ⟨a, rfl⟩ := t3 h
    refine ⟨a, LRel.cons (.int _ _) (LRel.nil _), fun c hc => ?_⟩
    simp only [List.mem_cons, List.not_mem_nil, or_false] at hc
    subst hc; rfl) (spot_of ht hc) (by simpa [Value.cells] using hf)

end
end Go.Proofs.Nt
namespace Go.Proofs.Nt
open Go.Sk

theorem tw_len (M : Lk) : ∀ ps : List Pt, (tw M ps).length ≤ ps.length
  | [] => by simp [tw]
  | p :: r => by
    have := tw_len M r
    simp only [tw]; split <;> simp <;> omega

/-- The two nets of a term, and the two words about it. -/
theorem nets_eq {t : List Int} : ∃ (c1 w1 c2 w2 : AV) (N : Nt) (e : Int), unaryV t = .tup [.agg [c1, .int .i64 N.free, w1], .int .i64 e] ∧ unaryR t = .tup [.agg [c2, .int .i64 N.free, w2], .int .i64 e] ∧ IsL c1 (N.cells.map intV) ∧ IsL w1 (N.wires.map wireV) ∧ IsL c2 (N.cells.map intV) ∧ IsL w2 (N.wires.map wireV) ∧ N.cells.length ≤ 1000000000 ∧ N.wires.length ≤ 1000000000 := by
  have z : ∀ e : Int, unaryV t = .tup [zNet, .int .i64 e] → unaryR t = .tup [zNet, .int .i64 e] → ∃ (c1 w1 c2 w2 : AV) (N : Nt) (e : Int), unaryV t = .tup [.agg [c1, .int .i64 N.free, w1], .int .i64 e] ∧ unaryR t = .tup [.agg [c2, .int .i64 N.free, w2], .int .i64 e] ∧ IsL c1 (N.cells.map intV) ∧ IsL w1 (N.wires.map wireV) ∧ IsL c2 (N.cells.map intV) ∧ IsL w2 (N.wires.map wireV) ∧ N.cells.length ≤ 1000000000 ∧ N.wires.length ≤ 1000000000 :=
    fun e h1 h2 => ⟨.nilsl, .nilsl, .nilsl, .nilsl, ⟨[], 0, []⟩, e, h1, h2, .inl ⟨rfl, rfl⟩, .inl ⟨rfl, rfl⟩, .inl ⟨rfl, rfl⟩, .inl ⟨rfl, rfl⟩, by simp, by simp⟩
  cases h1 : tfF t 1
  · exact z 62 (by unfold unaryV; rw [if_pos h1]) (by unfold unaryR; rw [if_pos h1])
  by_cases h2 : 4096 < sizeT' t
  · exact z 15 (by unfold unaryV; rw [if_neg (by rw [h1]; simp), if_pos h2]) (by unfold unaryR; rw [if_neg (by rw [h1]; simp), if_pos h2])
  obtain ⟨b, p, t1, gd, t3, t4⟩ := term_good h1 (show sizeT' t ≤ 4096 by omega)
  have hnt : netT t = bdNt b p := by unfold netT; rw [t1]
  have e1 : unaryV t = .tup [netW (tidyN sigU (bdNt b p)), .int .i64 0] := by unfold unaryV; rw [if_neg (by rw [h1]; simp), if_neg h2, hnt]
  have e2 : unaryR t = .tup [netC (tidyN sigU (bdNt b p)), .int .i64 0] := by unfold unaryR; rw [if_neg (by rw [h1]; simp), if_neg h2, hnt]
  have hml := ports_len' (sigChk_ports gd.sg) gd.f1 gd.cl
  have hwl : (tidyN sigU (bdNt b p)).wires.length ≤ 30000 := by
    rw [tidyN_eq]
    exact Nat.le_trans (tw_len _ _) hml
  have hcl2 : (tidyN sigU (bdNt b p)).cells.length ≤ 4096 := gd.cl
  generalize tidyN sigU (bdNt b p) = N at e1 e2 hwl hcl2
  refine ⟨.vsl (N.cells.map intV) .unk, (match N.wires with | [] => .nilsl | w :: r => .vsl ((w :: r).map wireV) .unk), listW intV N.cells, listW wireV N.wires, N, 0, e1, e2, .inr ⟨_, rfl⟩, ?_, listW_isL _, listW_isL _, by omega, by omega⟩
  cases N.wires with
  | nil => exact .inl ⟨rfl, rfl⟩
  | cons w r => exact .inr ⟨_, rfl⟩

theorem bLN (call rgn n) (x : AV) (t : List Int) (hx : IsL x (t.map intV)) (hWI : hWI call) (hSI : hSI call) (hUN : hUN call) (hRN : hRN call) (hUV : hUV call) (hRV : hRV call) (h9 : h9 call) (h23 : h23 call) (hW : ∀ h, call (.func 28) [] h = some (.ret (.bool true), h)) (h : AH) :
    ∃ h', B shT call rgn n 6 Tryz.f6 [x] h = some (.ret (.bool true), h') := by
  suffices hq : ∀ Q : Option (AOut × AH) → Prop, (∀ h', Q (some (.ret (.bool true), h'))) → Q (B shT call rgn n 6 Tryz.f6 [x] h) from hq (fun y => ∃ h', y = some (.ret (.bool true), h')) (fun h' => ⟨h', rfl⟩)
  intro Q hQ
  have u : Tryz.prog.underlying 40 = some (.slice 3) := by kernel_rfl
  have hlx := len_L (X := ⟨Tryz.prog, mu0, call⟩) (mu := false) (h := h) u hx
  rw [List.length_map] at hlx
  conv => arg 1; whnf
  refine atCall_P (hlx) ?_
  conv => arg 1; whnf
  cases e1 : decide ((t.length : Int) > 8192)
  rotate_left
  · conv => arg 1; whnf
    conv => arg 1; whnf
    refine atCall_P (hW h) ?_
    conv => arg 1; whnf
    exact atLeave_P (leave_plain (.inl rfl) rfl) (hQ _)
  have hL : t.length ≤ 8192 := by simp at e1; omega
  obtain ⟨c1, w1, c2, w2, N, e, u1, u2, i1, i2, i3, i4', n1, n2⟩ := nets_eq (t := t)
  have pN := fun h => hUN t (.vsl (t.map intV) (.pat 1 64)) h (.inr ⟨_, rfl⟩) (by omega)
  have pR := fun h => hRN t x h hx (by omega)
  have pV := fun h => hUV t (.vsl (t.map intV) (.pat 1 64)) h (.inr ⟨_, rfl⟩) (by omega)
  have pU := fun h => hRV t x h hx (by omega)
  rw [u1] at pN
  rw [u2] at pR
  unfold valueV at pV pU
  generalize (valueF t).1 = v0 at pV pU
  generalize (valueF t).2 = e0 at pV pU
  have cs1 := isL_scalar i1
  have ws1 := isL_scalar i2
  have cs2 := isL_scalar i3
  have ws2 := isL_scalar i4'
  conv => arg 1; whnf
  conv => arg 1; whnf
  refine atCall_P (hWI t x h hx (by omega)) ?_
  conv => arg 1; whnf
  conv => arg 1; whnf
  refine atCall_P (pN h) ?_
  conv => arg 1; whnf
  conv => arg 1; whnf
  refine atCall_P (alloc_new (z := .agg [.nilsl, .int .i64 0, .nilsl]) (cs := [.nilsl, .int .i64 0, .nilsl]) (by kernel_rfl) rfl rfl) ?_
  generalize hh_h1 : h.alloc (.cells [.nilsl, .int .i64 0, .nilsl] 43) = h1 at *
  obtain ⟨a_i4, n_i4, k_h1⟩ := alloc_facts hh_h1
  clear hh_h1 k_h1
  generalize hi_i4 : h.next = i4 at *
  clear hi_i4
  have st4 : hOf (aStore Tryz.prog 43 (.ptr i4 0) (.agg [c1, .int .i64 N.free, w1]) h1) = some (.ret undefA, h1.set i4 (.cells [c1, .int .i64 N.free, w1] 43)) := st_ptr (n := 3) a_i4 (by kernel_rfl) rfl (by simp) (by simp only [AV.cells, List.all_cons, cs1, ws1, List.all_nil]; rfl)
  conv => arg 1; whnf
  refine atCall_P (st4) ?_
  clear st4
  generalize hh_h2 : h1.set i4 (.cells [c1, .int .i64 N.free, w1] 43) = h2 at *
  obtain ⟨b_i4, n_h2, k_h2⟩ := set_facts hh_h2
  clear hh_h2 k_h2
  replace n_h2 : h2.next.nat = h1.next.nat := congrArg Id.nat n_h2
  conv => arg 1; whnf
  refine atCall_P (pR h2) ?_
  conv => arg 1; whnf
  conv => arg 1; whnf
  refine atCall_P (alloc_new (z := .agg [.nilsl, .int .i64 0, .nilsl]) (cs := [.nilsl, .int .i64 0, .nilsl]) (by kernel_rfl) rfl rfl) ?_
  generalize hh_h3 : h2.alloc (.cells [.nilsl, .int .i64 0, .nilsl] 43) = h3 at *
  obtain ⟨a_i6, n_i6, k_h3⟩ := alloc_facts hh_h3
  replace b_i4 := k_h3 _ _ b_i4 (by omega)
  clear hh_h3 k_h3
  generalize hi_i6 : h2.next = i6 at *
  clear hi_i6
  have st6 : hOf (aStore Tryz.prog 43 (.ptr i6 0) (.agg [c2, .int .i64 N.free, w2]) h3) = some (.ret undefA, h3.set i6 (.cells [c2, .int .i64 N.free, w2] 43)) := st_ptr (n := 3) a_i6 (by kernel_rfl) rfl (by simp) (by simp only [AV.cells, List.all_cons, cs2, ws2, List.all_nil]; rfl)
  conv => arg 1; whnf
  refine atCall_P (st6) ?_
  clear st6
  generalize hh_h4 : h3.set i6 (.cells [c2, .int .i64 N.free, w2] 43) = h4 at *
  obtain ⟨b_i6, n_h4, k_h4⟩ := set_facts hh_h4
  replace b_i4 := k_h4 _ _ b_i4 (by rintro rfl; omega)
  clear hh_h4 k_h4
  replace n_h4 : h4.next.nat = h3.next.nat := congrArg Id.nat n_h4
  have l4 : vOf h4 (aLoad Tryz.prog 43 (.ptr i4 0) h4) = some (.ret (.agg [c1, .int .i64 N.free, w1]), h4) := ld_agg (n := 3) b_i4 (by kernel_rfl) (by kernel_rfl) (by simp)
  have l6 : vOf h4 (aLoad Tryz.prog 43 (.ptr i6 0) h4) = some (.ret (.agg [c2, .int .i64 N.free, w2]), h4) := ld_agg (n := 3) b_i6 (by kernel_rfl) (by kernel_rfl) (by simp)
  conv => arg 1; whnf
  refine atCall_P (pV h4) ?_
  conv => arg 1; whnf
  conv => arg 1; whnf
  refine atCall_P (pU h4) ?_
  conv => arg 1; whnf
  cases e3 : (e == e)
  · simp at e3
  conv => arg 1; whnf
  conv => arg 1; whnf
  refine atCall_P (l4) ?_
  conv => arg 1; whnf
  refine atCall_P (l6) ?_
  conv => arg 1; whnf
  refine atCall_P (h9 _ _ N h4 ⟨c1, w1, rfl, i1, i2⟩ ⟨c2, w2, rfl, i3, i4'⟩ n1 n2) ?_
  conv => arg 1; whnf
  cases e4 : (v0 == v0)
  · simp at e4
  conv => arg 1; whnf
  cases e5 : (e0 == e0)
  · simp at e5
  conv => arg 1; whnf
  conv => arg 1; whnf
  refine atCall_P (h23 (.vsl (t.map intV) (.pat 1 64)) x t h4 (.inr ⟨_, rfl⟩) hx (by omega)) ?_
  conv => arg 1; whnf
  conv => arg 1; whnf
  refine atCall_P (hSI t h4 (by omega)) ?_
  conv => arg 1; whnf
  conv => arg 1; whnf
  refine atCall_P (hW h4) ?_
  conv => arg 1; whnf
  exact atLeave_P (leave_plain (.inl rfl) rfl) (hQ _)
end Go.Proofs.Nt

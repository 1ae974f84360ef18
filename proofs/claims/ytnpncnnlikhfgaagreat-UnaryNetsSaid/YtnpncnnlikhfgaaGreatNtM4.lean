/- unary.Net's build: what it works on; a number's cells. -/
import Derived.Test.YtnpncnnlikhfgaaGreatNtM3
set_option linter.unusedVariables false
set_option linter.unusedSimpArgs false
set_option maxRecDepth 10000
namespace Go.Proofs.Nt
open Go.Sk

/-- What build works on. -/
structure PB (i1 i7 i8 i9 i10 i11 : Sk.Id) (x0 : AV) (i : Nat) (b : Bd) (h : AH) : Prop where
  g1 : h.get i1 = some (.cells [x0] 40)
  aA : h.get i10 = some (.cells [.int .i64 i] 3)
  g8 : h.get i8 = some (.cells [.fn (.func 77) [] [.ptr i7 0]] 109)
  g9 : h.get i9 = some (.cells [.fn (.func 78) [] [.ptr i7 0]] 110)
  aB : h.get i11 = some (.cells [.fn (.func 79) [] [.ptr i1 0, .ptr i10 0, .ptr i8 0, .ptr i9 0, .ptr i11 0, .ptr i7 0]] 111)
  bd : BdG i7 43 1 b h
  o1 : i1.nat < i7.nat
  o2 : i7.nat < i8.nat
  o3 : i8.nat < i9.nat
  o4 : i9.nat < i10.nat
  o5 : i10.nat < i11.nat
  lt : i11.nat < h.next.nat

section
variable {i1 i7 i8 i9 i10 i11 : Sk.Id} {x0 : AV} {i : Nat} {b : Bd} {h : AH}

theorem PB.kept {i' : Nat} {b' : Bd} {h' : AH} (G : PB i1 i7 i8 i9 i10 i11 x0 i b h) (hk : KeptB h.next.nat i7 i10 h h') (h10 : h'.get i10 = some (.cells [.int .i64 i'] 3)) (hb : BdG i7 43 1 b' h') : PB i1 i7 i8 i9 i10 i11 x0 i' b' h' := by
  obtain ⟨g1, aA, g8, g9, aB, bd, o1, o2, o3, o4, o5, lt⟩ := G
  have ne : ∀ {a c : Sk.Id}, a.nat ≠ c.nat → a ≠ c := fun h e => h (by rw [e])
  exact ⟨hk.1 _ _ g1 (fun _ => nofun) (by omega) (ne (by omega)) (ne (by omega)), h10, hk.1 _ _ g8 (fun _ => nofun) (by omega) (ne (by omega)) (ne (by omega)), hk.1 _ _ g9 (fun _ => nofun) (by omega) (ne (by omega)) (ne (by omega)), hk.1 _ _ aB (fun _ => nofun) (by omega) (ne (by omega)) (ne (by omega)), hb, o1, o2, o3, o4, o5, Nat.lt_of_lt_of_le lt hk.2⟩
theorem BdG.alloc {i : Sk.Id} {T : TypeId} {f : Int} (G : BdG i T f b h) (o : AO) : BdG i T f b (h.alloc o) := by
  obtain ⟨⟨cl, wl, hg, hc, hw, hd⟩, lt⟩ := G
  exact ⟨⟨cl, wl, kept_alloc hg lt, growB_alloc hc o, growB_alloc hw o, hd⟩, by rw [AH.next_alloc, Id.nat_succ]; omega⟩
theorem BdG.set {i j : Sk.Id} {T : TypeId} {f : Int} (G : BdG i T f b h) (o : AO) (hj : NotGrp h j) (hne : j ≠ i) : BdG i T f b (h.set j o) := by
  obtain ⟨⟨cl, wl, hg, hc, hw, hd⟩, lt⟩ := G
  exact ⟨⟨cl, wl, by rw [AH.get_set, if_neg (fun e => hne e.symm)]; exact hg, growB_set hc o hj, growB_set hw o hj, hd⟩, by rw [AH.next_set]; exact lt⟩
theorem PB.alloc (G : PB i1 i7 i8 i9 i10 i11 x0 i b h) (o : AO) : PB i1 i7 i8 i9 i10 i11 x0 i b (h.alloc o) :=
  G.kept ((KeptB.refl i7 i10 h).alloc o) (kept_alloc G.aA (by have := G.lt; have := G.o5; omega)) (G.bd.alloc o)
theorem PB.step (G : PB i1 i7 i8 i9 i10 i11 x0 i b h) {z : Int} (hz : z = ((i + 1 : Nat) : Int)) : PB i1 i7 i8 i9 i10 i11 x0 (i + 1) b (h.set i10 (.cells [.int .i64 z] 3)) := by
  subst hz
  refine G.kept ((KeptB.refl i7 i10 h).set _ (.inr (.inr rfl))) (by rw [AH.get_set, if_pos rfl]) (G.bd.set _ (notGrp G.aA) fun e => ?_)
  have := congrArg Id.nat e
  have := G.o2; have := G.o3; have := G.o4; omega
/-- One of build's own calls. -/
theorem PB.call {b' : Bd} {h' : AH} (G : PB i1 i7 i8 i9 i10 i11 x0 i b h) (hk : KeptB h.next.nat i7 i7 h h') (hb : BdG i7 43 1 b' h') : PB i1 i7 i8 i9 i10 i11 x0 i b' h' := by
  refine G.kept (hk.weak (.inl rfl) (.inl rfl)) (hk.1 _ _ G.aA (fun _ => nofun) (by have := G.lt; have := G.o5; omega) ?_ ?_) hb
  all_goals
    intro e
    have := congrArg Id.nat e
    have := G.o2; have := G.o3; have := G.o4; omega

def hC1 (i7 : Sk.Id) (call : CallT) : Prop := ∀ a b h, BdG i7 43 1 b h → b.cells.length ≤ 1000000 → ∃ v h', call (.func 77) [.int .i64 a, .ptr i7 0] h = some (.ret (.int .i64 v), h') ∧ v = b.cells.length ∧ BdG i7 43 1 ⟨b.cells ++ [a], b.wires⟩ h' ∧ KeptB h.next.nat i7 i7 h h'
def hC2 (i7 : Sk.Id) (call : CallT) : Prop := ∀ p q b h, BdG i7 43 1 b h → b.wires.length ≤ 1000000 → ∃ h', call (.func 78) [portV p, portV q, .ptr i7 0] h = some (.ret (.tup []), h') ∧ BdG i7 43 1 ⟨b.cells, b.wires ++ [mkW p q]⟩ h' ∧ KeptB h.next.nat i7 i7 h h'
def hUa (call : CallT) : Prop := ∀ (c k : Int) (h : AH), call (.func 74) [.int .i64 c, .int .i64 k] h = some (.ret (portV (c, k)), h)

theorem numW_last (c : Nat) {k : Nat} (hk : 0 < k) {a d : Int} (ha : a = ((c + k : Nat) : Int) - 1) (hd : d = ((c + k : Nat) : Int)) : numW c k = numW c (k - 1) ++ [(a, 1, d, 0)] := by
  obtain ⟨j, rfl⟩ : ∃ j, k = j + 1 := ⟨k - 1, by omega⟩
  subst ha; subst hd
  unfold numW
  rw [List.range'_concat, List.map_append, Nat.add_sub_cancel]
  congr 1
  simp only [List.map_cons, List.map_nil, List.cons.injEq, and_true, Prod.mk.injEq, true_and]
  constructor <;> omega

theorem lNm (call rgn n) (c1 : hC1 i7 call) (c2 : hC2 i7 call) (ua : hUa call) (hrg : ∀ id ops st, rgn id ops st = drawn ⟨Tryz.prog, mu0, call⟩ 79 ops st) {x : Nat} (hx : x ≤ 5000) (hbl : b.cells.length ≤ 5000) (hbw : b.wires.length ≤ 100000) {n0 : Nat} {gg : AH} {i6 : Sk.Id} {ob : AO} (o6 : i11.nat < i6.nat) (hob : ∀ n, ob ≠ .grp n) {K : KC (AOut × AH)} {Q : Option (AOut × AH) → Prop} (hN : ¬ Q none)
    {xx cc : Int} (hxx : xx = x)
    (hK : ∀ {h : AH} {g0 g1 g4 g5 g8 aA aB aC aD aE aF aG aH aI aJ aK aL aM aN aO aP aQ aR aS aT aU aV aW aX aY aZ bA bB bC bD bE bF bG bH bI bJ bK bL bM bN bO bP bQ bR bS bT bU bV bW bX bY bZ cA cB cC cD cE cF cG cH cI : AV}, PB i1 i7 i8 i9 i10 i11 x0 i ⟨b.cells ++ List.replicate x 1, b.wires ++ numW b.cells.length (x - 1)⟩ h → h.get i6 = some ob → i6.nat < h.next.nat → KeptB n0 i7 i10 gg h → Q (K (.exit 0) ⟨[g0,g1,.ptr i8 0,.ptr i9 0,g4,g5,.ptr i6 0,.int .i64 xx,g8,.int .i64 cc,aA,aB,aC,aD,aE,aF,aG,aH,aI,aJ,aK,aL,aM,aN,aO,aP,aQ,aR,aS,aT,aU,aV,aW,aX,aY,aZ,bA,bB,bC,bD,bE,bF,bG,bH,bI,bJ,bK,bL,bM,bN,bO,bP,bQ,bR,bS,bT,bU,bV,bW,bX,bY,bZ,cA,cB,cC,cD,cE,cF,cG,cH,cI], [], h⟩)) :
    ∀ (m k : Nat) {z : Int} {h : AH} {g0 g1 g4 g5 g8 aA aB aC aD aE aF aG aH aI aJ aK aL aM aN aO aP aQ aR aS aT aU aV aW aX aY aZ bA bB bC bD bE bF bI bJ bK bL bM bN bO bP bQ bR bS bT bU bV bW bX bY bZ cA cB cC cD cE cF cG cH cI : AV}, z = k → k ≤ x → x - k < m → PB i1 i7 i8 i9 i10 i11 x0 i ⟨b.cells ++ List.replicate k 1, b.wires ++ numW b.cells.length (k - 1)⟩ h → h.get i6 = some ob → i6.nat < h.next.nat → KeptB n0 i7 i10 gg h →
    Q (cIter (LB shT call rgn n 79 Tryz.f79 0) m ⟨[g0,g1,.ptr i8 0,.ptr i9 0,g4,g5,.ptr i6 0,.int .i64 xx,g8,.int .i64 cc,aA,aB,aC,aD,aE,aF,aG,aH,aI,aJ,aK,aL,aM,aN,aO,aP,aQ,aR,aS,aT,aU,aV,aW,aX,aY,aZ,bA,bB,bC,bD,bE,bF,.int .i64 xx,.int .i64 z,bI,bJ,bK,bL,bM,bN,bO,bP,bQ,bR,bS,bT,bU,bV,bW,bX,bY,bZ,cA,cB,cC,cD,cE,cF,cG,cH,cI], [], h⟩ K) := by
  intro m
  induction m with
  | zero => intros; omega
  | succ m ih =>
    intro k z h g0 g1 g4 g5 g8 aA aB aC aD aE aF aG aH aI aJ aK aL aM aN aO aP aQ aR aS aT aU aV aW aX aY aZ bA bB bC bD bE bF bI bJ bK bL bM bN bO bP bQ bR bS bT bU bV bW bX bY bZ cA cB cC cD cE cF cG cH cI hz hi hm G g6 l6 kb
    rw [cIter_succ]
    conv => arg 1; whnf
    split
    · rename_i hd
      have hlt : k < x := by simp at hd; omega
      have hz' : IntKind.i64.wrap (z + 1) = ((k + 1 : Nat) : Int) := by rw [hz]; exact wrap_succ (by omega)
      have l8 : vOf h (aLoad Tryz.prog 109 (.ptr i8 0) h) = some (.ret (.fn (.func 77) [] [.ptr i7 0]), h) := ld_ptr (n := 1) G.g8 (by kernel_rfl) (by kernel_rfl) rfl
      obtain ⟨v, h2, q1, q2, q3, q4⟩ := c1 1 _ h G.bd (by simp; omega)
      rw [List.length_append, List.length_replicate] at q2
      have o1 := G.o1; have o2 := G.o2; have o3 := G.o3; have o4 := G.o4; have o5 := G.o5; have lt := G.lt
      have G2 := G.call q4 q3
      have cA := q4.1 _ _ g6 hob l6 (fun e => by have := congrArg Id.nat e; omega) (fun e => by have := congrArg Id.nat e; omega)
      have l62 : i6.nat < h2.next.nat := Nat.lt_of_lt_of_le l6 q4.2
      have kb2 := kb.trans (q4.weak (c := i7) (d := i10) (.inl rfl) (.inl rfl))
      have hcells : b.cells ++ List.replicate k 1 ++ [1] = b.cells ++ List.replicate (k + 1) 1 := by rw [List.append_assoc, ← List.replicate_succ']
      simp only [hcells] at G2
      conv => arg 1; whnf
      refine atCall_P (l8) ?_
      conv => arg 1; whnf
      refine atCall_P (q1) ?_
      conv => arg 1; whnf
      cases e1 : decide (z > 0)
      · have h0 : k = 0 := by simp at e1; omega
        subst h0
        conv => arg 1; whnf
        exact ih (0 + 1) hz' (by omega) (by omega) G2 cA l62 kb2
      · have h0 : 0 < k := by simp at e1; omega
        have l9 : ∀ h, h.get i9 = some (.cells [.fn (.func 78) [] [.ptr i7 0]] 110) → vOf h (aLoad Tryz.prog 110 (.ptr i9 0) h) = some (.ret (.fn (.func 78) [] [.ptr i7 0]), h) := fun h g => ld_ptr (n := 1) g (by kernel_rfl) (by kernel_rfl) rfl
        obtain ⟨h3, w1, w2, w3⟩ := c2 (IntKind.i64.wrap (v - 1), 1) (v, 0) _ h2 G2.bd (by simp [numW]; omega)
        have G3 := G2.call w3 w2
        have cB := w3.1 _ _ cA hob l62 (fun e => by have := congrArg Id.nat e; omega) (fun e => by have := congrArg Id.nat e; omega)
        have l63 : i6.nat < h3.next.nat := Nat.lt_of_lt_of_le l62 w3.2
        have kb3 := kb2.trans (w3.weak (c := i7) (d := i10) (.inl rfl) (.inl rfl))
        have hwires : b.wires ++ numW b.cells.length (k - 1) ++ [mkW (IntKind.i64.wrap (v - 1), 1) (v, 0)] = b.wires ++ numW b.cells.length (k + 1 - 1) := by
          rw [Nat.add_sub_cancel, numW_last b.cells.length h0 (a := IntKind.i64.wrap (v - 1)) (d := v) (by rw [wrap_small (by omega) (by omega)]; omega) (by omega), List.append_assoc]; rfl
        simp only [hwires] at G3
        conv => arg 1; whnf
        refine atRgn_N true (fun hh => hh.get i9 = some (.cells [.fn (.func 78) [] [.ptr i7 0]] 110)) (T := [0, 0, 2, 6, 0, 30, 63]) (ord := [0, 1, 2, 4, 3, 5, 6]) (by kernel_rfl) (hrg _ _ _) hN ?_
        conv => arg 1; whnf
        refine atCall_P (l9 h2 G2.g9) ?_
        conv => arg 1; whnf
        refine atCall_P (ua _ 1 h2) ?_
        conv => arg 1; whnf
        refine atCall_P (ua _ 0 h2) ?_
        conv => arg 1; whnf
        refine atCall_P (w1) ?_
        conv => arg 1; whnf
        refine atP_P ⟨?_, (fun k hk hp => match k, hk, hp with
          | 0, _, _ => G2.g9
          | 1, _, _ => G2.g9
          | 2, _, _ => G2.g9
          | 3, _, hp => no_pos hp (by kernel_rfl)
          | k + 4, hk, _ => absurd hk (by simp)), (fun a ha => by cases ha), rfl⟩ ?_
        · exact ⟨fun _ hh g => ⟨hh, l9 hh g⟩, trivial, trivial, trivial, trivial, trivial, trivial, trivial⟩
        conv => arg 1; whnf
        exact ih (k + 1) hz' (by omega) (by omega) G3 cB l63 kb3
    · rename_i hd
      have hlt : ¬ k < x := by simp at hd; omega
      have : k = x := by omega
      subst this
      exact hK G g6 l6 kb
end
section
variable {i1 i7 i8 i9 i10 i11 : Sk.Id} {x0 : AV} {t : List Int}

def hN3 (i1 i7 i8 i9 i10 i11 : Sk.Id) (x0 : AV) (t : List Int) (m : Nat) (call : CallT) : Prop := ∀ i b h b' p j, PB i1 i7 i8 i9 i10 i11 x0 i b h → bdF t m i b = some (b', p, j) → b'.cells.length ≤ 5000 → b'.wires.length ≤ 50000 →
  ∃ h', call (.func 79) [.ptr i1 0, .ptr i10 0, .ptr i8 0, .ptr i9 0, .ptr i11 0, .ptr i7 0] h = some (.ret (portV p), h') ∧ PB i1 i7 i8 i9 i10 i11 x0 j b' h' ∧ KeptB h.next.nat i7 i10 h h'

theorem bd_mono {m i : Nat} {b b' : Bd} {p : Pt} {j : Nat} (ht : ∀ x ∈ t, -2 ≤ x) (h : bdF t m i b = some (b', p, j)) : b.cells.length ≤ b'.cells.length ∧ b.wires.length ≤ b'.wires.length ∧ j ≤ t.length := by
  obtain ⟨o1, o2, C, W, c1, c2, _⟩ := bd_ok _ _ _ _ _ _ ht h
  rw [c1, c2]; simp [o2]

theorem PB.setB {i : Nat} {b : Bd} {h : AH} {i6 : Sk.Id} (G : PB i1 i7 i8 i9 i10 i11 x0 i b h) (h6 : i11.nat < i6.nat) (hng : NotGrp h i6) (o : AO) : PB i1 i7 i8 i9 i10 i11 x0 i b (h.set i6 o) := by
  obtain ⟨g1, aA, g8, g9, aB, bd, o1, o2, o3, o4, o5, lt⟩ := G
  have ne : ∀ {c : Sk.Id}, c.nat < i6.nat → c ≠ i6 := fun h e => by rw [e] at h; omega
  have up : ∀ {c : Sk.Id} {v : AO}, c.nat < i6.nat → h.get c = some v → (h.set i6 o).get c = some v := fun hc hv => by rw [AH.get_set, if_neg (ne hc)]; exact hv
  exact ⟨up (by omega) g1, up (by omega) aA, up (by omega) g8, up (by omega) g9, up (by omega) aB, bd.set o hng (fun e => ne (c := i7) (by omega) e.symm), o1, o2, o3, o4, o5, by rw [AH.next_set]; exact lt⟩

theorem bN3 (call rgn n) (hn : 10000 < n) (hx : IsL x0 (t.map intV)) (ht : ∀ x ∈ t, -2 ≤ x) (ht5 : t.length ≤ 100000) (c1 : hC1 i7 call) (c2 : hC2 i7 call) (ua : hUa call) (hrg : ∀ id ops st, rgn id ops st = drawn ⟨Tryz.prog, mu0, call⟩ 79 ops st) (m : Nat) (hB : hN3 i1 i7 i8 i9 i10 i11 x0 t m call)
    (i : Nat) (b : Bd) (h : AH) (b' : Bd) (p : Pt) (j : Nat) (G : PB i1 i7 i8 i9 i10 i11 x0 i b h) (hF : bdF t (m + 1) i b = some (b', p, j)) (hbc : b'.cells.length ≤ 5000) (hbw : b'.wires.length ≤ 50000) :
    ∃ h', B shT call rgn n 79 Tryz.f79 [.ptr i1 0, .ptr i10 0, .ptr i8 0, .ptr i9 0, .ptr i11 0, .ptr i7 0] h = some (.ret (portV p), h') ∧ PB i1 i7 i8 i9 i10 i11 x0 j b' h' ∧ KeptB h.next.nat i7 i10 h h' := by
  suffices hq : ∀ Q : Option (AOut × AH) → Prop, ¬ Q none → (∀ h', PB i1 i7 i8 i9 i10 i11 x0 j b' h' → KeptB h.next.nat i7 i10 h h' → Q (some (.ret (portV p), h'))) → Q (B shT call rgn n 79 Tryz.f79 [.ptr i1 0, .ptr i10 0, .ptr i8 0, .ptr i9 0, .ptr i11 0, .ptr i7 0] h) from
    hq (fun y => ∃ h', y = some (.ret (portV p), h') ∧ PB i1 i7 i8 i9 i10 i11 x0 j b' h' ∧ KeptB h.next.nat i7 i10 h h') (by rintro ⟨_, h, _⟩; cases h) (fun h' a b => ⟨h', rfl, a, b⟩)
  intro Q hN hQ
  have hm := bd_mono ht hF
  simp only [bdF] at hF
  cases e0 : t[i]? with
  | none => rw [e0] at hF; cases hF
  | some x =>
  rw [e0] at hF
  simp only at hF
  have hlt : i < t.length := (List.getElem?_eq_some_iff.1 e0).1
  have hxm : -2 ≤ x := ht x (List.mem_of_getElem? e0)
  have G1 := G.alloc (.cells [.int .i64 0, .int .i64 0] 65)
  have kb := (KeptB.refl i7 i10 h).alloc (.cells [.int .i64 0, .int .i64 0] 65)
  have lt0 := G.lt
  clear G
  conv => arg 1; whnf
  refine atCall_P (alloc_new (z := .agg [.int .i64 0, .int .i64 0]) (cs := [.int .i64 0, .int .i64 0]) (by kernel_rfl) rfl rfl) ?_
  generalize hh_h1 : h.alloc (.cells [.int .i64 0, .int .i64 0] 65) = h1 at *
  obtain ⟨a_i6, n_i6, k_h1⟩ := alloc_facts hh_h1
  clear hh_h1 k_h1
  generalize hi_i6 : h.next = i6 at *
  clear hi_i6
  have o6 : i11.nat < i6.nat := lt0
  have l6 : i6.nat < h1.next.nat := by omega
  have l1 : vOf h1 (aLoad Tryz.prog 40 (.ptr i1 0) h1) = some (.ret x0, h1) := ld_ptr (n := 1) G1.g1 (by kernel_rfl) (by kernel_rfl) rfl
  have l10 : vOf h1 (aLoad Tryz.prog 3 (.ptr i10 0) h1) = some (.ret (.int .i64 i), h1) := ld_ptr (n := 1) G1.aA (by kernel_rfl) (by kernel_rfl) rfl
  obtain ⟨y, y1, y2⟩ := idx_ints (h := h1) (a := (i : Int)) hx (by omega) (by omega)
  rw [Int.toNat_natCast, e0, Option.some.injEq] at y1
  subst y1
  have hw1 : IntKind.i64.wrap ((i : Int) + 1) = ((i + 1 : Nat) : Int) := wrap_succ (by omega)
  have st : hOf (aStore Tryz.prog 3 (.ptr i10 0) (.int .i64 (IntKind.i64.wrap ((i : Int) + 1))) h1) = some (.ret undefA, h1.set i10 (.cells [.int .i64 (IntKind.i64.wrap ((i : Int) + 1))] 3)) := st_ptr (n := 1) G1.aA (by kernel_rfl) rfl (by simp) rfl
  have G2 := G1.step hw1
  have kb2 := kb.set (.cells [.int .i64 (IntKind.i64.wrap ((i : Int) + 1))] 3) (.inr (.inr rfl))
  have g6 : (h1.set i10 (.cells [.int .i64 (IntKind.i64.wrap ((i : Int) + 1))] 3)).get i6 = some (.cells [.int .i64 0, .int .i64 0] 65) := by
    rw [AH.get_set, if_neg (by intro e; have := congrArg Sk.Id.nat e; have := G1.o5; omega)]; exact a_i6
  have l62 : i6.nat < (h1.set i10 (.cells [.int .i64 (IntKind.i64.wrap ((i : Int) + 1))] 3)).next.nat := by rw [AH.next_set]; exact l6
  conv => arg 1; whnf
  refine atCall_P (l1) ?_
  conv => arg 1; whnf
  refine atCall_P (l10) ?_
  conv => arg 1; whnf
  refine atCall_P (y2) ?_
  conv => arg 1; whnf
  refine atCall_P (l10) ?_
  conv => arg 1; whnf
  refine atCall_P (st) ?_
  clear st l1 l10 y2 a_i6
  generalize h1.set i10 (.cells [.int .i64 (IntKind.i64.wrap ((i : Int) + 1))] 3) = h2 at *
  conv => arg 1; whnf
  have hob : ∀ n, AO.cells [.int .i64 0, .int .i64 0] 65 ≠ .grp n := fun n => nofun
  have o1 := G2.o1; have o2 := G2.o2; have o3 := G2.o3; have o4 := G2.o4; have o5 := G2.o5
  have ne67 : i6 ≠ i7 := fun e => by have := congrArg Sk.Id.nat e; omega
  have ne610 : i6 ≠ i10 := fun e => by have := congrArg Sk.Id.nat e; omega
  have l8 : ∀ h, h.get i8 = some (.cells [.fn (.func 77) [] [.ptr i7 0]] 109) → vOf h (aLoad Tryz.prog 109 (.ptr i8 0) h) = some (.ret (.fn (.func 77) [] [.ptr i7 0]), h) := fun h g => ld_ptr (n := 1) g (by kernel_rfl) (by kernel_rfl) rfl
  have l9 : ∀ h, h.get i9 = some (.cells [.fn (.func 78) [] [.ptr i7 0]] 110) → vOf h (aLoad Tryz.prog 110 (.ptr i9 0) h) = some (.ret (.fn (.func 78) [] [.ptr i7 0]), h) := fun h g => ld_ptr (n := 1) g (by kernel_rfl) (by kernel_rfl) rfl
  have l11 : ∀ h, h.get i11 = some (.cells [.fn (.func 79) [] [.ptr i1 0, .ptr i10 0, .ptr i8 0, .ptr i9 0, .ptr i11 0, .ptr i7 0]] 111) → vOf h (aLoad Tryz.prog 111 (.ptr i11 0) h) = some (.ret (.fn (.func 79) [] [.ptr i1 0, .ptr i10 0, .ptr i8 0, .ptr i9 0, .ptr i11 0, .ptr i7 0]), h) := fun h g => ld_ptr (n := 1) g (by kernel_rfl) (by kernel_rfl) rfl
  -- the end: the answer is stored
  have fin : ∀ (h7 : AH) (b7 : Bd) (j7 : Nat) (q : Pt), PB i1 i7 i8 i9 i10 i11 x0 j7 b7 h7 → h7.get i6 = some (.cells [.int .i64 0, .int .i64 0] 65) → KeptB i6.nat i7 i10 h h7 → b7 = b' → j7 = j → q = p →
      ∃ h8, hOf (aStore Tryz.prog 65 (.ptr i6 0) (portV q) h7) = some (.ret undefA, h8) ∧ aLoad Tryz.prog 65 (.ptr i6 0) h8 = some (portV q) ∧ Q (some (.ret (portV q), h8)) := fun h7 b7 j7 q G7 g7 k7 eb ej ep => by
    subst eb; subst ej; subst ep
    obtain ⟨q0, q1⟩ := q
    refine ⟨h7.set i6 (.cells [.int .i64 q0, .int .i64 q1] 65), st_ptr (n := 2) g7 (by kernel_rfl) rfl (by simp) rfl, ld_val (ld_agg (r := i6) (off := 0) (cs := [.int .i64 q0, .int .i64 q1]) (T := 65) (n := 2) (by rw [AH.get_set, if_pos rfl]) (by kernel_rfl) (by kernel_rfl) (by simp)), hQ _ (G7.setB o6 (notGrp g7) _) (k7.set _ (.inl (Nat.le_refl _)))⟩
  cases e1 : decide (x < 0)
  · -- a number
    have hx0 : ¬ x < 0 := by simpa using e1
    rw [if_neg hx0] at hF
    simp only [Option.some.injEq, Prod.mk.injEq] at hF
    obtain ⟨rfl, rfl, rfl⟩ := hF
    simp only [numB, List.length_append, List.length_replicate, List.length_cons, List.length_nil] at hbc hbw hm
    obtain ⟨X, hX⟩ : ∃ X : Nat, x = X := ⟨x.toNat, by omega⟩
    subst hX
    simp only [Int.toNat_natCast] at hbc hbw hm
    obtain ⟨⟨cl, wl, hg, hc, hw, hd⟩, lt7⟩ := G2.bd
    have lcl : vOf h2 (aLoad Tryz.prog 40 (.ptr i7 0) h2) = some (.ret cl, h2) := ld_ptr (n := 1) hg (by kernel_rfl) (by kernel_rfl) rfl
    have hln := len_L (X := ⟨Tryz.prog, mu0, call⟩) (mu := false) (h := h2) (t := 40) (e := 3) (by kernel_rfl) hc.isL
    rw [List.length_map] at hln
    conv => arg 1; whnf
    conv => arg 1; whnf
    refine atCall_P (lcl) ?_
    conv => arg 1; whnf
    refine atCall_P (hln) ?_
    conv => arg 1; whnf
    refine lNm (x := X) (b := b) (i := i + 1) (n0 := i6.nat) (gg := h) (i6 := i6) (ob := .cells [.int .i64 0, .int .i64 0] 65) call rgn n c1 c2 ua hrg (by omega) (by omega) (by omega) o6 hob hN rfl ?_ n 0 (z := 0) rfl (Nat.zero_le _) (by omega) (by simpa [numW] using G2) g6 l62 kb2
    intro h3 g0 g1 g4 g5 g8 aA aB aC aD aE aF aG aH aI aJ aK aL aM aN aO aP aQ aR aS aT aU aV aW aX aY aZ bA bB bC bD bE bF bG bH bI bJ bK bL bM bN bO bP bQ bR bS bT bU bV bW bX bY bZ cA cB cC cD cE cF cG cH cI G3 cB l63 kb3
    obtain ⟨v, h4, q1, q2, q3, q4⟩ := c1 0 _ h3 G3.bd (by simp; omega)
    rw [List.length_append, List.length_replicate] at q2
    have G4 := G3.call q4 q3
    have cC := q4.1 _ _ cB hob l63 ne67 ne67
    have l64 : i6.nat < h4.next.nat := Nat.lt_of_lt_of_le l63 q4.2
    have kb4 := kb3.trans (q4.weak (c := i7) (d := i10) (.inl rfl) (.inl rfl))
    conv => arg 1; whnf
    refine atCall_P (l8 h3 G3.g8) ?_
    conv => arg 1; whnf
    refine atCall_P (q1) ?_
    conv => arg 1; whnf
    cases e2 : decide ((X : Int) > 0)
    · have h0 : X = 0 := by simp at e2; omega
      subst h0
      obtain ⟨h8, s1, s2, s3⟩ := fin h4 _ _ _ G4 cC kb4 (by simp [numB, numW]) rfl rfl
      conv => arg 1; whnf
      conv => arg 1; whnf
      refine atCall_P (ua (b.cells.length : Int) 0 h4) ?_
      conv => arg 1; whnf
      refine atCall_P (s1) ?_
      conv => arg 1; whnf
      refine atLeave_P (leave_plain (.inl rfl) (l := [portV ((b.cells.length : Int), 0)]) ?_) s3
      show (match aLoad Tryz.prog 65 (.ptr i6 0) h8, some ([] : List AV) with | some v, some l => some (v :: l) | _, _ => none) = _
      rw [s2]
    · have h0 : 0 < X := by simp at e2; omega
      obtain ⟨h5, w1, w2, w3⟩ := c2 (IntKind.i64.wrap (v - 1), 1) (v, 0) _ h4 G4.bd (by simp [numW]; omega)
      have G5 := G4.call w3 w2
      have cD := w3.1 _ _ cC hob l64 ne67 ne67
      have l65 : i6.nat < h5.next.nat := Nat.lt_of_lt_of_le l64 w3.2
      have kb5 := kb4.trans (w3.weak (c := i7) (d := i10) (.inl rfl) (.inl rfl))
      obtain ⟨h8, s1, s2, s3⟩ := fin h5 _ _ _ G5 cD kb5 (by
        simp only [numB, Int.toNat_natCast, List.append_assoc, Bd.mk.injEq, true_and]
        congr 1
        rw [numW_last b.cells.length h0 (a := IntKind.i64.wrap (v - 1)) (d := v) (by rw [wrap_small (by omega) (by omega)]; omega) (by omega)]; rfl) rfl rfl
      conv => arg 1; whnf
      refine atRgn_N true (fun hh => hh.get i9 = some (.cells [.fn (.func 78) [] [.ptr i7 0]] 110)) (T := [0, 0, 2, 6, 0, 30, 63]) (ord := [0, 1, 2, 4, 3, 5, 6]) (by kernel_rfl) (hrg _ _ _) hN ?_
      conv => arg 1; whnf
      refine atCall_P (l9 h4 G4.g9) ?_
      conv => arg 1; whnf
      refine atCall_P (ua _ 1 h4) ?_
      conv => arg 1; whnf
      refine atCall_P (ua _ 0 h4) ?_
      conv => arg 1; whnf
      refine atCall_P (w1) ?_
      conv => arg 1; whnf
      refine atP_P ⟨?_, (fun k hk hp => match k, hk, hp with
        | 0, _, _ => G4.g9
        | 1, _, _ => G4.g9
        | 2, _, _ => G4.g9
        | 3, _, hp => no_pos hp (by kernel_rfl)
        | k + 4, hk, _ => absurd hk (by simp)), (fun a ha => by cases ha), rfl⟩ ?_
      · exact ⟨fun _ hh g => ⟨hh, l9 hh g⟩, trivial, trivial, trivial, trivial, trivial, trivial, trivial⟩
      conv => arg 1; whnf
      conv => arg 1; whnf
      refine atCall_P (ua (b.cells.length : Int) 0 h5) ?_
      conv => arg 1; whnf
      refine atCall_P (s1) ?_
      conv => arg 1; whnf
      refine atLeave_P (leave_plain (.inl rfl) (l := [portV ((b.cells.length : Int), 0)]) ?_) s3
      show (match aLoad Tryz.prog 65 (.ptr i6 0) h8, some ([] : List AV) with | some v, some l => some (v :: l) | _, _ => none) = _
      rw [s2]
  · -- a sum, a product
    have hx0 : x < 0 := by simpa using e1
    rw [if_pos hx0] at hF
    cases ea : bdF t m (i + 1) ⟨b.cells ++ [1 - x], b.wires⟩ with
    | none => rw [ea] at hF; cases hF
    | some y1 =>
    obtain ⟨b1, p1, j1⟩ := y1
    rw [ea] at hF
    simp only at hF
    cases eb : bdF t m j1 ⟨b1.cells, b1.wires ++ [mkW ((b.cells.length : Int), 0) p1]⟩ with
    | none => rw [eb] at hF; cases hF
    | some y2 =>
    obtain ⟨b2, p2, j2⟩ := y2
    rw [eb] at hF
    simp only [Option.some.injEq, Prod.mk.injEq] at hF
    obtain ⟨rfl, rfl, rfl⟩ := hF
    obtain ⟨ma1, ma2, ma3⟩ := bd_mono ht ea
    obtain ⟨mb1, mb2, mb3⟩ := bd_mono ht eb
    simp only [List.length_append, List.length_cons, List.length_nil] at ma1 ma2 mb1 mb2 hbc hbw hm
    have hwx : IntKind.i64.wrap (1 - x) = 1 - x := wrap_small (by omega) (by omega)
    obtain ⟨v, h3, q1, q2, q3, q4⟩ := c1 (1 - x) _ h2 G2.bd (by omega)
    subst q2
    have G3 := G2.call q4 q3
    have cB := q4.1 _ _ g6 hob l62 ne67 ne67
    have l63 : i6.nat < h3.next.nat := Nat.lt_of_lt_of_le l62 q4.2
    have kb3 := kb2.trans (q4.weak (c := i7) (d := i10) (.inl rfl) (.inl rfl))
    rw [← hwx] at q1
    obtain ⟨h4, r1, G4, r3⟩ := hB _ _ h3 b1 p1 j1 G3 ea (by omega) (by omega)
    have cC := r3.1 _ _ cB hob l63 ne67 ne610
    have l64 : i6.nat < h4.next.nat := Nat.lt_of_lt_of_le l63 r3.2
    have kb4 := kb3.trans r3
    obtain ⟨h5, w1, w2, w3⟩ := c2 ((b.cells.length : Int), 0) p1 _ h4 G4.bd (by omega)
    have G5 := G4.call w3 w2
    have cD := w3.1 _ _ cC hob l64 ne67 ne67
    have l65 : i6.nat < h5.next.nat := Nat.lt_of_lt_of_le l64 w3.2
    have kb5 := kb4.trans (w3.weak (c := i7) (d := i10) (.inl rfl) (.inl rfl))
    obtain ⟨h6, r1', G6, r3'⟩ := hB _ _ h5 b2 p2 j2 G5 eb (by omega) (by omega)
    have cE := r3'.1 _ _ cD hob l65 ne67 ne610
    have l66 : i6.nat < h6.next.nat := Nat.lt_of_lt_of_le l65 r3'.2
    have kb6 := kb5.trans r3'
    obtain ⟨h7, w1', w2', w3'⟩ := c2 ((b.cells.length : Int), 1) p2 _ h6 G6.bd (by omega)
    have G7 := G6.call w3' w2'
    have cF := w3'.1 _ _ cE hob l66 ne67 ne67
    have kb7 := kb6.trans (w3'.weak (c := i7) (d := i10) (.inl rfl) (.inl rfl))
    obtain ⟨h8, s1, s2, s3⟩ := fin h7 _ _ _ G7 cF kb7 rfl rfl rfl
    conv => arg 1; whnf
    conv => arg 1; whnf
    refine atCall_P (l8 h2 G2.g8) ?_
    conv => arg 1; whnf
    refine atCall_P (q1) ?_
    conv => arg 1; whnf
    refine atRgn_N true (fun hh => hh.get i9 = some (.cells [.fn (.func 78) [] [.ptr i7 0]] 110) ∧ hh.get i11 = some (.cells [.fn (.func 79) [] [.ptr i1 0, .ptr i10 0, .ptr i8 0, .ptr i9 0, .ptr i11 0, .ptr i7 0]] 111)) (T := [0, 0, 2, 0, 14, 31]) (ord := [0, 1, 3, 2, 4, 5]) (by kernel_rfl) (hrg _ _ _) hN ?_
    conv => arg 1; whnf
    refine atCall_P (l9 h3 G3.g9) ?_
    conv => arg 1; whnf
    refine atCall_P (l11 h3 G3.aB) ?_
    conv => arg 1; whnf
    refine atCall_P (ua (b.cells.length : Int) 0 h3) ?_
    conv => arg 1; whnf
    refine atCall_P (r1) ?_
    conv => arg 1; whnf
    refine atCall_P (w1) ?_
    conv => arg 1; whnf
    refine atP_P ⟨?_, (fun k hk hp => match k, hk, hp with
      | 0, _, _ => ⟨G3.g9, G3.aB⟩
      | 1, _, _ => ⟨G3.g9, G3.aB⟩
      | 2, _, _ => ⟨G4.g9, G4.aB⟩
      | 3, _, hp => no_pos hp (by kernel_rfl)
      | k + 4, hk, _ => absurd hk (by simp)), (fun a ha => by cases ha), rfl⟩ ?_
    · exact ⟨fun _ hh g => ⟨hh, l9 hh g.1⟩, trivial, fun _ hh g => ⟨hh, l11 hh g.2⟩, trivial, trivial, trivial, trivial⟩
    conv => arg 1; whnf
    refine atRgn_N true (fun hh => hh.get i9 = some (.cells [.fn (.func 78) [] [.ptr i7 0]] 110) ∧ hh.get i11 = some (.cells [.fn (.func 79) [] [.ptr i1 0, .ptr i10 0, .ptr i8 0, .ptr i9 0, .ptr i11 0, .ptr i7 0]] 111)) (T := [0, 0, 2, 0, 14, 31]) (ord := [0, 1, 3, 2, 4, 5]) (by kernel_rfl) (hrg _ _ _) hN ?_
    conv => arg 1; whnf
    refine atCall_P (l9 h5 G5.g9) ?_
    conv => arg 1; whnf
    refine atCall_P (l11 h5 G5.aB) ?_
    conv => arg 1; whnf
    refine atCall_P (ua (b.cells.length : Int) 1 h5) ?_
    conv => arg 1; whnf
    refine atCall_P (r1') ?_
    conv => arg 1; whnf
    refine atCall_P (w1') ?_
    conv => arg 1; whnf
    refine atP_P ⟨?_, (fun k hk hp => match k, hk, hp with
      | 0, _, _ => ⟨G5.g9, G5.aB⟩
      | 1, _, _ => ⟨G5.g9, G5.aB⟩
      | 2, _, _ => ⟨G6.g9, G6.aB⟩
      | 3, _, hp => no_pos hp (by kernel_rfl)
      | k + 4, hk, _ => absurd hk (by simp)), (fun a ha => by cases ha), rfl⟩ ?_
    · exact ⟨fun _ hh g => ⟨hh, l9 hh g.1⟩, trivial, fun _ hh g => ⟨hh, l11 hh g.2⟩, trivial, trivial, trivial, trivial⟩
    conv => arg 1; whnf
    conv => arg 1; whnf
    refine atCall_P (ua (b.cells.length : Int) 2 h7) ?_
    conv => arg 1; whnf
    refine atCall_P (s1) ?_
    conv => arg 1; whnf
    refine atLeave_P (leave_plain (.inl rfl) (l := [portV ((b.cells.length : Int), 2)]) ?_) s3
    show (match aLoad Tryz.prog 65 (.ptr i6 0) h8, some ([] : List AV) with | some v, some l => some (v :: l) | _, _ => none) = _
    rw [s2]
end
section
variable {t : List Int} {x : AV}

theorem lSz (call rgn n) (hx : IsL x (t.map intV)) {L : Nat} (hL : t.length = L) (hL8 : L ≤ 100000) {i1 i2 : Sk.Id} (res : Bool) {h : AH} (g2 : h.get i2 = some (.cells [.nilsl, .int .i64 0, .nilsl] 43)) {K : KC (AOut × AH)} {Q : Option (AOut × AH) → Prop}
    (hR : res = false → ∀ {h' : AH} {g0 g1 g4 g5 g6 g7 g8 g9 aA aB aC aD aE aF aG aH aI aJ aK aL aM aN aO aP aQ aR aS aT aU aV aW aX aY aZ bA bB bC bD bE bF bG bH bI bJ bK bL : AV}, h'.get i2 = some (.cells [.nilsl, .int .i64 0, .nilsl] 43) → Q (K .ret ⟨[g0,g1,.ptr i2 0,.int .i64 15,g4,g5,g6,g7,g8,g9,aA,aB,aC,aD,aE,aF,aG,aH,aI,aJ,aK,aL,aM,aN,aO,aP,aQ,aR,aS,aT,aU,aV,aW,aX,aY,aZ,bA,bB,bC,bD,bE,bF,bG,bH,bI,bJ,bK,bL], [], h'⟩))
    (hK : res = true → ∀ {g0 g3 g4 g5 g6 g7 g8 g9 aA aB aC aD aE aF aG aH aI aJ aK aL aM aN aO aP aQ aR aS aT aU aV aW aX aY aZ bA bB bC bD bE bF bG bH bI bJ bK bL : AV}, Q (K (.exit 0) ⟨[g0,.ptr i1 0,.ptr i2 0,g3,g4,g5,g6,g7,g8,g9,aA,aB,aC,aD,aE,aF,aG,aH,aI,aJ,aK,aL,aM,aN,aO,aP,aQ,aR,aS,aT,aU,aV,aW,aX,aY,aZ,bA,bB,bC,bD,bE,bF,bG,bH,bI,bJ,bK,bL], [], h⟩)) :
    ∀ (m i c : Nat) {z y : Int} {g0 g3 g5 g6 g7 g8 g9 aA aB aC aD aE aF aJ aK aL aM aN aO aP aQ aR aS aT aU aV aW aX aY aZ bA bB bC bD bE bF bG bH bI bJ bK bL : AV}, z = i → y = c → i ≤ L → L - i < m → c ≤ 4096 → decide (c + sizeT' (t.drop i) ≤ 4096) = res →
    Q (cIter (LB shT call rgn n 32 Tryz.f32 0) m ⟨[g0,.ptr i1 0,.ptr i2 0,g3,.int .i64 y,g5,g6,g7,g8,g9,aA,aB,aC,aD,aE,aF,x,.int .i64 L,.int .i64 z,aJ,aK,aL,aM,aN,aO,aP,aQ,aR,aS,aT,aU,aV,aW,aX,aY,aZ,bA,bB,bC,bD,bE,bF,bG,bH,bI,bJ,bK,bL], [], h⟩ K) := by
  have u : Tryz.prog.underlying 40 = some (.slice 3) := by kernel_rfl
  intro m
  induction m with
  | zero => intros; omega
  | succ m ih =>
    intro i c z y g0 g3 g5 g6 g7 g8 g9 aA aB aC aD aE aF aJ aK aL aM aN aO aP aQ aR aS aT aU aV aW aX aY aZ bA bB bC bD bE bF bG bH bI bJ bK bL hz hy hi hm hc hF
    rw [cIter_succ]
    conv => arg 1; whnf
    split
    · rename_i hd
      have hlt : i < t.length := by simp at hd; omega
      have hdrop : t.drop i = t[i] :: t.drop (i + 1) := List.drop_eq_getElem_cons hlt
      obtain ⟨y0, y1, y2⟩ := idx_ints (h := h) (a := z) hx (by omega) (by omega)
      rw [show z.toNat = i by omega, List.getElem?_eq_getElem hlt, Option.some.injEq] at y1
      rw [hdrop, y1] at hF
      simp only [sizeT'] at hF
      have hz' : IntKind.i64.wrap (z + 1) = ((i + 1 : Nat) : Int) := by rw [hz]; exact wrap_succ (by omega)
      have st : hOf (aStore Tryz.prog 43 (.ptr i2 0) (.agg [.nilsl, .int .i64 0, .nilsl]) h) = some (.ret undefA, h.set i2 (.cells [.nilsl, .int .i64 0, .nilsl] 43)) := st_ptr (n := 3) g2 (by kernel_rfl) rfl (by simp) rfl
      have gs : (h.set i2 (.cells [.nilsl, .int .i64 0, .nilsl] 43)).get i2 = some (.cells [.nilsl, .int .i64 0, .nilsl] 43) := by rw [AH.get_set, if_pos rfl]
      conv => arg 1; whnf
      refine atCall_P (y2) ?_
      conv => arg 1; whnf
      cases e1 : decide (y0 > 4096)
      · have h1 : ¬ y0 > 4096 := by simpa using e1
        conv => arg 1; whnf
        have hmx : (if 0 > y0 then (0 : Int) else y0) = ((y0.toNat : Nat) : Int) := by split <;> omega
        have hw : IntKind.i64.wrap (y + IntKind.i64.wrap (1 + if 0 > y0 then 0 else y0)) = ((c + (1 + y0.toNat) : Nat) : Int) := by
          rw [hmx, wrap_small (a := 1 + ((y0.toNat : Nat) : Int)) (by omega) (by omega), wrap_small (by omega) (by omega)]; omega
        rw [hw]
        cases e2 : decide (((c + (1 + y0.toNat) : Nat) : Int) > 4096)
        · have h2 : ¬ ((c + (1 + y0.toNat) : Nat) : Int) > 4096 := by simpa using e2
          conv => arg 1; whnf
          exact ih (i + 1) (c + (1 + y0.toNat)) hz' rfl (by omega) (by omega) (by omega) (by rw [← hF]; congr 1; rw [eq_iff_iff]; omega)
        · have h2 : ((c + (1 + y0.toNat) : Nat) : Int) > 4096 := by simpa using e2
          conv => arg 1; whnf
          conv => arg 1; whnf
          refine atCall_P (st) ?_
          conv => arg 1; whnf
          exact hR (by rw [← hF]; exact decide_eq_false (by omega)) gs
      · have h1 : y0 > 4096 := by simpa using e1
        conv => arg 1; whnf
        conv => arg 1; whnf
        refine atCall_P (st) ?_
        conv => arg 1; whnf
        exact hR (by rw [← hF]; exact decide_eq_false (by omega)) gs
    · rename_i hd
      have hlt : ¬ i < L := by simp at hd; omega
      refine hK ?_
      rw [← hF, List.drop_eq_nil_of_le (by omega)]
      exact (decide_eq_true (by simp only [sizeT']; omega)).symm.symm

/-- A term's net, put together. -/
def netT (t : List Int) : Nt := match bdF t (t.length + 1) 0 ⟨[], []⟩ with | some (b, p, _) => bdNt b p | none => ⟨[], 0, []⟩
def unaryV (t : List Int) : AV := if tfF t 1 = false then .tup [zNet, .int .i64 62] else if 4096 < sizeT' t then .tup [zNet, .int .i64 15] else .tup [netW (tidyN sigU (netT t)), .int .i64 0]

theorem bUN (call rgn n) (hx : IsL x (t.map intV)) (hL8 : t.length ≤ 100000) (hn : t.length + 1 < n) (hTm : ∀ h, call (.func 76) [x] h = some (.ret (.bool (tfF t 1)), h)) (hFr : ∀ (k : Int) h, call (.func 73) [.int .i64 k] h = some (.ret (portV (-1, k)), h))
    (hB : ∀ i1 i7 i8 i9 i10 i11, (∀ x ∈ t, -2 ≤ x) → hN3 i1 i7 i8 i9 i10 i11 x t (t.length + 1) call) (c2 : ∀ i7, hC2 i7 call) (hSU : ∀ h, call (.func 71) [] h = some (.ret sigUV, h)) (hTi : h13 call) (hrg : ∀ id ops st, rgn id ops st = drawn ⟨Tryz.prog, mu0, call⟩ 32 ops st) (h : AH) :
    ∃ h', B shT call rgn n 32 Tryz.f32 [x] h = some (.ret (unaryV t), h') := by
  suffices hq : ∀ Q : Option (AOut × AH) → Prop, ¬ Q none → (∀ v h', v = unaryV t → Q (some (.ret v, h'))) → Q (B shT call rgn n 32 Tryz.f32 [x] h) from
    hq (fun y => ∃ h', y = some (.ret (unaryV t), h')) (by rintro ⟨h, he⟩; cases he) (fun v h' e => ⟨h', by rw [e]⟩)
  intro Q hN hQ
  have u : Tryz.prog.underlying 40 = some (.slice 3) := by kernel_rfl
  have hxc := isL_cells hx
  have hxs := isL_scalar hx
  conv => arg 1; whnf
  refine atCall_P (box_new (cs := [x]) hxc (by simp only [List.all_cons, hxs, List.all_nil]; rfl)) ?_
  generalize hh_h1 : h.alloc (.cells [x] 40) = h1 at *
  obtain ⟨a_i1, n_i1, k_h1⟩ := alloc_facts hh_h1
  clear hh_h1 k_h1
  generalize hi_i1 : h.next = i1 at *
  clear hi_i1
  conv => arg 1; whnf
  refine atCall_P (alloc_new (z := .agg [.nilsl, .int .i64 0, .nilsl]) (cs := [.nilsl, .int .i64 0, .nilsl]) (by kernel_rfl) rfl rfl) ?_
  generalize hh_h2 : h1.alloc (.cells [.nilsl, .int .i64 0, .nilsl] 43) = h2 at *
  obtain ⟨a_i2, n_i2, k_h2⟩ := alloc_facts hh_h2
  replace a_i1 := k_h2 _ _ a_i1 (by omega)
  clear hh_h2 k_h2
  generalize hi_i2 : h1.next = i2 at *
  clear hi_i2
  have l1 : vOf h2 (aLoad Tryz.prog 40 (.ptr i1 0) h2) = some (.ret x, h2) := ld_ptr (n := 1) a_i1 (by kernel_rfl) (by kernel_rfl) rfl
  have zend : ∀ (h' : AH) (e : Int), h'.get i2 = some (.cells [.nilsl, .int .i64 0, .nilsl] 43) → aLoad Tryz.prog 43 (.ptr i2 0) h' = some zNet := fun h' e g => ld_val (ld_agg (n := 3) g (by kernel_rfl) (by kernel_rfl) (by simp))
  conv => arg 1; whnf
  refine atCall_P (l1) ?_
  conv => arg 1; whnf
  refine atCall_P (hTm h2) ?_
  conv => arg 1; whnf
  cases e1 : tfF t 1
  · have st : hOf (aStore Tryz.prog 43 (.ptr i2 0) (.agg [.nilsl, .int .i64 0, .nilsl]) h2) = some (.ret undefA, h2.set i2 (.cells [.nilsl, .int .i64 0, .nilsl] 43)) := st_ptr (n := 3) a_i2 (by kernel_rfl) rfl (by simp) rfl
    conv => arg 1; whnf
    conv => arg 1; whnf
    refine atCall_P (st) ?_
    conv => arg 1; whnf
    refine atLeave_P (leave_plain (.inl rfl) (l := [zNet, .int .i64 62]) ?_) (hQ _ _ (by unfold unaryV; rw [if_pos e1]; rfl))
    show (match aLoad Tryz.prog 43 (.ptr i2 0) _, some [AV.int .i64 62] with | some v, some l => some (v :: l) | _, _ => none) = _
    rw [zend _ 0 (by rw [AH.get_set, if_pos rfl])]
  have hlen := len_L (X := ⟨Tryz.prog, mu0, call⟩) (mu := false) (h := h2) u hx
  rw [List.length_map] at hlen
  conv => arg 1; whnf
  conv => arg 1; whnf
  refine atCall_P (l1) ?_
  conv => arg 1; whnf
  refine atCall_P (hlen) ?_
  conv => arg 1; whnf
  refine lSz (i1 := i1) (i2 := i2) call rgn n hx rfl hL8 (decide (0 + sizeT' (t.drop 0) ≤ 4096)) a_i2 ?_ ?_ n 0 0 (z := 0) (y := 0) rfl rfl (Nat.zero_le _) (by omega) (by omega) rfl
  · intro hb h' g0 g1 g4 g5 g6 g7 g8 g9 aA aB aC aD aE aF aG aH aI aJ aK aL aM aN aO aP aQ aR aS aT aU aV aW aX aY aZ bA bB bC bD bE bF bG bH bI bJ bK bL g2
    have hs : ¬ 0 + sizeT' (t.drop 0) ≤ 4096 := by simpa using hb
    rw [List.drop_zero] at hs
    refine atLeave_P (leave_plain (.inl rfl) (l := [zNet, .int .i64 15]) ?_) (hQ _ _ (by unfold unaryV; rw [if_neg (by rw [e1]; simp), if_pos (by omega)]; rfl))
    show (match aLoad Tryz.prog 43 (.ptr i2 0) _, some [AV.int .i64 15] with | some v, some l => some (v :: l) | _, _ => none) = _
    rw [zend _ 0 g2]
  intro hb g0 g3 g4 g5 g6 g7 g8 g9 aA aB aC aD aE aF aG aH aI aJ aK aL aM aN aO aP aQ aR aS aT aU aV aW aX aY aZ bA bB bC bD bE bF bG bH bI bJ bK bL
  have hs : 0 + sizeT' (t.drop 0) ≤ 4096 := by simpa using hb
  rw [List.drop_zero] at hs
  obtain ⟨b, p, t1, t2, t3, t4⟩ := term_good e1 (show sizeT' t ≤ 4096 by omega)
  have hlow := tf_low t 1 e1
  have hnt : netT t = bdNt b p := by unfold netT; rw [t1]
  have hv : unaryV t = .tup [netW (tidyN sigU (bdNt b p)), .int .i64 0] := by unfold unaryV; rw [if_neg (by rw [e1]; simp), if_neg (by omega), hnt]
  conv => arg 1; whnf
  conv => arg 1; whnf
  refine atCall_P (alloc_new (z := .agg [.nilsl, .int .i64 0, .nilsl]) (cs := [.nilsl, .int .i64 0, .nilsl]) (by kernel_rfl) rfl rfl) ?_
  generalize hh_h3 : h2.alloc (.cells [.nilsl, .int .i64 0, .nilsl] 43) = h3 at *
  obtain ⟨a_i7, n_i7, k_h3⟩ := alloc_facts hh_h3
  replace a_i1 := k_h3 _ _ a_i1 (by omega)
  replace a_i2 := k_h3 _ _ a_i2 (by omega)
  clear hh_h3 k_h3
  generalize hi_i7 : h2.next = i7 at *
  clear hi_i7
  have st7 : hOf (aStore Tryz.prog 43 (.ptr i7 0) (.agg [.nilsl, .int .i64 1, .nilsl]) h3) = some (.ret undefA, h3.set i7 (.cells [.nilsl, .int .i64 1, .nilsl] 43)) := st_ptr (n := 3) a_i7 (by kernel_rfl) rfl (by simp) rfl
  conv => arg 1; whnf
  refine atCall_P (st7) ?_
  clear st7
  generalize hh_h4 : h3.set i7 (.cells [.nilsl, .int .i64 1, .nilsl] 43) = h4 at *
  obtain ⟨b_i7, n_h4, k_h4⟩ := set_facts hh_h4
  replace a_i1 := k_h4 _ _ a_i1 (by rintro rfl; omega)
  replace a_i2 := k_h4 _ _ a_i2 (by rintro rfl; omega)
  clear hh_h4 k_h4
  replace n_h4 : h4.next.nat = h3.next.nat := congrArg Id.nat n_h4
  conv => arg 1; whnf
  refine atCall_P (alloc_new (z := .nilfn) (cs := [.nilfn]) (by kernel_rfl) rfl rfl) ?_
  generalize hh_h5 : h4.alloc (.cells [.nilfn] 109) = h5 at *
  obtain ⟨a_i8, n_i8, k_h5⟩ := alloc_facts hh_h5
  replace a_i1 := k_h5 _ _ a_i1 (by omega)
  replace a_i2 := k_h5 _ _ a_i2 (by omega)
  replace b_i7 := k_h5 _ _ b_i7 (by omega)
  clear hh_h5 k_h5
  generalize hi_i8 : h4.next = i8 at *
  clear hi_i8
  have st8 : hOf (aStore Tryz.prog 109 (.ptr i8 0) (.fn (.func 77) [] [.ptr i7 0]) h5) = some (.ret undefA, h5.set i8 (.cells [.fn (.func 77) [] [.ptr i7 0]] 109)) := st_ptr (n := 1) a_i8 (by kernel_rfl) rfl (by simp) rfl
  conv => arg 1; whnf
  refine atCall_P (st8) ?_
  clear st8
  generalize hh_h6 : h5.set i8 (.cells [.fn (.func 77) [] [.ptr i7 0]] 109) = h6 at *
  obtain ⟨b_i8, n_h6, k_h6⟩ := set_facts hh_h6
  replace a_i1 := k_h6 _ _ a_i1 (by rintro rfl; omega)
  replace a_i2 := k_h6 _ _ a_i2 (by rintro rfl; omega)
  replace b_i7 := k_h6 _ _ b_i7 (by rintro rfl; omega)
  clear hh_h6 k_h6
  replace n_h6 : h6.next.nat = h5.next.nat := congrArg Id.nat n_h6
  conv => arg 1; whnf
  refine atCall_P (alloc_new (z := .nilfn) (cs := [.nilfn]) (by kernel_rfl) rfl rfl) ?_
  generalize hh_h7 : h6.alloc (.cells [.nilfn] 110) = h7 at *
  obtain ⟨a_i9, n_i9, k_h7⟩ := alloc_facts hh_h7
  replace a_i1 := k_h7 _ _ a_i1 (by omega)
  replace a_i2 := k_h7 _ _ a_i2 (by omega)
  replace b_i7 := k_h7 _ _ b_i7 (by omega)
  replace b_i8 := k_h7 _ _ b_i8 (by omega)
  clear hh_h7 k_h7
  generalize hi_i9 : h6.next = i9 at *
  clear hi_i9
  have st9 : hOf (aStore Tryz.prog 110 (.ptr i9 0) (.fn (.func 78) [] [.ptr i7 0]) h7) = some (.ret undefA, h7.set i9 (.cells [.fn (.func 78) [] [.ptr i7 0]] 110)) := st_ptr (n := 1) a_i9 (by kernel_rfl) rfl (by simp) rfl
  conv => arg 1; whnf
  refine atCall_P (st9) ?_
  clear st9
  generalize hh_h8 : h7.set i9 (.cells [.fn (.func 78) [] [.ptr i7 0]] 110) = h8 at *
  obtain ⟨b_i9, n_h8, k_h8⟩ := set_facts hh_h8
  replace a_i1 := k_h8 _ _ a_i1 (by rintro rfl; omega)
  replace a_i2 := k_h8 _ _ a_i2 (by rintro rfl; omega)
  replace b_i7 := k_h8 _ _ b_i7 (by rintro rfl; omega)
  replace b_i8 := k_h8 _ _ b_i8 (by rintro rfl; omega)
  clear hh_h8 k_h8
  replace n_h8 : h8.next.nat = h7.next.nat := congrArg Id.nat n_h8
  conv => arg 1; whnf
  refine atCall_P (alloc_new (z := .int .i64 0) (cs := [.int .i64 0]) (by kernel_rfl) rfl rfl) ?_
  generalize hh_h9 : h8.alloc (.cells [.int .i64 0] 3) = h9 at *
  obtain ⟨a_i10, n_i10, k_h9⟩ := alloc_facts hh_h9
  replace a_i1 := k_h9 _ _ a_i1 (by omega)
  replace a_i2 := k_h9 _ _ a_i2 (by omega)
  replace b_i7 := k_h9 _ _ b_i7 (by omega)
  replace b_i8 := k_h9 _ _ b_i8 (by omega)
  replace b_i9 := k_h9 _ _ b_i9 (by omega)
  clear hh_h9 k_h9
  generalize hi_i10 : h8.next = i10 at *
  clear hi_i10
  have st10 : hOf (aStore Tryz.prog 3 (.ptr i10 0) (.int .i64 0) h9) = some (.ret undefA, h9.set i10 (.cells [.int .i64 0] 3)) := st_ptr (n := 1) a_i10 (by kernel_rfl) rfl (by simp) rfl
  conv => arg 1; whnf
  refine atCall_P (st10) ?_
  clear st10
  generalize hh_h10 : h9.set i10 (.cells [.int .i64 0] 3) = h10 at *
  obtain ⟨b_i10, n_h10, k_h10⟩ := set_facts hh_h10
  replace a_i1 := k_h10 _ _ a_i1 (by rintro rfl; omega)
  replace a_i2 := k_h10 _ _ a_i2 (by rintro rfl; omega)
  replace b_i7 := k_h10 _ _ b_i7 (by rintro rfl; omega)
  replace b_i8 := k_h10 _ _ b_i8 (by rintro rfl; omega)
  replace b_i9 := k_h10 _ _ b_i9 (by rintro rfl; omega)
  clear hh_h10 k_h10
  replace n_h10 : h10.next.nat = h9.next.nat := congrArg Id.nat n_h10
  conv => arg 1; whnf
  refine atCall_P (alloc_new (z := .nilfn) (cs := [.nilfn]) (by kernel_rfl) rfl rfl) ?_
  generalize hh_h11 : h10.alloc (.cells [.nilfn] 111) = h11 at *
  obtain ⟨a_i11, n_i11, k_h11⟩ := alloc_facts hh_h11
  replace a_i1 := k_h11 _ _ a_i1 (by omega)
  replace a_i2 := k_h11 _ _ a_i2 (by omega)
  replace b_i7 := k_h11 _ _ b_i7 (by omega)
  replace b_i8 := k_h11 _ _ b_i8 (by omega)
  replace b_i9 := k_h11 _ _ b_i9 (by omega)
  replace b_i10 := k_h11 _ _ b_i10 (by omega)
  clear hh_h11 k_h11
  generalize hi_i11 : h10.next = i11 at *
  clear hi_i11
  have st11 : hOf (aStore Tryz.prog 111 (.ptr i11 0) (.fn (.func 79) [] [.ptr i1 0, .ptr i10 0, .ptr i8 0, .ptr i9 0, .ptr i11 0, .ptr i7 0]) h11) = some (.ret undefA, h11.set i11 (.cells [.fn (.func 79) [] [.ptr i1 0, .ptr i10 0, .ptr i8 0, .ptr i9 0, .ptr i11 0, .ptr i7 0]] 111)) := st_ptr (n := 1) a_i11 (by kernel_rfl) rfl (by simp) rfl
  conv => arg 1; whnf
  refine atCall_P (st11) ?_
  clear st11
  generalize hh_h12 : h11.set i11 (.cells [.fn (.func 79) [] [.ptr i1 0, .ptr i10 0, .ptr i8 0, .ptr i9 0, .ptr i11 0, .ptr i7 0]] 111) = h12 at *
  obtain ⟨b_i11, n_h12, k_h12⟩ := set_facts hh_h12
  replace a_i1 := k_h12 _ _ a_i1 (by rintro rfl; omega)
  replace a_i2 := k_h12 _ _ a_i2 (by rintro rfl; omega)
  replace b_i7 := k_h12 _ _ b_i7 (by rintro rfl; omega)
  replace b_i8 := k_h12 _ _ b_i8 (by rintro rfl; omega)
  replace b_i9 := k_h12 _ _ b_i9 (by rintro rfl; omega)
  replace b_i10 := k_h12 _ _ b_i10 (by rintro rfl; omega)
  clear hh_h12 k_h12
  replace n_h12 : h12.next.nat = h11.next.nat := congrArg Id.nat n_h12
  have G : PB i1 i7 i8 i9 i10 i11 x 0 ⟨[], []⟩ h12 := ⟨a_i1, b_i10, b_i8, b_i9, b_i11, ⟨⟨_, _, b_i7, .inl (.inl ⟨rfl, rfl⟩), .inl (.inl ⟨rfl, rfl⟩), fun g hg => by cases hg⟩, by omega⟩, by omega, by omega, by omega, by omega, by omega, by omega⟩
  have hl : i2.nat < i7.nat := by omega
  have lt2 : i2.nat < h12.next.nat := by omega
  have l9 : ∀ h, h.get i9 = some (.cells [.fn (.func 78) [] [.ptr i7 0]] 110) → vOf h (aLoad Tryz.prog 110 (.ptr i9 0) h) = some (.ret (.fn (.func 78) [] [.ptr i7 0]), h) := fun h g => ld_ptr (n := 1) g (by kernel_rfl) (by kernel_rfl) rfl
  have l11 : ∀ h, h.get i11 = some (.cells [.fn (.func 79) [] [.ptr i1 0, .ptr i10 0, .ptr i8 0, .ptr i9 0, .ptr i11 0, .ptr i7 0]] 111) → vOf h (aLoad Tryz.prog 111 (.ptr i11 0) h) = some (.ret (.fn (.func 79) [] [.ptr i1 0, .ptr i10 0, .ptr i8 0, .ptr i9 0, .ptr i11 0, .ptr i7 0]), h) := fun h g => ld_ptr (n := 1) g (by kernel_rfl) (by kernel_rfl) rfl
  have o3 := G.o3; have o4 := G.o4; have o5 := G.o5
  clear b_i7 b_i8 b_i9 b_i10 b_i11 a_i1
  obtain ⟨h13, r1, G13, r3⟩ := hB i1 i7 i8 i9 i10 i11 hlow 0 ⟨[], []⟩ h12 b p t.length G t1 (by omega) (by omega)
  obtain ⟨h14, w1, w2, w3⟩ := c2 i7 (-1, 0) p _ h13 G13.bd (by omega)
  have ne : ∀ {a c : Sk.Id}, a.nat ≠ c.nat → a ≠ c := fun h e => h (by rw [e])
  have g2 := r3.1 _ _ a_i2 (fun _ => nofun) lt2 (ne (by omega)) (ne (by omega))
  have g2 := w3.1 _ _ g2 (fun _ => nofun) (Nat.lt_of_lt_of_le lt2 r3.2) (ne (by omega)) (ne (by omega))
  clear a_i2
  conv => arg 1; whnf
  refine atRgn_N true (fun hh => hh.get i9 = some (.cells [.fn (.func 78) [] [.ptr i7 0]] 110) ∧ hh.get i11 = some (.cells [.fn (.func 79) [] [.ptr i1 0, .ptr i10 0, .ptr i8 0, .ptr i9 0, .ptr i11 0, .ptr i7 0]] 111)) (T := [0, 0, 0, 6, 15]) (ord := [0, 2, 1, 3, 4]) (by kernel_rfl) (hrg _ _ _) hN ?_
  conv => arg 1; whnf
  refine atCall_P (l9 h12 G.g9) ?_
  conv => arg 1; whnf
  refine atCall_P (l11 h12 G.aB) ?_
  conv => arg 1; whnf
  refine atCall_P (hFr 0 h12) ?_
  conv => arg 1; whnf
  refine atCall_P (r1) ?_
  conv => arg 1; whnf
  refine atCall_P (w1) ?_
  conv => arg 1; whnf
  refine atP_P ⟨?_, (fun k hk hp => match k, hk, hp with
    | 0, _, _ => ⟨G.g9, G.aB⟩
    | 1, _, _ => ⟨G.g9, G.aB⟩
    | 2, _, _ => ⟨G13.g9, G13.aB⟩
    | 3, _, hp => no_pos hp (by kernel_rfl)
    | k + 4, hk, _ => absurd hk (by simp)), (fun a ha => by cases ha), rfl⟩ ?_
  · exact ⟨fun _ hh g => ⟨hh, l9 hh g.1⟩, fun _ hh g => ⟨hh, l11 hh g.2⟩, trivial, trivial, trivial, trivial⟩
  obtain ⟨⟨cl, wl, hg, hc, hw, hd⟩, lt7⟩ := w2
  have l7 : ∀ h, h.get i7 = some (.cells [cl, .int .i64 1, wl] 43) → vOf h (aLoad Tryz.prog 43 (.ptr i7 0) h) = some (.ret (.agg [cl, .int .i64 1, wl]), h) := fun h g => ld_agg (n := 3) g (by kernel_rfl) (by kernel_rfl) (by simp)
  have hT := hTi sigUV (.agg [cl, .int .i64 1, wl]) sigU (bdNt b p) h14 isSig_U ⟨cl, wl, rfl, hc.isL, hw.isL⟩ (by simp [bdNt]; omega)
  unfold tidyV at hT
  rw [if_pos (by rw [t2.chk])] at hT
  obtain ⟨c9, w9, n9, s9, z9⟩ : ∃ c w, netW (tidyN sigU (bdNt b p)) = .agg [c, .int .i64 (tidyN sigU (bdNt b p)).free, w] ∧ c.scalar = true ∧ w.scalar = true := by
    unfold netW
    refine ⟨_, _, rfl, rfl, ?_⟩
    split <;> rfl
  rw [n9] at hT hv
  have st : hOf (aStore Tryz.prog 43 (.ptr i2 0) (.agg [c9, .int .i64 (tidyN sigU (bdNt b p)).free, w9]) h14) = some (.ret undefA, h14.set i2 (.cells [c9, .int .i64 (tidyN sigU (bdNt b p)).free, w9] 43)) :=
    st_ptr (n := 3) g2 (by kernel_rfl) rfl (by simp) (by simp only [AV.cells, List.all_cons, s9, z9, List.all_nil]; rfl)
  generalize (tidyN sigU (bdNt b p)).free = f9 at *
  conv => arg 1; whnf
  refine atRgn_N true (fun hh => hh.get i7 = some (.cells [cl, .int .i64 1, wl] 43)) (T := [0, 0, 3, 7, 7, 31, 63]) (ord := [1, 0, 2, 3, 4, 5, 6]) (by kernel_rfl) (hrg _ _ _) hN ?_
  conv => arg 1; whnf
  refine atCall_P (l7 h14 hg) ?_
  conv => arg 1; whnf
  refine atCall_P (hSU h14) ?_
  conv => arg 1; whnf
  refine atCall_P (hT) ?_
  conv => arg 1; whnf
  refine atCall_P (st) ?_
  conv => arg 1; whnf
  refine atP_P ⟨?_, (fun k hk hp => match k, hk, hp with
    | 0, _, _ => hg
    | 1, _, _ => hg
    | 2, _, hp => no_pos hp (by kernel_rfl)
    | 3, _, hp => no_pos hp (by kernel_rfl)
    | k + 4, hk, _ => absurd hk (by simp)), (fun a ha => by cases ha), rfl⟩ ?_
  · exact ⟨fun _ hh g => ⟨hh, l7 hh g⟩, trivial, trivial, trivial, trivial, trivial, trivial, trivial⟩
  conv => arg 1; whnf
  refine atLeave_P (leave_plain (.inl rfl) (l := [.agg [c9, .int .i64 f9, w9], .int .i64 0]) ?_) (hQ _ _ (by rw [hv]; rfl))
  show (match aLoad Tryz.prog 43 (.ptr i2 0) (h14.set i2 (.cells [c9, .int .i64 f9, w9] 43)), some [AV.int .i64 0] with | some v, some l => some (v :: l) | _, _ => none) = _
  rw [ld_val (ld_agg (r := i2) (off := 0) (cs := [c9, .int .i64 f9, w9]) (T := 43) (n := 3) (by rw [AH.get_set, if_pos rfl]) (by kernel_rfl) (by kernel_rfl) (by simp))]
  rfl
end
noncomputable def hkNu := addHk hk9 75 sNum
theorem ENu : EvOK (mkEv Tryz.prog mu0 hkNu) := ENum_of E9 fun _ _ => rfl
noncomputable def hkWI := addHk hkNu 31 sWI
theorem EWI : EvOK (mkEv Tryz.prog mu0 hkWI) := EWI_of ENu (fun _ _ => rfl) fun n hn => hNum_of (hk0 := hk9) (fun _ _ => rfl) hn
noncomputable def hkSI := addHk hkWI 37 sSI
theorem ESI : EvOK (mkEv Tryz.prog mu0 hkSI) := ESI_of EWI (fun _ _ => rfl) fun n hn => hNum_of (hk0 := hk9) (fun _ _ => rfl) hn

def sTm : List AV → Option AV
  | [x] => match intsOf x with | some t => if t.length ≤ 100000 then some (.bool (tfF t 1)) else none | none => none
  | _ => none
noncomputable def hkTm := addHk hkSI 76 sTm
theorem ETm : EvOK (mkEv Tryz.prog mu0 hkTm) := mkEv_add ESI fun args v hs => by
  unfold sTm at hs; split at hs
  · rename_i x
    split at hs
    · rename_i t ht
      split at hs
      · rename_i hL
        cases hs
        have hx : IsL x (t.map intV) := decL_inv ht
        obtain ⟨N, hN⟩ : ∃ N, N = t.length + 1 := ⟨_, rfl⟩
        exact ⟨rfl, ev_ofS shT rfl Tryz.func76 rfl (by kernel_rfl) (bTm (evCall (mkEv Tryz.prog mu0 hkSI) N) (rg Tryz.prog mu0 hkSI N 76) N hx hL (by omega) .empty)⟩
      · cases hs
    · cases hs
  · cases hs
def hTm (call : CallT) : Prop := ∀ (t : List Int) (x : AV) (h : AH), IsL x (t.map intV) → t.length ≤ 100000 → call (.func 76) [x] h = some (.ret (.bool (tfF t 1)), h)
theorem hTm_of {hk : Hooks} {n : Nat} (hk' : ∀ args h, hk 76 args h = hkTm 76 args h) (hn : 0 < n) : hTm (evCall (mkEv Tryz.prog mu0 hk) n) := fun t x h hx hL => ev_hk (by
  rw [hk']
  obtain ⟨a1, a2⟩ := intsOf_of hx
  refine hk_top (by simp [freeL, a2]) ?_
  show (match intsOf (weakV x) with | some t => if t.length ≤ 100000 then some (AV.bool (tfF t 1)) else none | none => none) = _
  rw [a1]; simp only [if_pos hL]) hn

/-! ### The calls that put a net together -/

theorem hC1_of {hk : Hooks} {n : Nat} (hno : ∀ args h, hk 77 args h = none) (hn : 0 < n) (i7 : Sk.Id) : hC1 i7 (evCall (mkEv Tryz.prog mu0 hk) n) := fun a b h hG hb => by
  obtain ⟨m, rfl⟩ : ∃ m, n = m + 1 := ⟨n - 1, by omega⟩
  obtain ⟨v, h', q1, q2⟩ := bC1 (evCall (mkEv Tryz.prog mu0 hk) m) (rg Tryz.prog mu0 hk m 77) m i7 1 a b h hG hb
  exact ⟨v, h', ev_of_cBodyS shT (hno _ _) Tryz.func77 rfl (by kernel_rfl) q1, q2⟩
theorem hC2_of' {hk : Hooks} {n : Nat} (hno : ∀ args h, hk 78 args h = none) (hn : 0 < n) (i7 : Sk.Id) : hC2 i7 (evCall (mkEv Tryz.prog mu0 hk) n) := fun p q b h hG hb => by
  obtain ⟨m, rfl⟩ : ∃ m, n = m + 1 := ⟨n - 1, by omega⟩
  obtain ⟨h', q1, q2⟩ := bC2 (evCall (mkEv Tryz.prog mu0 hk) m) (rg Tryz.prog mu0 hk m 78) m i7 1 p q b h hG hb
  exact ⟨h', ev_of_cBodyS shT (hno _ _) Tryz.func78 rfl (by kernel_rfl) q1, q2⟩
theorem hN3_of {hk : Hooks} (h1 : ∀ args h, hk 77 args h = none) (h2 : ∀ args h, hk 78 args h = none) (h3 : ∀ args h, hk 79 args h = none) (ha : ∀ args h, hk 74 args h = hkAt 74 args h) {t : List Int} {x0 : AV} (hx : IsL x0 (t.map intV)) (ht5 : t.length ≤ 100000) (i1 i7 i8 i9 i10 i11 : Sk.Id) (ht : ∀ x ∈ t, -2 ≤ x) :
    ∀ m, hN3 i1 i7 i8 i9 i10 i11 x0 t m (evCall (mkEv Tryz.prog mu0 hk) (m + 20000))
  | 0 => fun i b h b' p j G hF _ _ => by simp [bdF] at hF
  | m + 1 => fun i b h b' p j G hF l1 l2 => by
    obtain ⟨h', q1, q2⟩ := bN3 (evCall (mkEv Tryz.prog mu0 hk) (m + 20000)) (rg Tryz.prog mu0 hk (m + 20000) 79) (m + 20000) (by omega) hx ht ht5 (hC1_of h1 (by omega) i7) (hC2_of' h2 (by omega) i7) (fun c k h => hAt_of ha (by omega) c k h) (fun _ _ _ => rfl) m (hN3_of h1 h2 h3 ha hx ht5 i1 i7 i8 i9 i10 i11 ht m) i b h b' p j G hF l1 l2
    have := ev_of_cBodyS (n := m + 20000) shT (h3 _ _) Tryz.func79 rfl (by kernel_rfl) q1
    exact ⟨h', this, q2⟩

theorem netW_weak1 (n : Nt) : weakV (netW n) = netW n ∧ freeV (netW n) = true := by
  have e1 : weakL (n.cells.map intV) = n.cells.map intV := weakL_enc (fun _ => rfl) _
  have f1 : freeL (n.cells.map intV) = true := freeL_enc (fun _ => rfl) _
  have e2 : weakL (n.wires.map wireV) = n.wires.map wireV := weakL_enc (fun _ => rfl) _
  have f2 : freeL (n.wires.map wireV) = true := freeL_enc (fun _ => rfl) _
  cases hw : n.wires with
  | nil =>
    unfold netW; rw [hw]
    exact ⟨by show AV.agg [.vsl (weakL (n.cells.map intV)) .unk, .int .i64 n.free, .nilsl] = _; rw [e1], by show (freeL (n.cells.map intV) && _) = true; rw [f1]; rfl⟩
  | cons w r =>
    rw [hw] at e2 f2
    unfold netW; rw [hw]
    exact ⟨by show AV.agg [.vsl (weakL (n.cells.map intV)) .unk, .int .i64 n.free, .vsl (weakL ((w :: r).map wireV)) .unk] = _; rw [e1, e2], by show (freeL (n.cells.map intV) && (true && (freeL ((w :: r).map wireV) && true))) = true; rw [f1, f2]; rfl⟩
theorem unaryV_weak (t : List Int) : weakV (unaryV t) = unaryV t ∧ freeV (unaryV t) = true := by
  unfold unaryV
  split
  · exact ⟨rfl, rfl⟩
  · split
    · exact ⟨rfl, rfl⟩
    · obtain ⟨e, f⟩ := netW_weak1 (tidyN sigU (netT t))
      exact ⟨by show AV.tup [weakV (netW (tidyN sigU (netT t))), .int .i64 0] = _; rw [e], by show (freeV (netW (tidyN sigU (netT t))) && (true && true)) = true; rw [f]; rfl⟩

def sUN : List AV → Option AV
  | [x] => match intsOf x with | some t => if t.length ≤ 100000 then some (unaryV t) else none | none => none
  | _ => none
noncomputable def hkUN := addHk hkTm 32 sUN
theorem noN1 : ∀ args h, hkTm 77 args h = none := fun _ _ => rfl
theorem noN2 : ∀ args h, hkTm 78 args h = none := fun _ _ => rfl
theorem noN3 : ∀ args h, hkTm 79 args h = none := fun _ _ => rfl
theorem atT : ∀ args h, hkTm 74 args h = hkAt 74 args h := fun _ _ => rfl
theorem tiT : ∀ args h, hkTm 80 args h = hk13 80 args h := fun _ _ => rfl
theorem EUN : EvOK (mkEv Tryz.prog mu0 hkUN) := mkEv_add3 ETm fun args v hs => by
  unfold sUN at hs; split at hs
  · rename_i x
    split at hs
    · rename_i t ht
      split at hs
      · rename_i hL
        cases hs
        have hx : IsL x (t.map intV) := decL_inv ht
        obtain ⟨N, hN⟩ : ∃ N, N = t.length + 1 + 20000 := ⟨_, rfl⟩
        have hB : ∀ i1 i7 i8 i9 i10 i11, (∀ x ∈ t, -2 ≤ x) → hN3 i1 i7 i8 i9 i10 i11 x t (t.length + 1) (evCall (mkEv Tryz.prog mu0 hkTm) N) := fun i1 i7 i8 i9 i10 i11 hl => by
          rw [hN]; exact hN3_of noN1 noN2 noN3 atT hx hL i1 i7 i8 i9 i10 i11 hl (t.length + 1)
        have hFr : ∀ (k : Int) h, evCall (mkEv Tryz.prog mu0 hkTm) N (.func 73) [.int .i64 k] h = some (.ret (portV (-1, k)), h) := fun k h => hFr_of (hk := hkTm) (fun _ _ => rfl) (by omega) k h
        obtain ⟨h', hb⟩ := bUN (evCall (mkEv Tryz.prog mu0 hkTm) N) (rg Tryz.prog mu0 hkTm N 32) N hx hL (by omega) (fun h => hTm_of (hk := hkTm) (fun _ _ => rfl) (by omega) t x h hx hL) hFr
          hB (fun i7 => hC2_of' (hk := hkTm) noN2 (by omega) i7) (fun h => hSU_of (hk := hkTm) (fun _ _ => rfl) (by omega) h) (h13_of (hk := hkTm) tiT (by omega)) (fun _ _ _ => rfl) .empty
        exact ⟨_, (unaryV_weak t).2, (unaryV_weak t).1.symm, ev_ofS shT rfl Tryz.func32 rfl (by kernel_rfl) hb⟩
      · cases hs
    · cases hs
  · cases hs
def hUN (call : CallT) : Prop := ∀ (t : List Int) (x : AV) (h : AH), IsL x (t.map intV) → t.length ≤ 100000 → call (.func 32) [x] h = some (.ret (unaryV t), h)
theorem hUN_of {hk : Hooks} {n : Nat} (hk' : ∀ args h, hk 32 args h = hkUN 32 args h) (hn : 0 < n) : hUN (evCall (mkEv Tryz.prog mu0 hk) n) := fun t x h hx hL => ev_hk (by
  rw [hk']
  obtain ⟨a1, a2⟩ := intsOf_of hx
  refine hk_top (by simp [freeL, a2]) ?_
  show (match intsOf (weakV x) with | some t => if t.length ≤ 100000 then some (unaryV t) else none | none => none) = _
  rw [a1]; simp only [if_pos hL]) hn
theorem wrap_mid {a : Int} (h1 : -1000000000000000000 ≤ a) (h2 : a ≤ 1000000000000000000) : IntKind.i64.wrap a = a := by
  simp [IntKind.wrap, IntKind.bits, IntKind.signed]; omega

/-- A sum, a product. -/
def opV (x a b : Int) : Int := if x = -1 then a + b else a * b
/-- A term's value; was one too large? -/
def valF (t : List Int) : Nat → Nat → Option (Int × Bool × Nat)
  | 0, _ => none
  | m + 1, i =>
    match t[i]? with
    | none => none
    | some x =>
      if x < 0 then
        match valF t m (i + 1) with
        | none => none
        | some (a, la, j) =>
          match valF t m j with
          | none => none
          | some (b, lb, k) => if opV x a b > 65536 then some (0, true, k) else some (opV x a b, la || lb, k)
      else if x > 65536 then some (0, true, i + 1) else some (x, false, i + 1)

theorem opV_range {x a b : Int} (ha : 0 ≤ a ∧ a ≤ 65536) (hb : 0 ≤ b ∧ b ≤ 65536) : 0 ≤ opV x a b ∧ opV x a b ≤ 4294967296 := by
  unfold opV
  split
  · omega
  · have h1 : 0 ≤ a * b := Int.mul_nonneg ha.1 hb.1
    have h2 : a * b ≤ 65536 * 65536 := Int.mul_le_mul ha.2 hb.2 hb.1 (by omega)
    omega

theorem val_range {t : List Int} : ∀ (m i : Nat) (v : Int) (l : Bool) (j : Nat), valF t m i = some (v, l, j) → 0 ≤ v ∧ v ≤ 65536 ∧ i < j ∧ j ≤ t.length
  | 0, _, _, _, _, h => by cases h
  | m + 1, i, v, l, j, h => by
    simp only [valF] at h
    cases e0 : t[i]? with
    | none => rw [e0] at h; cases h
    | some x =>
    have hlt : i < t.length := (List.getElem?_eq_some_iff.1 e0).1
    rw [e0] at h
    simp only at h
    split at h
    · cases e1 : valF t m (i + 1) with
      | none => rw [e1] at h; cases h
      | some y1 =>
      obtain ⟨a, la, j1⟩ := y1
      rw [e1] at h
      simp only at h
      cases e2 : valF t m j1 with
      | none => rw [e2] at h; cases h
      | some y2 =>
      obtain ⟨b, lb, k⟩ := y2
      rw [e2] at h
      simp only at h
      obtain ⟨a1, a2, a3, a4⟩ := val_range m _ _ _ _ e1
      obtain ⟨b1, b2, b3, b4⟩ := val_range m _ _ _ _ e2
      have ho := opV_range (x := x) ⟨a1, a2⟩ ⟨b1, b2⟩
      split at h
      · simp only [Option.some.injEq, Prod.mk.injEq] at h
        obtain ⟨rfl, rfl, rfl⟩ := h
        omega
      · simp only [Option.some.injEq, Prod.mk.injEq] at h
        obtain ⟨rfl, rfl, rfl⟩ := h
        omega
    · split at h
      · simp only [Option.some.injEq, Prod.mk.injEq] at h
        obtain ⟨rfl, rfl, rfl⟩ := h
        omega
      · simp only [Option.some.injEq, Prod.mk.injEq] at h
        obtain ⟨rfl, rfl, rfl⟩ := h
        omega

theorem val_some {t : List Int} (ht : ∀ x ∈ t, -2 ≤ x) : ∀ (m i left : Nat), t.length < m + i → tfF (t.drop i) (left + 1) = true → i ≤ t.length → ∃ v l j, valF t m i = some (v, l, j) ∧ tfF (t.drop j) left = true
  | 0, i, left, hm, _, hi => by omega
  | m + 1, i, left, hm, hg, hi => by
    by_cases he : i = t.length
    · subst he
      rw [List.drop_length] at hg
      simp [tfF] at hg
    have hlt : i < t.length := by omega
    have hd : t.drop i = t[i] :: t.drop (i + 1) := List.drop_eq_getElem_cons hlt
    rw [hd] at hg
    simp only [tfF] at hg
    simp only [valF, List.getElem?_eq_getElem hlt]
    split at hg
    · cases hg
    split at hg
    · rename_i hn
      rw [if_pos hn]
      obtain ⟨a, la, j, h1, h2⟩ := val_some ht m (i + 1) (left + 1) (by omega) hg (by omega)
      obtain ⟨_, _, r1, r2⟩ := val_range _ _ _ _ _ h1
      obtain ⟨b, lb, k, h3, h4⟩ := val_some ht m j left (by omega) h2 r2
      rw [h1]
      simp only [h3]
      split
      · exact ⟨_, _, _, rfl, h4⟩
      · exact ⟨_, _, _, rfl, h4⟩
    · rename_i hn
      rw [if_neg hn]
      split
      · exact ⟨_, _, _, rfl, by simpa using hg⟩
      · exact ⟨_, _, _, rfl, by simpa using hg⟩

/-- The reference's: from the last one on; the values that stand, the last one first. -/
def stF : List Int → Option (List Int)
  | [] => some []
  | x :: r =>
    match stF r with
    | none => none
    | some s =>
      if x < 0 then
        match s with
        | a :: b :: s' => if opV x a b > 65536 then none else some (opV x a b :: s')
        | _ => none
      else if x > 65536 then none else some (x :: s)

theorem val_st {t : List Int} : ∀ (m i : Nat) (v : Int) (l : Bool) (j : Nat), valF t m i = some (v, l, j) → stF (t.drop i) = if l then none else (stF (t.drop j)).map (v :: ·)
  | 0, _, _, _, _, h => by cases h
  | m + 1, i, v, l, j, h => by
    simp only [valF] at h
    cases e0 : t[i]? with
    | none => rw [e0] at h; cases h
    | some x =>
    obtain ⟨hlt, hx⟩ := List.getElem?_eq_some_iff.1 e0
    rw [e0] at h
    simp only at h
    have hd : t.drop i = x :: t.drop (i + 1) := by rw [← hx]; exact List.drop_eq_getElem_cons hlt
    rw [hd]
    simp only [stF]
    split at h
    · rename_i hn
      cases e1 : valF t m (i + 1) with
      | none => rw [e1] at h; cases h
      | some y1 =>
      obtain ⟨a, la, j1⟩ := y1
      rw [e1] at h
      simp only at h
      cases e2 : valF t m j1 with
      | none => rw [e2] at h; cases h
      | some y2 =>
      obtain ⟨b, lb, k⟩ := y2
      rw [e2] at h
      simp only at h
      have i1 := val_st m _ _ _ _ e1
      have i2 := val_st m _ _ _ _ e2
      rw [i1, i2]
      have hkj : k = j := by
        split at h <;> simp only [Option.some.injEq, Prod.mk.injEq] at h <;> exact h.2.2
      subst hkj
      cases hs : stF (t.drop k) with
      | none =>
        have : (if la = true then none else Option.map (fun x => a :: x) (if lb = true then none else Option.map (fun x => b :: x) (none : Option (List Int)))) = none := by
          cases la <;> cases lb <;> rfl
        rw [this]; cases l <;> rfl
      | some s =>
        cases la
        · cases lb
          · simp only [Bool.false_eq_true, if_false, Option.map_some]
            rw [if_pos hn]
            split at h
            · rename_i ho
              simp only [Option.some.injEq, Prod.mk.injEq] at h
              obtain ⟨_, rfl, _⟩ := h
              rw [if_pos ho]; rfl
            · rename_i ho
              simp only [Option.some.injEq, Prod.mk.injEq] at h
              obtain ⟨rfl, rfl, _⟩ := h
              rw [if_neg ho]; rfl
          · have hl : l = true := by
              split at h <;> simp only [Option.some.injEq, Prod.mk.injEq, Bool.false_or] at h <;> exact h.2.1.symm
            subst hl; rfl
        · have hl : l = true := by
            split at h <;> simp only [Option.some.injEq, Prod.mk.injEq, Bool.true_or] at h <;> exact h.2.1.symm
          subst hl; rfl
    · rename_i hn
      split at h
      · rename_i hg
        simp only [Option.some.injEq, Prod.mk.injEq] at h
        obtain ⟨rfl, rfl, rfl⟩ := h
        cases stF (t.drop (i + 1)) with
        | none => rfl
        | some s => simp only [if_neg hn, if_pos hg]; rfl
      · rename_i hg
        simp only [Option.some.injEq, Prod.mk.injEq] at h
        obtain ⟨rfl, rfl, rfl⟩ := h
        cases stF (t.drop (i + 1)) with
        | none => rfl
        | some s => simp only [if_neg hn, if_neg hg]; rfl

/-- A term's value: of the two. -/
def valueF (t : List Int) : Int × Int := if tfF t 1 = false then (0, 62) else match valF t (t.length + 1) 0 with | some (v, l, _) => if l then (0, 15) else (v, 0) | none => (0, 0)
theorem value_st {t : List Int} (hg : tfF t 1 = true) : ∃ v l, valF t (t.length + 1) 0 = some (v, l, t.length) ∧ stF t = (if l then none else some [v]) ∧ valueF t = (if l then (0, 15) else (v, 0)) := by
  obtain ⟨v, l, j, h1, h2⟩ := val_some (tf_low t 1 hg) (t.length + 1) 0 0 (by omega) (by simpa using hg) (by omega)
  obtain ⟨_, _, _, r2⟩ := val_range _ _ _ _ _ h1
  have hj : j = t.length := by
    by_cases he : j = t.length
    · exact he
    · have hd : t.drop j = t[j] :: t.drop (j + 1) := List.drop_eq_getElem_cons (by omega)
      rw [hd] at h2
      simp [tfF] at h2
  subst hj
  refine ⟨v, l, h1, ?_, ?_⟩
  · have := val_st _ _ _ _ _ h1
    rw [List.drop_zero, List.drop_length] at this
    rw [this]; cases l <;> rfl
  · unfold valueF
    rw [if_neg (by rw [hg]; simp), h1]
/-- What value works on. -/
structure PV (i1 i4 i5 i6 : Sk.Id) (x0 : AV) (i : Nat) (l : Bool) (h : AH) : Prop where
  g1 : h.get i1 = some (.cells [x0] 40)
  g4 : h.get i4 = some (.cells [.int .i64 i] 3)
  g5 : h.get i5 = some (.cells [.bool l] 4)
  g6 : h.get i6 = some (.cells [.fn (.func 84) [] [.ptr i1 0, .ptr i4 0, .ptr i6 0, .ptr i5 0]] 72)
  o1 : i1.nat < i4.nat
  o2 : i4.nat < i5.nat
  o3 : i5.nat < i6.nat

section
variable {i1 i4 i5 i6 : Sk.Id} {x0 : AV} {t : List Int}

theorem PV.step {i : Nat} {l : Bool} {h : AH} (G : PV i1 i4 i5 i6 x0 i l h) {z : Int} (hz : z = ((i + 1 : Nat) : Int)) : PV i1 i4 i5 i6 x0 (i + 1) l (h.set i4 (.cells [.int .i64 z] 3)) := by
  subst hz
  obtain ⟨g1, g4, g5, g6, o1, o2, o3⟩ := G
  have ne : ∀ {a c : Sk.Id}, a.nat ≠ c.nat → a ≠ c := fun h e => h (by rw [e])
  exact ⟨by rw [AH.get_set, if_neg (ne (by omega))]; exact g1, by rw [AH.get_set, if_pos rfl], by rw [AH.get_set, if_neg (ne (by omega))]; exact g5, by rw [AH.get_set, if_neg (ne (by omega))]; exact g6, o1, o2, o3⟩
theorem PV.large {i : Nat} {l : Bool} {h : AH} (G : PV i1 i4 i5 i6 x0 i l h) : PV i1 i4 i5 i6 x0 i true (h.set i5 (.cells [.bool true] 4)) := by
  obtain ⟨g1, g4, g5, g6, o1, o2, o3⟩ := G
  have ne : ∀ {a c : Sk.Id}, a.nat ≠ c.nat → a ≠ c := fun h e => h (by rw [e])
  exact ⟨by rw [AH.get_set, if_neg (ne (by omega))]; exact g1, by rw [AH.get_set, if_neg (ne (by omega))]; exact g4, by rw [AH.get_set, if_pos rfl], by rw [AH.get_set, if_neg (ne (by omega))]; exact g6, o1, o2, o3⟩

def hVa (i1 i4 i5 i6 : Sk.Id) (x0 : AV) (t : List Int) (m : Nat) (call : CallT) : Prop := ∀ i l h v l' j, PV i1 i4 i5 i6 x0 i l h → valF t m i = some (v, l', j) →
  ∃ h', call (.func 84) [.ptr i1 0, .ptr i4 0, .ptr i6 0, .ptr i5 0] h = some (.ret (.int .i64 v), h') ∧ PV i1 i4 i5 i6 x0 j (l || l') h'

theorem bVa (call rgn n) (hx : IsL x0 (t.map intV)) (ht5 : t.length ≤ 100000) (m : Nat) (hV : hVa i1 i4 i5 i6 x0 t m call) (i : Nat) (l : Bool) (h : AH) (v : Int) (l' : Bool) (j : Nat) (G : PV i1 i4 i5 i6 x0 i l h) (hF : valF t (m + 1) i = some (v, l', j)) :
    ∃ h', B shT call rgn n 84 Tryz.f84 [.ptr i1 0, .ptr i4 0, .ptr i6 0, .ptr i5 0] h = some (.ret (.int .i64 v), h') ∧ PV i1 i4 i5 i6 x0 j (l || l') h' := by
  suffices hq : ∀ Q : Option (AOut × AH) → Prop, (∀ w h', w = v → PV i1 i4 i5 i6 x0 j (l || l') h' → Q (some (.ret (.int .i64 w), h'))) → Q (B shT call rgn n 84 Tryz.f84 [.ptr i1 0, .ptr i4 0, .ptr i6 0, .ptr i5 0] h) from
    hq (fun y => ∃ h', y = some (.ret (.int .i64 v), h') ∧ PV i1 i4 i5 i6 x0 j (l || l') h') (fun w h' e a => ⟨h', by rw [e], a⟩)
  intro Q hQ
  simp only [valF] at hF
  cases e0 : t[i]? with
  | none => rw [e0] at hF; cases hF
  | some x =>
  rw [e0] at hF
  simp only at hF
  have hlt : i < t.length := (List.getElem?_eq_some_iff.1 e0).1
  have l1 : vOf h (aLoad Tryz.prog 40 (.ptr i1 0) h) = some (.ret x0, h) := ld_ptr (n := 1) G.g1 (by kernel_rfl) (by kernel_rfl) rfl
  have l4 : vOf h (aLoad Tryz.prog 3 (.ptr i4 0) h) = some (.ret (.int .i64 i), h) := ld_ptr (n := 1) G.g4 (by kernel_rfl) (by kernel_rfl) rfl
  obtain ⟨y, y1, y2⟩ := idx_ints (h := h) (a := (i : Int)) hx (by omega) (by omega)
  rw [Int.toNat_natCast, e0, Option.some.injEq] at y1
  subst y1
  have hw1 : IntKind.i64.wrap ((i : Int) + 1) = ((i + 1 : Nat) : Int) := wrap_succ (by omega)
  have st : hOf (aStore Tryz.prog 3 (.ptr i4 0) (.int .i64 (IntKind.i64.wrap ((i : Int) + 1))) h) = some (.ret undefA, h.set i4 (.cells [.int .i64 (IntKind.i64.wrap ((i : Int) + 1))] 3)) := st_ptr (n := 1) G.g4 (by kernel_rfl) rfl (by simp) rfl
  have G2 := G.step hw1
  have lb : ∀ h i l, PV i1 i4 i5 i6 x0 i l h → hOf (aStore Tryz.prog 4 (.ptr i5 0) (.bool true) h) = some (.ret undefA, h.set i5 (.cells [.bool true] 4)) := fun h i l G => st_ptr (n := 1) G.g5 (by kernel_rfl) rfl (by simp) rfl
  conv => arg 1; whnf
  refine atCall_P (l1) ?_
  conv => arg 1; whnf
  refine atCall_P (l4) ?_
  conv => arg 1; whnf
  refine atCall_P (y2) ?_
  conv => arg 1; whnf
  refine atCall_P (l4) ?_
  conv => arg 1; whnf
  refine atCall_P (st) ?_
  clear st l1 l4 y2
  generalize h.set i4 (.cells [.int .i64 (IntKind.i64.wrap ((i : Int) + 1))] 3) = h2 at *
  conv => arg 1; whnf
  cases e1 : decide (x < 0)
  · have hx0 : ¬ x < 0 := by simpa using e1
    rw [if_neg hx0] at hF
    conv => arg 1; whnf
    cases e2 : decide (x > 65536)
    · have h2' : ¬ x > 65536 := by simpa using e2
      rw [if_neg h2'] at hF
      simp only [Option.some.injEq, Prod.mk.injEq] at hF
      obtain ⟨rfl, rfl, rfl⟩ := hF
      conv => arg 1; whnf
      exact atLeave_P (leave_plain (.inl rfl) rfl) (hQ _ _ rfl (by rw [Bool.or_false]; exact G2))
    · have h2' : x > 65536 := by simpa using e2
      rw [if_pos h2'] at hF
      simp only [Option.some.injEq, Prod.mk.injEq] at hF
      obtain ⟨rfl, rfl, rfl⟩ := hF
      conv => arg 1; whnf
      conv => arg 1; whnf
      refine atCall_P (lb h2 _ _ G2) ?_
      conv => arg 1; whnf
      exact atLeave_P (leave_plain (.inl rfl) rfl) (hQ _ _ rfl (by rw [Bool.or_true]; exact G2.large))
  · have hx0 : x < 0 := by simpa using e1
    rw [if_pos hx0] at hF
    cases ea : valF t m (i + 1) with
    | none => rw [ea] at hF; cases hF
    | some y1 =>
    obtain ⟨a, la, j1⟩ := y1
    rw [ea] at hF
    simp only at hF
    cases eb : valF t m j1 with
    | none => rw [eb] at hF; cases hF
    | some y2 =>
    obtain ⟨b, lb', k⟩ := y2
    rw [eb] at hF
    simp only at hF
    obtain ⟨a1, a2, _, _⟩ := val_range _ _ _ _ _ ea
    obtain ⟨b1, b2, _, _⟩ := val_range _ _ _ _ _ eb
    have ho := opV_range (x := x) ⟨a1, a2⟩ ⟨b1, b2⟩
    obtain ⟨h3, q1, G3⟩ := hV _ _ h2 _ _ _ G2 ea
    obtain ⟨h4, r1, G4⟩ := hV _ _ h3 _ _ _ G3 eb
    have l6 : ∀ h i l, PV i1 i4 i5 i6 x0 i l h → vOf h (aLoad Tryz.prog 72 (.ptr i6 0) h) = some (.ret (.fn (.func 84) [] [.ptr i1 0, .ptr i4 0, .ptr i6 0, .ptr i5 0]), h) := fun h i l G => ld_ptr (n := 1) G.g6 (by kernel_rfl) (by kernel_rfl) rfl
    have tail : ∀ w : Int, w = opV x a b → ∃ l2, (l2 = (decide (w > 65536) || (la || lb'))) ∧ (if w > 65536 then (0 : Int) else w) = v ∧ l2 = l' ∧ k = j := fun w hw => by
      subst hw
      split at hF
      · rename_i hg
        simp only [Option.some.injEq, Prod.mk.injEq] at hF
        obtain ⟨rfl, rfl, rfl⟩ := hF
        exact ⟨_, rfl, by rw [if_pos hg], by simp [hg], rfl⟩
      · rename_i hg
        simp only [Option.some.injEq, Prod.mk.injEq] at hF
        obtain ⟨rfl, rfl, rfl⟩ := hF
        exact ⟨_, rfl, by rw [if_neg hg], by simp [hg], rfl⟩
    conv => arg 1; whnf
    conv => arg 1; whnf
    refine atCall_P (l6 h2 _ _ G2) ?_
    conv => arg 1; whnf
    refine atCall_P (q1) ?_
    conv => arg 1; whnf
    conv => arg 1; whnf
    refine atCall_P (l6 h3 _ _ G3) ?_
    conv => arg 1; whnf
    refine atCall_P (r1) ?_
    conv => arg 1; whnf
    cases e3 : (x == -1)
    · have hx1 : ¬ x = -1 := by simpa using e3
      have hw : IntKind.i64.wrap (a * b) = opV x a b := by
        unfold opV at ho ⊢
        rw [if_neg hx1] at ho ⊢
        exact wrap_mid (by omega) (by omega)
      conv => arg 1; whnf
      rw [hw]
      obtain ⟨l2, t1, t2, rfl, rfl⟩ := tail _ rfl
      generalize opV x a b = w at *
      cases e4 : decide (w > 65536)
      · have h4' : ¬ w > 65536 := by simpa using e4
        rw [if_neg h4'] at t2
        conv => arg 1; whnf
        exact atLeave_P (leave_plain (.inl rfl) rfl) (hQ _ _ t2 (by rw [t1, e4, Bool.false_or, ← Bool.or_assoc]; exact G4))
      · have h4' : w > 65536 := by simpa using e4
        rw [if_pos h4'] at t2
        conv => arg 1; whnf
        conv => arg 1; whnf
        refine atCall_P (lb h4 _ _ G4) ?_
        conv => arg 1; whnf
        exact atLeave_P (leave_plain (.inl rfl) rfl) (hQ _ _ t2 (by rw [t1, e4, Bool.true_or, Bool.or_true]; exact G4.large))
    · have hx1 : x = -1 := by simpa using e3
      have hw : IntKind.i64.wrap (a + b) = opV x a b := by
        unfold opV
        rw [if_pos hx1]
        exact wrap_mid (by omega) (by omega)
      conv => arg 1; whnf
      rw [hw]
      obtain ⟨l2, t1, t2, rfl, rfl⟩ := tail _ rfl
      generalize opV x a b = w at *
      cases e4 : decide (w > 65536)
      · have h4' : ¬ w > 65536 := by simpa using e4
        rw [if_neg h4'] at t2
        conv => arg 1; whnf
        exact atLeave_P (leave_plain (.inl rfl) rfl) (hQ _ _ t2 (by rw [t1, e4, Bool.false_or, ← Bool.or_assoc]; exact G4))
      · have h4' : w > 65536 := by simpa using e4
        rw [if_pos h4'] at t2
        conv => arg 1; whnf
        conv => arg 1; whnf
        refine atCall_P (lb h4 _ _ G4) ?_
        conv => arg 1; whnf
        exact atLeave_P (leave_plain (.inl rfl) rfl) (hQ _ _ t2 (by rw [t1, e4, Bool.true_or, Bool.or_true]; exact G4.large))

theorem hVa_of {hk : Hooks} (h3 : ∀ args h, hk 84 args h = none) (hx : IsL x0 (t.map intV)) (ht5 : t.length ≤ 100000) : ∀ m, hVa i1 i4 i5 i6 x0 t m (evCall (mkEv Tryz.prog mu0 hk) (m + 5))
  | 0 => fun i l h v l' j G hF => by simp [valF] at hF
  | m + 1 => fun i l h v l' j G hF => by
    obtain ⟨h', q1, q2⟩ := bVa (evCall (mkEv Tryz.prog mu0 hk) (m + 5)) (rg Tryz.prog mu0 hk (m + 5) 84) (m + 5) hx ht5 m (hVa_of h3 hx ht5 m) i l h v l' j G hF
    have := ev_of_cBodyS (n := m + 5) shT (h3 _ _) Tryz.func84 rfl (by kernel_rfl) q1
    exact ⟨h', this, q2⟩

def valueV (t : List Int) : AV := .tup [.int .i64 (valueF t).1, .int .i64 (valueF t).2]

theorem bUV (call rgn n) (hx : IsL x0 (t.map intV)) (ht5 : t.length ≤ 100000) (hTm : ∀ h, call (.func 76) [x0] h = some (.ret (.bool (tfF t 1)), h)) (hV : ∀ i1 i4 i5 i6, hVa i1 i4 i5 i6 x0 t (t.length + 1) call) (h : AH) :
    ∃ h', B shT call rgn n 34 Tryz.f34 [x0] h = some (.ret (valueV t), h') := by
  suffices hq : ∀ Q : Option (AOut × AH) → Prop, (∀ a b h', (a, b) = valueF t → Q (some (.ret (.tup [.int .i64 a, .int .i64 b]), h'))) → Q (B shT call rgn n 34 Tryz.f34 [x0] h) from
    hq (fun y => ∃ h', y = some (.ret (valueV t), h')) (fun a b h' e => ⟨h', by unfold valueV; rw [← e]⟩)
  intro Q hQ
  have hxc := isL_cells hx
  have hxs := isL_scalar hx
  conv => arg 1; whnf
  refine atCall_P (box_new (cs := [x0]) hxc (by simp only [List.all_cons, hxs, List.all_nil]; rfl)) ?_
  generalize hh_h1 : h.alloc (.cells [x0] 40) = h1 at *
  obtain ⟨a_i1, n_i1, k_h1⟩ := alloc_facts hh_h1
  clear hh_h1 k_h1
  generalize hi_i1 : h.next = i1 at *
  clear hi_i1
  have l1 : vOf h1 (aLoad Tryz.prog 40 (.ptr i1 0) h1) = some (.ret x0, h1) := ld_ptr (n := 1) a_i1 (by kernel_rfl) (by kernel_rfl) rfl
  conv => arg 1; whnf
  refine atCall_P (l1) ?_
  conv => arg 1; whnf
  refine atCall_P (hTm h1) ?_
  conv => arg 1; whnf
  cases e1 : tfF t 1
  · conv => arg 1; whnf
    exact atLeave_P (leave_plain (.inl rfl) rfl) (hQ _ _ _ (by unfold valueF; rw [if_pos e1]))
  obtain ⟨v, l, v1, v2, v3⟩ := value_st e1
  conv => arg 1; whnf
  conv => arg 1; whnf
  refine atCall_P (alloc_new (z := .int .i64 0) (cs := [.int .i64 0]) (by kernel_rfl) rfl rfl) ?_
  generalize hh_h2 : h1.alloc (.cells [.int .i64 0] 3) = h2 at *
  obtain ⟨a_i4, n_i4, k_h2⟩ := alloc_facts hh_h2
  replace a_i1 := k_h2 _ _ a_i1 (by omega)
  clear hh_h2 k_h2
  generalize hi_i4 : h1.next = i4 at *
  clear hi_i4
  conv => arg 1; whnf
  refine atCall_P (alloc_new (z := .bool false) (cs := [.bool false]) (by kernel_rfl) rfl rfl) ?_
  generalize hh_h3 : h2.alloc (.cells [.bool false] 4) = h3 at *
  obtain ⟨a_i5, n_i5, k_h3⟩ := alloc_facts hh_h3
  replace a_i1 := k_h3 _ _ a_i1 (by omega)
  replace a_i4 := k_h3 _ _ a_i4 (by omega)
  clear hh_h3 k_h3
  generalize hi_i5 : h2.next = i5 at *
  clear hi_i5
  have st4 : hOf (aStore Tryz.prog 3 (.ptr i4 0) (.int .i64 0) h3) = some (.ret undefA, h3.set i4 (.cells [.int .i64 0] 3)) := st_ptr (n := 1) a_i4 (by kernel_rfl) rfl (by simp) rfl
  conv => arg 1; whnf
  refine atCall_P (st4) ?_
  clear st4
  generalize hh_h4 : h3.set i4 (.cells [.int .i64 0] 3) = h4 at *
  obtain ⟨b_i4, n_h4, k_h4⟩ := set_facts hh_h4
  replace a_i1 := k_h4 _ _ a_i1 (by rintro rfl; omega)
  replace a_i5 := k_h4 _ _ a_i5 (by rintro rfl; omega)
  clear hh_h4 k_h4
  replace n_h4 : h4.next.nat = h3.next.nat := congrArg Id.nat n_h4
  have st5 : hOf (aStore Tryz.prog 4 (.ptr i5 0) (.bool false) h4) = some (.ret undefA, h4.set i5 (.cells [.bool false] 4)) := st_ptr (n := 1) a_i5 (by kernel_rfl) rfl (by simp) rfl
  conv => arg 1; whnf
  refine atCall_P (st5) ?_
  clear st5
  generalize hh_h5 : h4.set i5 (.cells [.bool false] 4) = h5 at *
  obtain ⟨b_i5, n_h5, k_h5⟩ := set_facts hh_h5
  replace a_i1 := k_h5 _ _ a_i1 (by rintro rfl; omega)
  replace b_i4 := k_h5 _ _ b_i4 (by rintro rfl; omega)
  clear hh_h5 k_h5
  replace n_h5 : h5.next.nat = h4.next.nat := congrArg Id.nat n_h5
  conv => arg 1; whnf
  refine atCall_P (alloc_new (z := .nilfn) (cs := [.nilfn]) (by kernel_rfl) rfl rfl) ?_
  generalize hh_h6 : h5.alloc (.cells [.nilfn] 72) = h6 at *
  obtain ⟨a_i6, n_i6, k_h6⟩ := alloc_facts hh_h6
  replace a_i1 := k_h6 _ _ a_i1 (by omega)
  replace b_i4 := k_h6 _ _ b_i4 (by omega)
  replace b_i5 := k_h6 _ _ b_i5 (by omega)
  clear hh_h6 k_h6
  generalize hi_i6 : h5.next = i6 at *
  clear hi_i6
  have st6 : hOf (aStore Tryz.prog 72 (.ptr i6 0) (.fn (.func 84) [] [.ptr i1 0, .ptr i4 0, .ptr i6 0, .ptr i5 0]) h6) = some (.ret undefA, h6.set i6 (.cells [.fn (.func 84) [] [.ptr i1 0, .ptr i4 0, .ptr i6 0, .ptr i5 0]] 72)) := st_ptr (n := 1) a_i6 (by kernel_rfl) rfl (by simp) rfl
  conv => arg 1; whnf
  refine atCall_P (st6) ?_
  clear st6
  generalize hh_h7 : h6.set i6 (.cells [.fn (.func 84) [] [.ptr i1 0, .ptr i4 0, .ptr i6 0, .ptr i5 0]] 72) = h7 at *
  obtain ⟨b_i6, n_h7, k_h7⟩ := set_facts hh_h7
  replace a_i1 := k_h7 _ _ a_i1 (by rintro rfl; omega)
  replace b_i4 := k_h7 _ _ b_i4 (by rintro rfl; omega)
  replace b_i5 := k_h7 _ _ b_i5 (by rintro rfl; omega)
  clear hh_h7 k_h7
  replace n_h7 : h7.next.nat = h6.next.nat := congrArg Id.nat n_h7
  have G : PV i1 i4 i5 i6 x0 0 false h7 := ⟨a_i1, b_i4, b_i5, b_i6, by omega, by omega, by omega⟩
  obtain ⟨h8, q1, G8⟩ := hV i1 i4 i5 i6 0 false h7 v l t.length G v1
  have l6 : vOf h7 (aLoad Tryz.prog 72 (.ptr i6 0) h7) = some (.ret (.fn (.func 84) [] [.ptr i1 0, .ptr i4 0, .ptr i6 0, .ptr i5 0]), h7) := ld_ptr (n := 1) G.g6 (by kernel_rfl) (by kernel_rfl) rfl
  have l5 : vOf h8 (aLoad Tryz.prog 4 (.ptr i5 0) h8) = some (.ret (.bool (false || l)), h8) := ld_ptr (n := 1) G8.g5 (by kernel_rfl) (by kernel_rfl) rfl
  rw [Bool.false_or] at l5
  conv => arg 1; whnf
  refine atCall_P (l6) ?_
  conv => arg 1; whnf
  refine atCall_P (q1) ?_
  conv => arg 1; whnf
  refine atCall_P (l5) ?_
  conv => arg 1; whnf
  cases l
  · rw [if_neg (by simp)] at v3
    conv => arg 1; whnf
    exact atLeave_P (leave_plain (.inl rfl) rfl) (hQ _ _ _ v3.symm)
  · rw [if_pos rfl] at v3
    conv => arg 1; whnf
    exact atLeave_P (leave_plain (.inl rfl) rfl) (hQ _ _ _ v3.symm)
end

def sUV : List AV → Option AV
  | [x] => match intsOf x with | some t => if t.length ≤ 100000 then some (valueV t) else none | none => none
  | _ => none
noncomputable def hkUV := addHk hkUN 34 sUV
theorem noV1 : ∀ args h, hkUN 84 args h = none := fun _ _ => rfl
theorem tmU : ∀ args h, hkUN 76 args h = hkTm 76 args h := fun _ _ => rfl
theorem EUV : EvOK (mkEv Tryz.prog mu0 hkUV) := mkEv_add EUN fun args v hs => by
  unfold sUV at hs; split at hs
  · rename_i x
    split at hs
    · rename_i t ht
      split at hs
      · rename_i hL
        cases hs
        have hx : IsL x (t.map intV) := decL_inv ht
        obtain ⟨N, hN⟩ : ∃ N, N = t.length + 1 + 5 := ⟨_, rfl⟩
        have hV : ∀ i1 i4 i5 i6, hVa i1 i4 i5 i6 x t (t.length + 1) (evCall (mkEv Tryz.prog mu0 hkUN) N) := fun i1 i4 i5 i6 => by
          rw [hN]; exact hVa_of noV1 hx hL (t.length + 1)
        obtain ⟨h', hb⟩ := bUV (evCall (mkEv Tryz.prog mu0 hkUN) N) (rg Tryz.prog mu0 hkUN N 34) N hx hL (fun h => hTm_of (hk := hkUN) tmU (by omega) t x h hx hL) hV .empty
        exact ⟨rfl, ev_ofS shT rfl Tryz.func34 rfl (by kernel_rfl) hb⟩
      · cases hs
    · cases hs
  · cases hs
def hUV (call : CallT) : Prop := ∀ (t : List Int) (x : AV) (h : AH), IsL x (t.map intV) → t.length ≤ 100000 → call (.func 34) [x] h = some (.ret (valueV t), h)
theorem hUV_of {hk : Hooks} {n : Nat} (hk' : ∀ args h, hk 34 args h = hkUV 34 args h) (hn : 0 < n) : hUV (evCall (mkEv Tryz.prog mu0 hk) n) := fun t x h hx hL => ev_hk (by
  rw [hk']
  obtain ⟨a1, a2⟩ := intsOf_of hx
  refine hk_top (by simp [freeL, a2]) ?_
  show (match intsOf (weakV x) with | some t => if t.length ≤ 100000 then some (valueV t) else none | none => none) = _
  rw [a1]; simp only [if_pos hL]) hn
section
variable {t : List Int} {x : AV}

theorem lEn (call rgn n) (hx : IsL x (t.map intV)) {L : Nat} (hL : t.length = L) (hL8 : L ≤ 100000) (res : Int) {h : AH} {K : KC (AOut × AH)} {Q : Option (AOut × AH) → Prop}
    (hR : res = -1 → ∀ {g0 g1 g2 g3 g5 g6 g7 g8 g9 aA aB aC aD aE aF aG aH aI aJ aK aL aM aN aO aP aQ aR aS aT aU : AV}, Q (K .ret ⟨[g0,g1,g2,g3,.int .i64 (-1),g5,g6,g7,g8,g9,aA,aB,aC,aD,aE,aF,aG,aH,aI,aJ,aK,aL,aM,aN,aO,aP,aQ,aR,aS,aT,aU], [], h⟩))
    (hK : ∀ {y : Int} {g0 g2 g3 g4 g5 g6 g7 g8 g9 aA aB aC aD aE aF aG aH aI aJ aK aL aM aN aO aP aQ aR aS aT aU : AV}, y = res → Q (K (.exit 0) ⟨[g0,.int .i64 y,g2,g3,g4,g5,g6,g7,g8,g9,aA,aB,aC,aD,aE,aF,aG,aH,aI,aJ,aK,aL,aM,aN,aO,aP,aQ,aR,aS,aT,aU], [], h⟩)) :
    ∀ (m i left : Nat) {z y : Int} {g2 g3 g4 g6 g7 g8 g9 aA aB aC aD aE aF aG aH aI aJ aK aL aM aN aO aP aQ aR aS aT aU : AV}, z = i → y = left → i ≤ L → L - i < m → left ≤ i + 1 → endF (t.drop i) left z = res →
    Q (cIter (LB shT call rgn n 109 Tryz.f109 0) m ⟨[x,.int .i64 z,g2,g3,g4,.int .i64 y,g6,g7,g8,g9,aA,aB,aC,aD,aE,aF,aG,aH,aI,aJ,aK,aL,aM,aN,aO,aP,aQ,aR,aS,aT,aU], [], h⟩ K) := by
  have u : Tryz.prog.underlying 40 = some (.slice 3) := by kernel_rfl
  have hlx := fun h => len_L (X := ⟨Tryz.prog, mu0, call⟩) (mu := false) (h := h) u hx
  rw [List.length_map, hL] at hlx
  intro m
  induction m with
  | zero => intros; omega
  | succ m ih =>
    intro i left z y g2 g3 g4 g6 g7 g8 g9 aA aB aC aD aE aF aG aH aI aJ aK aL aM aN aO aP aQ aR aS aT aU hz hy hi hm hle hF
    rw [cIter_succ]
    conv => arg 1; whnf
    split
    · rename_i hd
      have hl0 : ¬ left = 0 := by simp at hd; omega
      conv => arg 1; whnf
      refine atCall_P (hlx h) ?_
      conv => arg 1; whnf
      cases e1 : decide (z ≥ (L : Int))
      · have hlt : i < t.length := by simp at e1; omega
        have hdrop : t.drop i = t[i] :: t.drop (i + 1) := List.drop_eq_getElem_cons hlt
        obtain ⟨y0, y1, y2⟩ := idx_ints (h := h) (a := z) hx (by omega) (by omega)
        rw [show z.toNat = i by omega, List.getElem?_eq_getElem hlt, Option.some.injEq] at y1
        rw [hdrop, y1] at hF
        simp only [endF, if_neg hl0] at hF
        have hz' : IntKind.i64.wrap (z + 1) = ((i + 1 : Nat) : Int) := by rw [hz]; exact wrap_succ (by omega)
        conv => arg 1; whnf
        conv => arg 1; whnf
        refine atCall_P (y2) ?_
        conv => arg 1; whnf
        cases e2 : decide (y0 < -2)
        · rw [if_neg (by simpa using e2)] at hF
          conv => arg 1; whnf
          conv => arg 1; whnf
          refine atCall_P (y2) ?_
          conv => arg 1; whnf
          cases e3 : decide (y0 < 0)
          · rw [if_neg (by simpa using e3)] at hF
            conv => arg 1; whnf
            exact ih (i + 1) (left - 1) hz' (by rw [wrap_small (by omega) (by omega)]; omega) (by omega) (by omega) (by omega) (by rw [hz', ← hF]; congr 1; omega)
          · rw [if_pos (by simpa using e3)] at hF
            conv => arg 1; whnf
            exact ih (i + 1) (left + 1) hz' (by rw [wrap_small (by omega) (by omega)]; omega) (by omega) (by omega) (by omega) (by rw [hz', ← hF]; congr 1; omega)
        · rw [if_pos (by simpa using e2)] at hF
          conv => arg 1; whnf
          exact hR hF.symm
      · have hlt : ¬ i < t.length := by simp at e1; omega
        rw [List.drop_eq_nil_of_le (by omega)] at hF
        simp only [endF, if_neg hl0] at hF
        conv => arg 1; whnf
        exact hR hF.symm
    · rename_i hd
      have hl0 : left = 0 := by simp at hd; omega
      refine hK ?_
      rw [← hF, hl0]
      cases t.drop i with
      | nil => simp [endF]
      | cons a r => simp [endF]

theorem bEnd (call rgn n) (hx : IsL x (t.map intV)) (hL8 : t.length ≤ 100000) (hn : t.length < n) (h : AH) :
    B shT call rgn n 109 Tryz.f109 [x, .int .i64 0] h = some (.ret (.int .i64 (endF t 1 0)), h) := by
  suffices hq : ∀ Q : Option (AOut × AH) → Prop, (∀ w, w = endF t 1 0 → Q (some (.ret (.int .i64 w), h))) → Q (B shT call rgn n 109 Tryz.f109 [x, .int .i64 0] h) from hq (fun y => y = some (.ret (.int .i64 (endF t 1 0)), h)) (fun w e => by rw [e])
  intro Q hQ
  conv => arg 1; whnf
  refine lEn call rgn n hx rfl hL8 (endF t 1 0) ?_ ?_ n 0 1 (z := 0) (y := 1) rfl rfl (Nat.zero_le _) (by omega) (by omega) (by rw [List.drop_zero])
  · intro hb
    intros
    exact atLeave_P (leave_plain (.inl rfl) rfl) (hQ _ hb.symm)
  · intro y
    intros
    rename_i hb
    conv => arg 1; whnf
    exact atLeave_P (leave_plain (.inl rfl) rfl) (hQ _ hb)

theorem bGd (call rgn n) (hx : IsL x (t.map intV)) (hEn : ∀ h, call (.func 109) [x, .int .i64 0] h = some (.ret (.int .i64 (endF t 1 0)), h)) (h : AH) :
    B shT call rgn n 81 Tryz.f81 [x] h = some (.ret (.bool (tfF t 1)), h) := by
  suffices hq : ∀ Q : Option (AOut × AH) → Prop, (∀ w, w = tfF t 1 → Q (some (.ret (.bool w), h))) → Q (B shT call rgn n 81 Tryz.f81 [x] h) from hq (fun y => y = some (.ret (.bool (tfF t 1)), h)) (fun w e => by rw [e])
  intro Q hQ
  have u : Tryz.prog.underlying 40 = some (.slice 3) := by kernel_rfl
  have hlx := len_L (X := ⟨Tryz.prog, mu0, call⟩) (mu := false) (h := h) u hx
  rw [List.length_map] at hlx
  conv => arg 1; whnf
  refine atCall_P (hEn h) ?_
  conv => arg 1; whnf
  refine atCall_P (hlx) ?_
  conv => arg 1; whnf
  exact atLeave_P (leave_plain (.inl rfl) rfl) (hQ _ (by
    have := end_good t 1 0 (by omega)
    rw [Int.zero_add] at this
    exact this))
end

def sGd : List AV → Option AV
  | [x] => match intsOf x with | some t => if t.length ≤ 100000 then some (.bool (tfF t 1)) else none | none => none
  | _ => none
def sEd : List AV → Option AV
  | [x, .int .i64 z] => match intsOf x with | some t => if t.length ≤ 100000 ∧ z = 0 then some (.int .i64 (endF t 1 0)) else none | none => none
  | _ => none
noncomputable def hkEd := addHk hkUV 109 sEd
theorem EEd : EvOK (mkEv Tryz.prog mu0 hkEd) := mkEv_add EUV fun args v hs => by
  unfold sEd at hs; split at hs
  · rename_i x z
    split at hs
    · rename_i t ht
      split at hs
      · rename_i hL
        obtain ⟨hL, rfl⟩ := hL
        cases hs
        obtain ⟨N, hN⟩ : ∃ N, N = t.length + 1 := ⟨_, rfl⟩
        exact ⟨rfl, ev_ofS shT rfl Tryz.func109 rfl (by kernel_rfl) (bEnd (evCall (mkEv Tryz.prog mu0 hkUV) N) (rg Tryz.prog mu0 hkUV N 109) N (decL_inv ht) hL (by omega) .empty)⟩
      · cases hs
    · cases hs
  · cases hs
def hEd (call : CallT) : Prop := ∀ (t : List Int) (x : AV) (h : AH), IsL x (t.map intV) → t.length ≤ 100000 → call (.func 109) [x, .int .i64 0] h = some (.ret (.int .i64 (endF t 1 0)), h)
theorem hEd_of {hk : Hooks} {n : Nat} (hk' : ∀ args h, hk 109 args h = hkEd 109 args h) (hn : 0 < n) : hEd (evCall (mkEv Tryz.prog mu0 hk) n) := fun t x h hx hL => ev_hk (by
  rw [hk']
  obtain ⟨a1, a2⟩ := intsOf_of hx
  refine hk_top (by simp [freeL, a2, freeV]) ?_
  show (match intsOf (weakV x) with | some t => if t.length ≤ 100000 ∧ (0 : Int) = 0 then some (AV.int .i64 (endF t 1 0)) else none | none => none) = _
  rw [a1]; simp only [if_pos hL, and_true]) hn
noncomputable def hkGd := addHk hkEd 81 sGd
theorem edE : ∀ args h, hkEd 109 args h = hkEd 109 args h := fun _ _ => rfl
theorem EGd : EvOK (mkEv Tryz.prog mu0 hkGd) := mkEv_add EEd fun args v hs => by
  unfold sGd at hs; split at hs
  · rename_i x
    split at hs
    · rename_i t ht
      split at hs
      · rename_i hL
        cases hs
        exact ⟨rfl, ev_ofS shT rfl Tryz.func81 rfl (by kernel_rfl) (bGd (evCall (mkEv Tryz.prog mu0 hkEd) 1) (rg Tryz.prog mu0 hkEd 1 81) 1 (decL_inv ht) (fun h => hEd_of (hk := hkEd) edE (by omega) t x h (decL_inv ht) hL) .empty)⟩
      · cases hs
    · cases hs
  · cases hs
def hGd (call : CallT) : Prop := ∀ (t : List Int) (x : AV) (h : AH), IsL x (t.map intV) → t.length ≤ 100000 → call (.func 81) [x] h = some (.ret (.bool (tfF t 1)), h)
theorem hGd_of {hk : Hooks} {n : Nat} (hk' : ∀ args h, hk 81 args h = hkGd 81 args h) (hn : 0 < n) : hGd (evCall (mkEv Tryz.prog mu0 hk) n) := fun t x h hx hL => ev_hk (by
  rw [hk']
  obtain ⟨a1, a2⟩ := intsOf_of hx
  refine hk_top (by simp [freeL, a2]) ?_
  show (match intsOf (weakV x) with | some t => if t.length ≤ 100000 then some (AV.bool (tfF t 1)) else none | none => none) = _
  rw [a1]; simp only [if_pos hL]) hn
end Go.Proofs.Nt

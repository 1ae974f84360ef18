/- Signatures: the functions of the package sig, run. -/
import Derived.Test.YtnhejnnpcnoeeaaGreatSkOpen
import Derived.Test.YtnhejnnpcnoeeaaGreatSkX2
import Derived.Test.YtnhejnnpcnoeeaaGreatProg
import Derived.KernelRfl
set_option linter.unusedVariables false
set_option linter.unusedSimpArgs false
set_option maxRecDepth 10000
namespace Go.Proofs.Nt
open Go.Sk
abbrev RgnT := Nat → Array Oper → ASt → Option (AExit × ASt)
abbrev CallT := AFn → List AV → AH → Option (AOut × AH)
def mu0 : FuncId → Nat → Bool := fun f n => (Nat.beq f 60 && Nat.beq n 82) || (Nat.beq f 145 && Nat.beq n 13) || (Nat.beq f 145 && Nat.beq n 35) || (Nat.beq f 145 && Nat.beq n 100) || (Nat.beq f 132 && Nat.beq n 44) || (Nat.beq f 147 && Nat.beq n 47) || (Nat.beq f 65 && Nat.beq n 74)
def shT : Nat → Option (List Nat) := fun id => match Nat.beq id 999999 with | true => some [] | false => none
noncomputable abbrev B (tab : Nat → Option (List Nat)) (call : CallT) (rgn : RgnT) (n : Nat) (f : FuncId) (fn : Func) (args : List AV) (h : AH) := cBodyS Tryz.prog mu0 call rgn tab n f fn (codeOf fn) args h
noncomputable abbrev LB (tab : Nat → Option (List Nat)) (call : CallT) (rgn : RgnT) (n : Nat) (f : FuncId) (fn : Func) (i : Nat) : CF (AOut × AH) := cCode ⟨Tryz.prog, mu0, call⟩ rgn f tab none n (loopAt (codeOf fn) i)
def IsL (x : AV) (xs : List AV) : Prop := (x = .nilsl ∧ xs = []) ∨ ∃ c, x = .vsl xs c
theorem len_L {X : Cx} {mu : Bool} {t e : TypeId} {x : AV} {xs : List AV} {h : AH} (ht : X.P.underlying t = some (.slice e)) (hx : IsL x xs) : aBuiltin X mu .len #[t] [x] h = some (.ret (.int .i64 xs.length), h) := by
  have : (#[t] : Array TypeId)[0]? = some t := rfl
  rcases hx with ⟨rfl, rfl⟩ | ⟨c, rfl⟩ <;> simp [aBuiltin, aLen, ht, vOf]
theorem idx_L {P : Program} {t e : TypeId} {x v : AV} {xs : List AV} {h : AH} {k : IntKind} {y : Int} {i n : Nat} (ht : P.underlying t = some (.slice e)) (hn : sizeT P e = some n) (hx : IsL x xs) (hy : y = i) (hv : xs[i]? = some v) (hc : v.cells.length = n) :
    vOf h (aIndexAddr P t x (.int k y)) = some (.ret (.ref v), h) := by
  have hlt : i < xs.length := (List.getElem?_eq_some_iff.1 hv).1
  rcases hx with ⟨rfl, rfl⟩ | ⟨c, rfl⟩
  · simp at hlt
  · subst hy
    have h2 : xs[i].cells.length = n := by rw [← hc, (List.getElem?_eq_some_iff.1 hv).2]
    have h3 : xs[i] = v := (List.getElem?_eq_some_iff.1 hv).2
    simp [aIndexAddr, ht, hn, hlt, h2, vOf]; exact h3
abbrev Ag := List UInt8 × Int
def agV (a : Ag) : AV := .agg [.str a.1, .int .i64 a.2]
abbrev IsSig (x : AV) (s : List Ag) : Prop := IsL x (s.map agV)
theorem wrap_succ {i : Nat} (h : i < 9223372036854775807) : IntKind.i64.wrap ((i : Int) + 1) = ((i + 1 : Nat) : Int) := by
  simp [IntKind.wrap, IntKind.bits, IntKind.signed]
  omega
theorem leave_plain {P : Program} {fn : Func} {x : AExit} {tm : List AV} {h : AH} {l : List AV} (hx : x = .ret ∨ x = .normal) (hr : aResults P tm h fn.results.toList = some l) : leaveA P fn (some (x, ⟨tm, [], h⟩)) = some (.ret (oneOrTup l), h) := by
  rcases hx with rfl | rfl <;> simp [leaveA, takeDefs, hr]
theorem leave_eq {P : Program} {fn : Func} {x : AExit} {tm : List AV} {h : AH} {l : List AV} {y : Option (AOut × AH)} (hx : x = .ret ∨ x = .normal) (hr : aResults P tm h fn.results.toList = some l) (hy : some (.ret (oneOrTup l), h) = y) : atLeave P fn x ⟨tm, [], h⟩ = y := by
  unfold atLeave; rw [leave_plain hx hr]; exact hy
theorem getElem?_nat {α : Type} {l : List α} {i : Nat} {x : Int} (hx : x = i) : l[x.toNat]? = l[i]? := by rw [hx]; rfl
theorem st_new {P : Program} {T : TypeId} {n : Nat} {h : AH} {cs0 cs : List AV} {v : AV} (hn : sizeT P T = some n) (hcs : v.cells = cs) (hc : cs.length = n) (h0 : cs0.length = n) (hs : cs.all AV.scalar = true) :
    hOf (aStore P T (.ptr h.next 0) v (h.alloc (.cells cs0 T))) = some (.ret undefA, (h.alloc (.cells cs0 T)).set h.next (.cells cs T)) := by
  subst hcs
  rw [st_ptr (n := n) (cs := cs0) (T := T) (by rw [AH.get_alloc, if_pos rfl]) hn hc (by omega) hs]
  have : setCells cs0 0 v.cells = v.cells := by
    have key : ∀ (vs cs pre : List AV), vs.length = cs.length → setCells (pre ++ cs) pre.length vs = pre ++ vs := by
      intro vs
      induction vs with
      | nil => intro cs pre h; have : cs = [] := List.eq_nil_of_length_eq_zero h.symm; subst this; rfl
      | cons a r ih =>
        intro cs pre h
        cases cs with
        | nil => simp at h
        | cons b cs =>
          show setCells ((pre ++ b :: cs).set pre.length a) (pre.length + 1) r = _
          have e : (pre ++ b :: cs).set pre.length a = (pre ++ [a]) ++ cs := by simp
          rw [e, show pre.length + 1 = (pre ++ [a]).length by simp, ih cs (pre ++ [a]) (by simpa using h)]
          simp
    simpa using key v.cells cs0 [] (by omega)
  rw [this]; rfl
theorem new_obj (h : AH) (cs0 cs : List AV) (T : TypeId) :
    ((h.alloc (.cells cs0 T)).set h.next (.cells cs T)).get h.next = some (.cells cs T) ∧ h.next.nat + 1 = ((h.alloc (.cells cs0 T)).set h.next (.cells cs T)).next.nat ∧
    ∀ q o, h.get q = some o → q.nat < h.next.nat → ((h.alloc (.cells cs0 T)).set h.next (.cells cs T)).get q = some o := by
  refine ⟨by rw [AH.get_set, if_pos rfl], by rw [AH.next_set, AH.next_alloc, Id.nat_succ], fun q o hq hlt => ?_⟩
  have : q ≠ h.next := by rintro rfl; omega
  rw [AH.get_set, if_neg this, AH.get_alloc, if_neg this]; exact hq
def portsN (s : List Ag) (a : Int) : Int :=
  if a < 0 then 0 else match s[a.toNat]? with
    | none => 0
    | some g => if g.2 < 0 then 0 else IntKind.i64.wrap (g.2 + 1)
theorem b31 (call rgn n) (x : AV) (s : List Ag) (a : Int) (h : AH) (hx : IsSig x s) : B shT call rgn n 99 Tryz.f99 [x, .int .i64 a] h = some (.ret (.int .i64 (portsN s a)), h) := by
  have u : Tryz.prog.underlying 22 = some (.slice 41) := by kernel_rfl
  have hlen := fun h => len_L (X := ⟨Tryz.prog, mu0, call⟩) (mu := false) (h := h) u hx
  rw [List.length_map] at hlen
  conv => lhs; whnf
  split
  · rename_i e1
    conv => lhs; whnf
    refine leave_eq (.inl rfl) rfl ?_
    have : a < 0 := by simpa using e1
    unfold portsN; rw [if_pos this]; rfl
  rename_i e1
  have ha : ¬ a < 0 := by simpa using e1
  conv => lhs; whnf
  refine atCall_ret (hlen _) ?_
  conv => lhs; whnf
  split
  · rename_i e2
    conv => lhs; whnf
    refine leave_eq (.inl rfl) rfl ?_
    have : s[a.toNat]? = none := List.getElem?_eq_none (by simp at e2; omega)
    unfold portsN; rw [if_neg ha, this]; rfl
  rename_i e2
  have hlt : a.toNat < s.length := by simp at e2; omega
  have hat : a = a.toNat := by omega
  have hg : (s.map agV)[a.toNat]? = some (agV s[a.toNat]) := by rw [List.getElem?_map, List.getElem?_eq_getElem hlt]; rfl
  have hidx := fun h => idx_L (P := Tryz.prog) (t := 22) (e := 41) (n := 2) (h := h) (k := .i64) u (by kernel_rfl) hx hat hg rfl
  have hp : portsN s a = if s[a.toNat].2 < 0 then 0 else IntKind.i64.wrap (s[a.toNat].2 + 1) := by
    unfold portsN; rw [if_neg ha, List.getElem?_eq_getElem hlt]
  generalize s[a.toNat] = g at hidx hp
  obtain ⟨nm, ar⟩ := g
  conv => lhs; whnf
  refine atCall_ret (hidx _) ?_
  conv => lhs; whnf
  split
  · rename_i e3
    conv => lhs; whnf
    refine leave_eq (.inl rfl) rfl ?_
    rw [hp, if_pos (by simpa using e3)]; rfl
  · rename_i e3
    conv => lhs; whnf
    refine atCall_ret (hidx _) ?_
    conv => lhs; whnf
    refine leave_eq (.inl rfl) rfl ?_
    rw [hp, if_neg (by simpa using e3)]; rfl
def smallI (c : Int) : Bool := decide (c ≥ 97) && decide (c ≤ 122)
def greatI (c : Int) : Bool := decide (c ≥ 65) && decide (c ≤ 90)
def insideI (c : Int) : Bool := smallI c || greatI c || (decide (c ≥ 48) && decide (c ≤ 57)) || (c == 95)
def inB (b : UInt8) : Bool := insideI b.toNat
def beginsT (s : List UInt8) (lo hi : Int) : Bool := match s with | [] => false | c :: r => decide (s.length ≤ 16) && decide ((c.toNat : Int) ≥ lo) && decide ((c.toNat : Int) ≤ hi) && r.all inB
theorem l36 (call rgn n) (s : List UInt8) (hs : s.length ≤ 16) {h : AH} {K : KC (AOut × AH)} {y : Option (AOut × AH)} {b : Bool}
    (hK : ∀ {g1 g2 g3 g4 g5 g6 g8 g9 aA aB aC aD aE aF aG aH aI aJ aK aL aM aN aO aP aQ aR aS aT aU aV aW aX aY aZ bA bB bC bD bE bF bG bH bI bJ bK bL bM bN bO bP bQ bR bS bT bU bV bW bX bY bZ cA cB : AV}, K (.exit 0) ⟨[.str s,g1,g2,g3,g4,g5,g6,.bool b,g8,g9,aA,aB,aC,aD,aE,aF,aG,aH,aI,aJ,aK,aL,aM,aN,aO,aP,aQ,aR,aS,aT,aU,aV,aW,aX,aY,aZ,bA,bB,bC,bD,bE,bF,bG,bH,bI,bJ,bK,bL,bM,bN,bO,bP,bQ,bR,bS,bT,bU,bV,bW,bX,bY,bZ,cA,cB], [], h⟩ = y) :
    ∀ (m i : Nat) {x : Int} {g1 g2 g3 g4 g5 g6 g9 aA aB aC aD aE aF aG aH aI aJ aK aL aM aN aO aP aQ aR aS aT aU aV aW aX aY aZ bA bB bC bD bE bF bG bH bI bJ bK bL bM bN bO bP bQ bR bS bT bU bV bW bX bY bZ cA cB : AV}, x = i → i ≤ s.length → s.length - i < m → b = (s.drop i).all inB →
    cIter (LB noTab call rgn n 73 Tryz.f73 0) m ⟨[.str s,g1,g2,g3,g4,g5,g6,.bool true,.int .i64 x,g9,aA,aB,aC,aD,aE,aF,aG,aH,aI,aJ,aK,aL,aM,aN,aO,aP,aQ,aR,aS,aT,aU,aV,aW,aX,aY,aZ,bA,bB,bC,bD,bE,bF,bG,bH,bI,bJ,bK,bL,bM,bN,bO,bP,bQ,bR,bS,bT,bU,bV,bW,bX,bY,bZ,cA,cB], [], h⟩ K = y := by
  intro m
  induction m with
  | zero => intros; omega
  | succ m ih =>
    intro i x g1 g2 g3 g4 g5 g6 g9 aA aB aC aD aE aF aG aH aI aJ aK aL aM aN aO aP aQ aR aS aT aU aV aW aX aY aZ bA bB bC bD bE bF bG bH bI bJ bK bL bM bN bO bP bQ bR bS bT bU bV bW bX bY bZ cA cB hx hi hm hb
    rw [cIter_succ]
    conv => lhs; whnf
    split
    · rename_i hd
      have hlt : i < s.length := by simp at hd; omega
      have h0 : decide (0 ≤ x) = true := by simp; omega
      have hdrop : s.drop i = s[i] :: s.drop (i + 1) := List.drop_eq_getElem_cons hlt
      have w1 : IntKind.i64.wrap (x + 1) = ((i + 1 : Nat) : Int) := by rw [hx]; exact wrap_succ (by omega)
      conv => lhs; whnf
      rw [h0]
      conv => lhs; whnf
      rw [getElem?_nat hx, List.getElem?_eq_getElem hlt]
      rw [hdrop, List.all_cons] at hb
      generalize hc : s[i] = c at hb
      have hb1 : inB c = true → b = (s.drop (i + 1)).all inB := fun h => by rw [hb, h]; rfl
      have hb0 : inB c = false → b = false := fun h => by rw [hb, h]; rfl
      clear hb hc hdrop
      repeat' ((conv => lhs; whnf); split)
      all_goals (conv => lhs; whnf)
      all_goals first
        | (refine ih (i + 1) w1 (by omega) (by omega) (hb1 ?_); clear ih hK hb1 hb0 hm; simp_all [inB, insideI, smallI, greatI]; done)
        | (have h0 := hb0 (by clear ih hK hb1 hm; simp_all [inB, insideI, smallI, greatI] <;> omega); subst h0; exact hK)
    · rename_i hd
      have hlt : ¬ i < s.length := by simp at hd; omega
      have : b = true := by rw [hb, List.drop_eq_nil_of_le (by omega)]; rfl
      subst this; exact hK
theorem l36f (call rgn n) {v0 : AV} {h : AH} {K : KC (AOut × AH)} {y : Option (AOut × AH)}
    (hK : ∀ {g1 g2 g3 g4 g5 g6 g8 g9 aA aB aC aD aE aF aG aH aI aJ aK aL aM aN aO aP aQ aR aS aT aU aV aW aX aY aZ bA bB bC bD bE bF bG bH bI bJ bK bL bM bN bO bP bQ bR bS bT bU bV bW bX bY bZ cA cB : AV}, K (.exit 0) ⟨[v0,g1,g2,g3,g4,g5,g6,.bool false,g8,g9,aA,aB,aC,aD,aE,aF,aG,aH,aI,aJ,aK,aL,aM,aN,aO,aP,aQ,aR,aS,aT,aU,aV,aW,aX,aY,aZ,bA,bB,bC,bD,bE,bF,bG,bH,bI,bJ,bK,bL,bM,bN,bO,bP,bQ,bR,bS,bT,bU,bV,bW,bX,bY,bZ,cA,cB], [], h⟩ = y) :
    ∀ (m : Nat) {g1 g2 g3 g4 g5 g6 g8 g9 aA aB aC aD aE aF aG aH aI aJ aK aL aM aN aO aP aQ aR aS aT aU aV aW aX aY aZ bA bB bC bD bE bF bG bH bI bJ bK bL bM bN bO bP bQ bR bS bT bU bV bW bX bY bZ cA cB : AV}, 0 < m → cIter (LB noTab call rgn n 73 Tryz.f73 0) m ⟨[v0,g1,g2,g3,g4,g5,g6,.bool false,g8,g9,aA,aB,aC,aD,aE,aF,aG,aH,aI,aJ,aK,aL,aM,aN,aO,aP,aQ,aR,aS,aT,aU,aV,aW,aX,aY,aZ,bA,bB,bC,bD,bE,bF,bG,bH,bI,bJ,bK,bL,bM,bN,bO,bP,bQ,bR,bS,bT,bU,bV,bW,bX,bY,bZ,cA,cB], [], h⟩ K = y := by
  intro m
  intros
  obtain ⟨m, rfl⟩ : ∃ m', m = m' + 1 := ⟨m - 1, by omega⟩
  rw [cIter_succ]
  conv => lhs; whnf
  exact hK
theorem b36 (call rgn n) (s : List UInt8) (lo hi : Int) (h : AH) (hn : 16 < n) : B noTab call rgn n 73 Tryz.f73 [.str s, .int .u8 lo, .int .u8 hi] h = some (.ret (.bool (beginsT s lo hi)), h) := by
  cases s with
  | nil =>
    conv => lhs; whnf
    have : decide (((([] : List UInt8).length : Nat) : Int) ≥ 1) = false := by simp
    rw [this]
    conv => lhs; whnf
    refine l36f call rgn n ?_ n (by omega)
    intros
    conv => lhs; whnf
    exact leave_eq (.inl rfl) rfl rfl
  | cons c r =>
    have e0 : decide ((((c :: r).length : Nat) : Int) ≥ 1) = true := by simp; omega
    have e1 : (c :: r)[(0 : Int).toNat]? = some c := rfl
    have fin : ∀ b, b = beginsT (c :: r) lo hi → ∀ {g1 g2 g3 g4 g5 g8 g9 aA aB aC aD aE aF aG aH aI aJ aK aL aM aN aO aP aQ aR aS aT aU aV aW aX aY aZ bA bB bC bD bE bF bG bH bI bJ bK bL bM bN bO bP bQ bR bS bT bU bV bW bX bY bZ cA cB : AV}, atLeave Tryz.prog Tryz.f73 .ret ⟨[.str (c :: r),g1,g2,g3,g4,g5,.bool b,.bool b,g8,g9,aA,aB,aC,aD,aE,aF,aG,aH,aI,aJ,aK,aL,aM,aN,aO,aP,aQ,aR,aS,aT,aU,aV,aW,aX,aY,aZ,bA,bB,bC,bD,bE,bF,bG,bH,bI,bJ,bK,bL,bM,bN,bO,bP,bQ,bR,bS,bT,bU,bV,bW,bX,bY,bZ,cA,cB], [], h⟩ = some (.ret (.bool (beginsT (c :: r) lo hi)), h) := by
      intro b hb
      intros
      exact leave_eq (.inl rfl) rfl (by rw [hb]; rfl)
    conv => lhs; whnf
    rw [e0]
    conv => lhs; whnf
    split
    · rename_i e2
      conv => lhs; whnf
      split
      · rename_i e3
        conv => lhs; whnf
        cases e4 : decide ((c.toNat : Int) ≤ hi)
        · refine l36f call rgn n ?_ n (by omega)
          intros
          conv => lhs; whnf
          exact fin _ (by simp only [beginsT, e4, Bool.and_false, Bool.false_and])
        · refine l36 call rgn n (c :: r) (by simp at e2 ⊢; omega) (b := r.all inB) ?_ n 1 rfl (by simp) (by simp at e2 ⊢; omega) rfl
          intros
          conv => lhs; whnf
          exact fin _ (by simp only [beginsT, show decide ((c :: r).length ≤ 16) = true by simp at e2 ⊢; omega, e3, e4, Bool.true_and])
      · rename_i e3
        conv => lhs; whnf
        refine l36f call rgn n ?_ n (by omega)
        intros
        conv => lhs; whnf
        exact fin _ (by simp only [beginsT, e3, Bool.and_false, Bool.false_and])
    · rename_i e2
      conv => lhs; whnf
      refine l36f call rgn n ?_ n (by omega)
      intros
      conv => lhs; whnf
      exact fin _ (by simp only [beginsT, show decide ((c :: r).length ≤ 16) = false by simp at e2 ⊢; omega, Bool.false_and])
def h36 (call : CallT) : Prop := ∀ s lo hi h, call (.func 73) [.str s, .int .u8 lo, .int .u8 hi] h = some (.ret (.bool (beginsT s lo hi)), h)
def wordT (s : List UInt8) : Bool := beginsT s 65 90
theorem b28 (call rgn n) (s : List UInt8) (h : AH) (h36 : h36 call) : B noTab call rgn n 46 Tryz.f46 [.str s] h = some (.ret (.bool (wordT s)), h) := by
  refine atCall_ret (h36 _ _ _ _) ?_
  conv => lhs; whnf
  exact leave_eq (.inl rfl) rfl rfl
def ofF : List Ag → List UInt8 → Nat → Int
  | [], _, _ => -1
  | a :: r, nm, i => if a.1 == nm then (i : Int) else ofF r nm (i + 1)
theorem l29 (call rgn n) (x0 : AV) (s : List Ag) (hx0 : IsSig x0 s) (hs : s.length ≤ 3000000000) (nm : List UInt8) (R : Int) {Q : Option (AOut × AH) → Prop} {v0 : AV} {K : KC (AOut × AH)}
    (hR : ∀ {h} {g0 g1 g2 g3 g5 g6 g7 g8 g9 aA aB aC aD aE aF aG aH aI aJ : AV}, Q (K .ret ⟨[g0,g1,g2,g3,.int .i64 R,g5,g6,g7,g8,g9,aA,aB,aC,aD,aE,aF,aG,aH,aI,aJ], [], h⟩))
    (hK : R = -1 → ∀ {h} {g0 g2 g3 g4 g5 g6 g7 g8 g9 aA aB aC aD aE aF aG aH aI aJ : AV}, Q (K (.exit 0) ⟨[g0,.str nm,g2,g3,g4,g5,g6,g7,g8,g9,aA,aB,aC,aD,aE,aF,aG,aH,aI,aJ], [], h⟩)) :
    ∀ (m i : Nat) {x : Int} {h : AH} {g2 g3 g4 g5 g6 aA aB aC aD aE aF aG aH aI aJ : AV}, x = i → i ≤ s.length → s.length - i < m → R = ofF (s.drop i) nm i →
    Q (cIter (LB shT call rgn n 21 Tryz.f21 0) m ⟨[v0,.str nm,g2,g3,g4,g5,g6,x0,.int .i64 s.length,.int .i64 x,aA,aB,aC,aD,aE,aF,aG,aH,aI,aJ], [], h⟩ K) := by
  have u : Tryz.prog.underlying 22 = some (.slice 41) := by kernel_rfl
  intro m
  induction m with
  | zero => intros; omega
  | succ m ih =>
    intro i x h g2 g3 g4 g5 g6 aA aB aC aD aE aF aG aH aI aJ hx hi hm hF
    rw [cIter_succ]
    conv => arg 1; whnf
    split
    · rename_i hd
      have hlt : i < s.length := by simp at hd; omega
      have hdrop : s.drop i = s[i] :: s.drop (i + 1) := List.drop_eq_getElem_cons hlt
      have hg : (s.map agV)[i]? = some (agV s[i]) := by rw [List.getElem?_map, List.getElem?_eq_getElem hlt]; rfl
      have hidx := fun h => idx_L (P := Tryz.prog) (t := 22) (e := 41) (n := 2) (h := h) (k := .i64) u (by kernel_rfl) hx0 hx hg rfl
      rw [hdrop] at hF
      generalize s[i] = g at hidx hF
      obtain ⟨gn, ga⟩ := g
      conv => arg 1; whnf
      refine atCall_P (hidx _) ?_
      conv => arg 1; whnf
      refine atCall_P (alloc_new (z := .agg [.str [], .int .i64 0]) (cs := [.str [], .int .i64 0]) (by kernel_rfl) rfl rfl) ?_
      conv => arg 1; whnf
      have hst := st_new (h := h) (cs0 := [.str [], .int .i64 0]) (v := .agg [.str gn, .int .i64 ga]) (cs := [.str gn, .int .i64 ga]) (T := 41) (n := 2) (P := Tryz.prog) (by kernel_rfl) rfl rfl rfl rfl
      refine atCall_P hst ?_
      obtain ⟨hget, hnx, hkeep⟩ := new_obj h [.str [], .int .i64 0] [.str gn, .int .i64 ga] 41
      generalize ((h.alloc (.cells [.str [], .int .i64 0] 41)).set h.next (.cells [.str gn, .int .i64 ga] 41)) = h2 at hget hnx hkeep ⊢
      generalize h.next = p at hget ⊢
      have ld0 : vOf h2 (aLoad Tryz.prog 9 (.ptr p 0) h2) = some (.ret (.str gn), h2) := ld_ptr (n := 1) hget (by kernel_rfl) (by kernel_rfl) rfl
      conv => arg 1; whnf
      refine atCall_P ld0 ?_
      conv => arg 1; whnf
      cases e1 : (gn == nm)
      · conv => arg 1; whnf
        refine ih (i + 1) (by rw [hx]; exact wrap_succ (by omega)) (by omega) (by omega) ?_
        rw [hF]; simp only [ofF, e1, Bool.false_eq_true, if_false]
      · conv => arg 1; whnf
        have : R = x := by rw [hF, hx]; simp only [ofF, e1, if_true]
        subst this
        exact hR
    · rename_i hd
      have hlt : ¬ i < s.length := by simp at hd; omega
      refine hK ?_
      rw [hF, List.drop_eq_nil_of_le (by omega)]; rfl
theorem b29 (call rgn n) (x : AV) (s : List Ag) (hx : IsSig x s) (hs : s.length ≤ 3000000000) (nm : List UInt8) (h : AH) (hn : s.length < n) :
    ∃ h', B shT call rgn n 21 Tryz.f21 [x, .str nm] h = some (.ret (.int .i64 (ofF s nm 0)), h') := by
  have u : Tryz.prog.underlying 22 = some (.slice 41) := by kernel_rfl
  have hlen := fun h => len_L (X := ⟨Tryz.prog, mu0, call⟩) (mu := false) (h := h) u hx
  rw [List.length_map] at hlen
  suffices hq : (fun r : Option (AOut × AH) => ∃ h', r = some (.ret (.int .i64 (ofF s nm 0)), h')) (B shT call rgn n 21 Tryz.f21 [x, .str nm] h) from hq
  generalize hQ : (fun r : Option (AOut × AH) => ∃ h', r = some (.ret (.int .i64 (ofF s nm 0)), h')) = Q
  have hQ' : ∀ h', Q (some (.ret (.int .i64 (ofF s nm 0)), h')) := fun h' => by rw [← hQ]; exact ⟨h', rfl⟩
  conv => arg 1; whnf
  refine atCall_P (hlen _) ?_
  conv => arg 1; whnf
  refine l29 call rgn n x s hx hs nm _ ?_ ?_ n 0 rfl (Nat.zero_le _) (by omega) (by rw [List.drop_zero])
  · intro h
    intros
    exact atLeave_P (leave_plain (.inl rfl) rfl) (hQ' _)
  · intro hR h
    intros
    conv => arg 1; whnf
    refine atLeave_P (leave_plain (.inl rfl) rfl) ?_
    have := hQ' h
    rw [hR] at this
    exact this
def decAll {α : Type} (dec : AV → Option α) : List AV → Option (List α)
  | [] => some []
  | v :: r => match dec v, decAll dec r with | some a, some l => some (a :: l) | _, _ => none
def decL {α : Type} (dec : AV → Option α) (enc : α → AV) : AV → Option (List α)
  | .nilsl => some []
  | .vsl xs _ => match decAll dec xs with | some l => if AV.beqL xs (l.map enc) then some l else none | none => none
  | _ => none
theorem decL_inv {α : Type} {dec : AV → Option α} {enc : α → AV} {x : AV} {l : List α} (h : decL dec enc x = some l) : IsL x (l.map enc) := by
  unfold decL at h
  split at h
  · simp only [Option.some.injEq] at h; subst h; exact .inl ⟨rfl, rfl⟩
  · split at h
    · split at h
      · rename_i hb
        simp only [Option.some.injEq] at h; subst h
        exact .inr ⟨_, by rw [AV.beqL_eq hb]⟩
      · cases h
    · cases h
  · cases h
theorem decAll_enc {α : Type} {dec : AV → Option α} {enc : α → AV} (hd : ∀ a, dec (enc a) = some a) : ∀ l : List α, decAll dec (l.map enc) = some l
  | [] => rfl
  | a :: l => by simp only [List.map_cons, decAll, hd, decAll_enc hd l]
theorem weakL_enc {α : Type} {enc : α → AV} (hw : ∀ a, weakV (enc a) = enc a) : ∀ l : List α, weakL (l.map enc) = l.map enc
  | [] => rfl
  | a :: l => by simp only [List.map_cons, weakL, hw, weakL_enc hw l]
theorem freeL_enc {α : Type} {enc : α → AV} (hf : ∀ a, freeV (enc a) = true) : ∀ l : List α, freeL (l.map enc) = true
  | [] => rfl
  | a :: l => by simp only [List.map_cons, freeL, hf, freeL_enc hf l, Bool.and_self]
theorem decL_of {α : Type} {dec : AV → Option α} {enc : α → AV} (hd : ∀ a, dec (enc a) = some a) (hw : ∀ a, weakV (enc a) = enc a) {x : AV} {l : List α} (h : IsL x (l.map enc)) : decL dec enc (weakV x) = some l := by
  rcases h with ⟨rfl, h⟩ | ⟨c, rfl⟩
  · have : l = [] := by simpa using h
    subst this; rfl
  · show decL dec enc (.vsl (weakL (l.map enc)) (weakC c)) = _
    simp only [weakL_enc hw, decL, decAll_enc hd, AV.beqL_refl, if_true]
theorem freeL_of {α : Type} {enc : α → AV} (hf : ∀ a, freeV (enc a) = true) {x : AV} {l : List α} (h : IsL x (l.map enc)) : freeV x = true := by
  rcases h with ⟨rfl, h⟩ | ⟨c, rfl⟩
  · rfl
  · exact freeL_enc hf l
def decAg : AV → Option Ag
  | .agg [.str n, .int .i64 a] => some (n, a)
  | _ => none
def sigOf : AV → Option (List Ag) := decL decAg agV
theorem sigOf_of {x : AV} {s : List Ag} (h : IsSig x s) : sigOf (weakV x) = some s := decL_of (dec := decAg) (enc := agV) (fun _ => rfl) (fun _ => rfl) h
theorem sig_free {x : AV} {s : List Ag} (h : IsSig x s) : freeV x = true := freeL_of (enc := agV) (fun _ => rfl) h
def sigF (all : List Ag) : List Ag → Nat → Int × Int
  | [], _ => (0, 0)
  | a :: r, i => if wordT a.1 = false then (12, i) else if ofF (all.take i) a.1 0 ≥ 0 then (21, i) else if a.2 < 0 ∨ a.2 > 6 then (22, i) else sigF all r (i + 1)
def sigChk (s : List Ag) : Int × Int := if s.length = 0 then (20, 0) else if s.length > 32 then (15, 32) else sigF s s 0
def h28 (call : CallT) : Prop := ∀ s h, call (.func 46) [.str s] h = some (.ret (.bool (wordT s)), h)
def h29 (call : CallT) : Prop := ∀ x s nm h, IsSig x s → s.length ≤ 3000000000 → call (.func 21) [x, .str nm] h = some (.ret (.int .i64 (ofF s nm 0)), h)
def tab14 : Nat → Option (List Nat) := fun id => match Nat.beq id 999999 with | true => some [] | false => match Nat.beq id 10 with | true => some [0, 1, 2, 3, 4, 5, 6, 7] | false => none
theorem sl_L {P : Program} {t e : TypeId} {x : AV} {xs : List AV} {k : IntKind} {y : Int} {i n : Nat} {h : AH} (ht : P.underlying t = some (.slice e)) (hn : sizeT P e = some n) (hx : IsL x xs) (hy : y = i) (hi : i ≤ xs.length) (hh : headOk n xs = true) :
    ∃ x', vOf h (aSlice P t x none (some (.int k y)) none) = some (.ret x', h) ∧ IsL x' (xs.take i) := by
  subst hy
  rcases hx with ⟨rfl, rfl⟩ | ⟨c, rfl⟩
  · have : i = 0 := by simpa using hi
    subst this
    exact ⟨.nilsl, by simp [aSlice, ht, hn, aBounds, aOptBound, aBound, vOf], .inl ⟨rfl, rfl⟩⟩
  · have hb : aBounds xs.length xs.length none (some (.int k (i : Int))) none = some (0, i, xs.length) := by simp [aBounds, aOptBound, aBound, hi]
    unfold aSlice
    simp only [ht, hb, hn]
    cases c <;> simp [vOf] <;> exact .inr ⟨_, rfl⟩
theorem headOk_sig {s : List Ag} : headOk 2 (s.map agV) = true := by cases s <;> rfl
theorem l14 (call rgn n) (x0 : AV) (s : List Ag) (hx0 : IsSig x0 s) (hs : s.length ≤ 32) (h28 : h28 call) (h29 : h29 call) {Q : Option (AOut × AH) → Prop} {K : KC (AOut × AH)}
    (hR : ∀ {h} {g0 g1 g4 g5 g6 g7 g8 g9 aA aB aC aD aE aF aG aH aI aJ aK aL aM aN aO aP aQ aR aS aT aU aV aW aX aY aZ bA bB bC bD bE bF bG bH bI : AV}, Q (K .ret ⟨[g0,g1,.int .i64 (sigF s s 0).1,.int .i64 (sigF s s 0).2,g4,g5,g6,g7,g8,g9,aA,aB,aC,aD,aE,aF,aG,aH,aI,aJ,aK,aL,aM,aN,aO,aP,aQ,aR,aS,aT,aU,aV,aW,aX,aY,aZ,bA,bB,bC,bD,bE,bF,bG,bH,bI], [], h⟩))
    (hK : sigF s s 0 = (0, 0) → ∀ {h} {g0 g1 g4 g5 g6 g7 g8 g9 aA aB aC aD aE aF aG aH aI aJ aK aL aM aN aO aP aQ aR aS aT aU aV aW aX aY aZ bA bB bC bD bE bF bG bH bI : AV}, Q (K (.exit 0) ⟨[g0,g1,.int .i64 0,.int .i64 0,g4,g5,g6,g7,g8,g9,aA,aB,aC,aD,aE,aF,aG,aH,aI,aJ,aK,aL,aM,aN,aO,aP,aQ,aR,aS,aT,aU,aV,aW,aX,aY,aZ,bA,bB,bC,bD,bE,bF,bG,bH,bI], [], h⟩)) :
    ∀ (m i : Nat) {x : Int} {h : AH} {g1 g4 g5 g6 g7 g8 g9 aA aB aF aG aH aI aJ aK aL aM aN aO aP aQ aR aS aT aU aV aW aX aY aZ bA bB bC bD bE bF bG bH bI : AV}, x = i → i ≤ s.length → s.length - i < m → sigF s s 0 = sigF s (s.drop i) i →
    Q (cIter (LB tab14 call rgn n 20 Tryz.f20 0) m ⟨[x0,g1,.int .i64 0,.int .i64 0,g4,g5,g6,g7,g8,g9,aA,aB,x0,.int .i64 s.length,.int .i64 x,aF,aG,aH,aI,aJ,aK,aL,aM,aN,aO,aP,aQ,aR,aS,aT,aU,aV,aW,aX,aY,aZ,bA,bB,bC,bD,bE,bF,bG,bH,bI], [], h⟩ K) := by
  have u : Tryz.prog.underlying 22 = some (.slice 41) := by kernel_rfl
  intro m
  induction m with
  | zero => intros; omega
  | succ m ih =>
    intro i x h g1 g4 g5 g6 g7 g8 g9 aA aB aF aG aH aI aJ aK aL aM aN aO aP aQ aR aS aT aU aV aW aX aY aZ bA bB bC bD bE bF bG bH bI hx hi hm hF
    rw [cIter_succ]
    conv => arg 1; whnf
    split
    · rename_i hd
      have hlt : i < s.length := by simp at hd; omega
      have hdrop : s.drop i = s[i] :: s.drop (i + 1) := List.drop_eq_getElem_cons hlt
      have hg : (s.map agV)[i]? = some (agV s[i]) := by rw [List.getElem?_map, List.getElem?_eq_getElem hlt]; rfl
      have hidx := fun h => idx_L (P := Tryz.prog) (t := 22) (e := 41) (n := 2) (h := h) (k := .i64) u (by kernel_rfl) hx0 hx hg rfl
      rw [hdrop] at hF
      generalize s[i] = g at hidx hF
      obtain ⟨gn, ga⟩ := g
      conv => arg 1; whnf
      refine atCall_P (hidx _) ?_
      conv => arg 1; whnf
      refine atCall_P (alloc_new (z := .agg [.str [], .int .i64 0]) (cs := [.str [], .int .i64 0]) (by kernel_rfl) rfl rfl) ?_
      conv => arg 1; whnf
      have hst := st_new (h := h) (cs0 := [.str [], .int .i64 0]) (v := .agg [.str gn, .int .i64 ga]) (cs := [.str gn, .int .i64 ga]) (T := 41) (n := 2) (P := Tryz.prog) (by kernel_rfl) rfl rfl rfl rfl
      refine atCall_P hst ?_
      obtain ⟨hget, hnx, hkeep⟩ := new_obj h [.str [], .int .i64 0] [.str gn, .int .i64 ga] 41
      generalize ((h.alloc (.cells [.str [], .int .i64 0] 41)).set h.next (.cells [.str gn, .int .i64 ga] 41)) = h2 at hget hnx hkeep ⊢
      generalize h.next = p at hget ⊢
      have ld0 : vOf h2 (aLoad Tryz.prog 9 (.ptr p 0) h2) = some (.ret (.str gn), h2) := ld_ptr (n := 1) hget (by kernel_rfl) (by kernel_rfl) rfl
      have ld1 : vOf h2 (aLoad Tryz.prog 3 (.ptr p 1) h2) = some (.ret (.int .i64 ga), h2) := ld_ptr (n := 1) hget (by kernel_rfl) (by kernel_rfl) rfl
      conv => arg 1; whnf
      refine atCall_P ld0 ?_
      conv => arg 1; whnf
      refine atCall_P (h28 _ _) ?_
      conv => arg 1; whnf
      cases e1 : wordT gn
      · conv => arg 1; whnf
        rw [hF] at hR
        simp only [sigF, e1, if_true, ← hx] at hR
        exact hR
      conv => arg 1; whnf
      obtain ⟨x', hsl, hx'⟩ := sl_L (P := Tryz.prog) (t := 22) (e := 41) (n := 2) (k := .i64) (h := h2) u (by kernel_rfl) hx0 hx (by rw [List.length_map]; omega) headOk_sig
      rw [← List.map_take] at hx'
      refine atCall_P hsl ?_
      conv => arg 1; whnf
      refine atCall_P ld0 ?_
      conv => arg 1; whnf
      refine atQuiet_P (h29 x' (s.take i) gn h2 hx' (by rw [List.length_take]; omega)) ?_
      conv => arg 1; whnf
      cases e2 : decide (ofF (s.take i) gn 0 ≥ 0)
      · have e2' : ¬ ofF (s.take i) gn 0 ≥ 0 := by simpa using e2
        have hF2 : sigF s s 0 = if ga < 0 ∨ ga > 6 then (22, (i : Int)) else sigF s (s.drop (i + 1)) (i + 1) := by
          rw [hF]; simp only [sigF, e1, if_neg (show ¬ (true = false) by simp), if_neg e2']
        conv => arg 1; whnf
        refine atCall_P ld1 ?_
        conv => arg 1; whnf
        cases e3 : decide (ga < 0)
        · conv => arg 1; whnf
          refine atCall_P ld1 ?_
          conv => arg 1; whnf
          cases e4 : decide (ga > 6)
          · conv => arg 1; whnf
            refine ih (i + 1) (by rw [hx]; exact wrap_succ (by omega)) (by omega) (by omega) ?_
            rw [hF2, if_neg (by simp at e3 e4; omega)]
          · conv => arg 1; whnf
            rw [hF2, if_pos (.inr (by simpa using e4)), ← hx] at hR
            exact hR
        · conv => arg 1; whnf
          rw [hF2, if_pos (.inl (by simpa using e3)), ← hx] at hR
          exact hR
      · conv => arg 1; whnf
        rw [hF] at hR
        simp only [sigF, e1, if_neg (show ¬ (true = false) by simp), if_pos (show ofF (s.take i) gn 0 ≥ 0 by simpa using e2), ← hx] at hR
        exact hR
    · rename_i hd
      have hlt : ¬ i < s.length := by simp at hd; omega
      refine hK ?_
      rw [hF, List.drop_eq_nil_of_le (by omega)]; rfl
theorem b14 (call rgn n) (x : AV) (s : List Ag) (hx : IsSig x s) (h28 : h28 call) (h29 : h29 call) (h : AH) (hn : 33 < n) :
    ∃ h', B tab14 call rgn n 20 Tryz.f20 [x] h = some (.ret (.tup [.int .i64 (sigChk s).1, .int .i64 (sigChk s).2]), h') := by
  have u : Tryz.prog.underlying 22 = some (.slice 41) := by kernel_rfl
  have hlen := fun h => len_L (X := ⟨Tryz.prog, mu0, call⟩) (mu := false) (h := h) u hx
  rw [List.length_map] at hlen
  suffices hq : (fun r : Option (AOut × AH) => ∃ h', r = some (.ret (.tup [.int .i64 (sigChk s).1, .int .i64 (sigChk s).2]), h')) (B tab14 call rgn n 20 Tryz.f20 [x] h) from hq
  generalize hQ : (fun r : Option (AOut × AH) => ∃ h', r = some (.ret (.tup [.int .i64 (sigChk s).1, .int .i64 (sigChk s).2]), h')) = Q
  have hQ' : ∀ a b h', (a, b) = sigChk s → Q (some (.ret (.tup [.int .i64 a, .int .i64 b]), h')) := fun a b h' e => by rw [← hQ, ← e]; exact ⟨h', rfl⟩
  conv => arg 1; whnf
  refine atCall_P (hlen _) ?_
  conv => arg 1; whnf
  split
  · rename_i e1
    conv => arg 1; whnf
    refine atLeave_P (leave_plain (.inl rfl) rfl) (hQ' 20 0 _ ?_)
    unfold sigChk; rw [if_pos (by simpa using e1)]
  rename_i e1
  conv => arg 1; whnf
  refine atCall_P (hlen _) ?_
  conv => arg 1; whnf
  split
  · rename_i e2
    conv => arg 1; whnf
    refine atLeave_P (leave_plain (.inl rfl) rfl) (hQ' 15 32 _ ?_)
    unfold sigChk; rw [if_neg (by simpa using e1), if_pos (by simp at e2; omega)]
  rename_i e2
  have hs : s.length ≤ 32 := by simp at e2; omega
  have hc : sigChk s = sigF s s 0 := by unfold sigChk; rw [if_neg (by simpa using e1), if_neg (by omega)]
  conv => arg 1; whnf
  refine atCall_P (hlen _) ?_
  conv => arg 1; whnf
  refine l14 call rgn n x s hx hs h28 h29 ?_ ?_ n 0 rfl (Nat.zero_le _) (by omega) (by rw [List.drop_zero])
  · intro h
    intros
    exact atLeave_P (leave_plain (.inl rfl) rfl) (hQ' _ _ _ hc.symm)
  · intro h0 h
    intros
    conv => arg 1; whnf
    exact atLeave_P (leave_plain (.inl rfl) rfl) (hQ' _ _ _ (by rw [hc, h0]))
theorem E0 : EvOK (mkEv Tryz.prog mu0 noHooks) := mkEv_ok (by kernel_rfl) (by kernel_rfl)
def s31 : List AV → Option AV | [x, .int .i64 a] => (match sigOf x with | some s => some (.int .i64 (portsN s a)) | none => none) | _ => none
def s36 : List AV → Option AV | [.str s, .int .u8 lo, .int .u8 hi] => some (.bool (beginsT s lo hi)) | _ => none
def s28 : List AV → Option AV | [.str s] => some (.bool (wordT s)) | _ => none
def s29 : List AV → Option AV | [x, .str nm] => (match sigOf x with | some s => if s.length ≤ 3000000000 then some (.int .i64 (ofF s nm 0)) else none | none => none) | _ => none
def s14 : List AV → Option AV | [x] => (match sigOf x with | some s => some (.tup [.int .i64 (sigChk s).1, .int .i64 (sigChk s).2]) | none => none) | _ => none
def hk31 := addHk noHooks 99 s31
def hk36 := addHk hk31 73 s36
def hk28 := addHk hk36 46 s28
def hk29 := addHk hk28 21 s29
def hk14 := addHk hk29 20 s14
theorem ev_ofS {hk : Hooks} (tab : Nat → Option (List Nat)) {n : Nat} {f : FuncId} {fn : Func} {args : List AV} {v : AV} {h' : AH} (hh : hk f args .empty = none) (hf : Tryz.prog.funcs[f]? = some fn) (hc : fn.body = some (codeOf fn))
    (ht : tabFits Tryz.prog (mu0 f) tab (codeOf fn) = true) (hv : B tab (evCall (mkEv Tryz.prog mu0 hk) n) (rg Tryz.prog mu0 hk n f) n f fn args .empty = some (.ret v, h')) : ∃ n h', evCall (mkEv Tryz.prog mu0 hk) n (.func f) args .empty = some (.ret v, h') :=
  ⟨n + 1, h', ev_of_cBodyS tab hh hf hc ht hv⟩
theorem E31 : EvOK (mkEv Tryz.prog mu0 hk31) := mkEv_add E0 fun args v hs => by
  unfold s31 at hs; split at hs
  · split at hs
    · rename_i x a _ s hb
      cases hs
      exact ⟨rfl, ev_ofS shT (n := 1) rfl Tryz.func99 rfl (by kernel_rfl) (b31 _ _ _ x s a _ (decL_inv hb))⟩
    · cases hs
  · cases hs
theorem E36 : EvOK (mkEv Tryz.prog mu0 hk36) := mkEv_add E31 fun args v hs => by
  unfold s36 at hs; split at hs <;> cases hs
  exact ⟨rfl, ev_ofS noTab (n := 17) rfl Tryz.func73 rfl (by kernel_rfl) (b36 _ _ _ _ _ _ _ (by omega))⟩
theorem E28 : EvOK (mkEv Tryz.prog mu0 hk28) := mkEv_add E36 fun args v hs => by
  unfold s28 at hs; split at hs <;> cases hs
  exact ⟨rfl, ev_ofS noTab (n := 1) rfl Tryz.func46 rfl (by kernel_rfl) (b28 _ _ _ _ _ (fun s lo hi h => ev_hk rfl (by omega)))⟩
theorem E29 : EvOK (mkEv Tryz.prog mu0 hk29) := mkEv_add E28 fun args v hs => by
  unfold s29 at hs; split at hs
  · split at hs
    · rename_i x nm _ s hb
      split at hs
      · rename_i hl
        cases hs
        obtain ⟨h', hb'⟩ := b29 (evCall (mkEv Tryz.prog mu0 hk28) (s.length + 1)) (rg Tryz.prog mu0 hk28 (s.length + 1) 21) (s.length + 1) x s (decL_inv hb) hl nm .empty (by omega)
        exact ⟨rfl, ev_ofS shT rfl Tryz.func21 rfl (by kernel_rfl) hb'⟩
      · cases hs
    · cases hs
  · cases hs
theorem hk_top {hk : Hooks} {f : FuncId} {sp : List AV → Option AV} {args : List AV} {h : AH} {v : AV} (hf : freeL args = true) (hs : sp (weakL args) = some v) : addHk hk f sp f args h = some (v, h) := by
  rw [addHk_same hk f sp hf, hs]
theorem h29_of {hk : Hooks} {n : Nat} (hk29' : ∀ args h, hk 21 args h = hk29 21 args h) (hn : 0 < n) : h29 (evCall (mkEv Tryz.prog mu0 hk) n) := fun x s nm h hx hl => ev_hk (by
  rw [hk29']
  refine hk_top (by simp [freeL, freeV, sig_free hx]) ?_
  show (match sigOf (weakV x) with | some s => if s.length ≤ 3000000000 then some (AV.int .i64 (ofF s nm 0)) else none | none => none) = _
  rw [sigOf_of hx]; simp only [if_pos hl]) hn
theorem E14 : EvOK (mkEv Tryz.prog mu0 hk14) := mkEv_add E29 fun args v hs => by
  unfold s14 at hs; split at hs
  · split at hs
    · rename_i x _ s hb
      cases hs
      obtain ⟨h', hb'⟩ := b14 (evCall (mkEv Tryz.prog mu0 hk29) 34) (rg Tryz.prog mu0 hk29 34 20) 34 x s (decL_inv hb) (fun s h => ev_hk rfl (by omega)) (h29_of (fun _ _ => rfl) (by omega)) .empty (by omega)
      exact ⟨rfl, ev_ofS tab14 rfl Tryz.func20 rfl (by kernel_rfl) hb'⟩
    · cases hs
  · cases hs
structure Nt where
  cells : List Int
  free : Int
  wires : List (Int × Int × Int × Int)
def intV (a : Int) : AV := .int .i64 a
def portV (p : Int × Int) : AV := .agg [.int .i64 p.1, .int .i64 p.2]
def wireV (w : Int × Int × Int × Int) : AV := .agg [.int .i64 w.1, .int .i64 w.2.1, .int .i64 w.2.2.1, .int .i64 w.2.2.2]
def cellPorts (s : List Ag) (c : Nat) (a : Int) : List (Int × Int) := (List.range' 0 (portsN s a).toNat).map fun (k : Nat) => ((c : Int), (k : Int))
def cellsPorts (s : List Ag) : List Int → Nat → List (Int × Int)
  | [], _ => []
  | a :: r, c => cellPorts s c a ++ cellsPorts s r (c + 1)
def freePorts (f : Int) : List (Int × Int) := (List.range' 0 f.toNat).map fun (k : Nat) => ((-1 : Int), (k : Int))
def portsL (s : List Ag) (n : Nt) : List (Int × Int) := freePorts n.free ++ cellsPorts s n.cells 0
inductive YRun (call : CallT) (l : Sk.Id) (G : AH → Prop) : Nat → List (Int × Int) → AH → AH → Prop
  | nil (i : Nat) (h : AH) : YRun call l G i [] h h
  | cons {i : Nat} {p : Int × Int} {ps : List (Int × Int)} {h h1 h2 : AH} (hc : call (.yield l) [.int .i64 i, portV p] h = some (.ret (.bool true), h1)) (hg : G h1) (hr : YRun call l G (i + 1) ps h1 h2) : YRun call l G i (p :: ps) h h2
  | stop {i : Nat} {p : Int × Int} {ps : List (Int × Int)} {h h1 : AH} (hc : call (.yield l) [.int .i64 i, portV p] h = some (.ret (.bool false), h1)) : YRun call l G i (p :: ps) h h1
structure PortsG (b2 b3 : Sk.Id) (x c w : AV) (f : Int) (h : AH) : Prop where
  g2 : h.get b2 = some (.cells [x] 22)
  g3 : h.get b3 = some (.cells [c, .int .i64 f, w] 49)
theorem l37a (call rgn n) (l b2 b3 : Sk.Id) (x c w : AV) (f : Int) (hf : f ≤ 1000000) (h' : AH) (rest : List (Int × Int)) {K : KC (AOut × AH)} {y : Option (AOut × AH)}
    (hR : ∀ {g0 g1 g2 g3 g4 g5 g6 g7 g8 g9 aA aB aC aD aE aF aG aH aI aJ aK aL aM aN aO aP aQ aR aS aT aU aV aW aX aY aZ bA bB bC bD bE bF bG bH bI bJ bK bL : AV}, K .ret ⟨[g0,g1,g2,g3,g4,g5,g6,g7,g8,g9,aA,aB,aC,aD,aE,aF,aG,aH,aI,aJ,aK,aL,aM,aN,aO,aP,aQ,aR,aS,aT,aU,aV,aW,aX,aY,aZ,bA,bB,bC,bD,bE,bF,bG,bH,bI,bJ,bK,bL], [], h'⟩ = y)
    (hK : ∀ {h : AH} {g3 g5 g6 g7 g8 g9 aA aB aC aD aE aF aG aH aI aJ aK aL aM aN aO aP aQ aR aS aT aU aV aW aX aY aZ bA bB bC bD bE bF bG bH bI bJ bK bL : AV}, PortsG b2 b3 x c w f h → YRun call l (PortsG b2 b3 x c w f) f.toNat rest h h' → K (.exit 0) ⟨[.fn (.yield l) [] [],.ptr b3 0,.ptr b2 0,g3,.int .i64 (f.toNat : Int),g5,g6,g7,g8,g9,aA,aB,aC,aD,aE,aF,aG,aH,aI,aJ,aK,aL,aM,aN,aO,aP,aQ,aR,aS,aT,aU,aV,aW,aX,aY,aZ,bA,bB,bC,bD,bE,bF,bG,bH,bI,bJ,bK,bL], [], h⟩ = y) :
    ∀ (m i : Nat) {z a : Int} {h : AH} {g3 g5 g6 g7 g8 g9 aC aD aE aF aG aH aI aJ aK aL aM aN aO aP aQ aR aS aT aU aV aW aX aY aZ bA bB bC bD bE bF bG bH bI bJ bK bL : AV}, z = i → a = i → i ≤ f.toNat → f.toNat - i < m → PortsG b2 b3 x c w f h → YRun call l (PortsG b2 b3 x c w f) i ((List.range' i (f.toNat - i)).map (fun (k : Nat) => ((-1 : Int), (k : Int))) ++ rest) h h' →
    cIter (LB shT call rgn n 116 Tryz.f116 0) m ⟨[.fn (.yield l) [] [],.ptr b3 0,.ptr b2 0,g3,.int .i64 a,g5,g6,g7,g8,g9,.int .i64 f,.int .i64 z,aC,aD,aE,aF,aG,aH,aI,aJ,aK,aL,aM,aN,aO,aP,aQ,aR,aS,aT,aU,aV,aW,aX,aY,aZ,bA,bB,bC,bD,bE,bF,bG,bH,bI,bJ,bK,bL], [], h⟩ K = y := by
  intro m
  induction m with
  | zero => intros; omega
  | succ m ih =>
    intro i z a h g3 g5 g6 g7 g8 g9 aC aD aE aF aG aH aI aJ aK aL aM aN aO aP aQ aR aS aT aU aV aW aX aY aZ bA bB bC bD bE bF bG bH bI bJ bK bL hz ha hi hm hG hY
    rw [cIter_succ]
    conv => lhs; whnf
    split
    · rename_i hd
      have hlt : i < f.toNat := by simp at hd; omega
      have hr : List.range' i (f.toNat - i) = i :: List.range' (i + 1) (f.toNat - (i + 1)) := by
        rw [show f.toNat - i = (f.toNat - (i + 1)) + 1 by omega, List.range'_succ]
      rw [hr, List.map_cons, List.cons_append] at hY
      rw [hz, ha]
      conv => lhs; whnf
      cases hY with
      | cons hc hg hr' =>
        refine atCall_ret hc ?_
        conv => lhs; whnf
        exact ih (i + 1) (wrap_succ (by omega)) (wrap_succ (by omega)) (by omega) (by omega) hg hr'
      | stop hc =>
        refine atCall_ret hc ?_
        conv => lhs; whnf
        exact hR
    · rename_i hd
      have hlt : ¬ i < f.toNat := by simp at hd; omega
      have he : i = f.toNat := by omega
      rw [show f.toNat - i = 0 by omega] at hY
      subst ha
      rw [he] at hY ⊢
      exact hK hG hY
theorem l37c (call rgn n) (l b2 b3 : Sk.Id) (x c w : AV) (f : Int) (cc : Nat) (M j0 : Nat) (hj : j0 + M ≤ 1000000000) {v24 v25 v26 : AV} (h' : AH) (rest : List (Int × Int)) {K : KC (AOut × AH)} {y : Option (AOut × AH)}
    (hR : ∀ {g0 g1 g2 g3 g4 g5 g6 g7 g8 g9 aA aB aC aD aE aF aG aH aI aJ aK aL aM aN aO aP aQ aR aS aT aU aV aW aX aY aZ bA bB bC bD bE bF bG bH bI bJ bK bL : AV}, K .ret ⟨[g0,g1,g2,g3,g4,g5,g6,g7,g8,g9,aA,aB,aC,aD,aE,aF,aG,aH,aI,aJ,aK,aL,aM,aN,aO,aP,aQ,aR,aS,aT,aU,aV,aW,aX,aY,aZ,bA,bB,bC,bD,bE,bF,bG,bH,bI,bJ,bK,bL], [], h'⟩ = y)
    (hK : ∀ {h : AH} {z : Int} {g3 g5 g7 g8 g9 aA aB aC aD aE aF aG aH aI aJ aK aL aM aN aR aS aT aU aV aW aX aY aZ bA bB bC bD bE bF bG bH bI bJ bK bL : AV}, z = ((j0 + M : Nat) : Int) → PortsG b2 b3 x c w f h → YRun call l (PortsG b2 b3 x c w f) (j0 + M) rest h h' → K (.exit 4) ⟨[.fn (.yield l) [] [],.ptr b3 0,.ptr b2 0,g3,.int .i64 z,g5,.int .i64 cc,g7,g8,g9,aA,aB,aC,aD,aE,aF,aG,aH,aI,aJ,aK,aL,aM,aN,v24,v25,v26,aR,aS,aT,aU,aV,aW,aX,aY,aZ,bA,bB,bC,bD,bE,bF,bG,bH,bI,bJ,bK,bL], [], h⟩ = y) :
    ∀ (m i : Nat) {z a : Int} {h : AH} {g3 g5 g7 g8 g9 aA aB aC aD aE aF aG aH aI aJ aK aL aM aN aR aS aT aU aV aW aZ bA bB bC bD bE bF bG bH bI bJ bK bL : AV}, z = i → a = ((j0 + i : Nat) : Int) → i ≤ M → M - i < m → PortsG b2 b3 x c w f h → YRun call l (PortsG b2 b3 x c w f) (j0 + i) ((List.range' i (M - i)).map (fun (k : Nat) => ((cc : Int), (k : Int))) ++ rest) h h' →
    cIter (LB shT call rgn n 116 Tryz.f116 2) m ⟨[.fn (.yield l) [] [],.ptr b3 0,.ptr b2 0,g3,.int .i64 a,g5,.int .i64 cc,g7,g8,g9,aA,aB,aC,aD,aE,aF,aG,aH,aI,aJ,aK,aL,aM,aN,v24,v25,v26,aR,aS,aT,aU,aV,aW,.int .i64 (M : Int),.int .i64 z,aZ,bA,bB,bC,bD,bE,bF,bG,bH,bI,bJ,bK,bL], [], h⟩ K = y := by
  intro m
  induction m with
  | zero => intros; omega
  | succ m ih =>
    intro i z a h g3 g5 g7 g8 g9 aA aB aC aD aE aF aG aH aI aJ aK aL aM aN aR aS aT aU aV aW aZ bA bB bC bD bE bF bG bH bI bJ bK bL hz ha hi hm hG hY
    rw [cIter_succ]
    conv => lhs; whnf
    split
    · rename_i hd
      have hlt : i < M := by simp at hd; omega
      have hr : List.range' i (M - i) = i :: List.range' (i + 1) (M - (i + 1)) := by
        rw [show M - i = (M - (i + 1)) + 1 by omega, List.range'_succ]
      rw [hr, List.map_cons, List.cons_append] at hY
      rw [hz, ha]
      conv => lhs; whnf
      cases hY with
      | cons hc hg hr' =>
        refine atCall_ret hc ?_
        conv => lhs; whnf
        exact ih (i + 1) (wrap_succ (by omega)) (wrap_succ (by omega)) (by omega) (by omega) hg hr'
      | stop hc =>
        refine atCall_ret hc ?_
        conv => lhs; whnf
        exact hR
    · rename_i hd
      have hlt : ¬ i < M := by simp at hd; omega
      have he : i = M := by omega
      rw [show M - i = 0 by omega] at hY
      subst he
      exact hK ha hG hY
def h31 (call : CallT) : Prop := ∀ x s a h, IsSig x s → call (.func 99) [x, .int .i64 a] h = some (.ret (.int .i64 (portsN s a)), h)
theorem l37b (call rgn n) (l b2 b3 : Sk.Id) (x c w : AV) (f : Int) (s : List Ag) (cells : List Int) (hx : IsSig x s) (hc : IsL c (cells.map intV)) (hP : ∀ a, 0 ≤ portsN s a ∧ portsN s a ≤ 7) (hn : 7 < n) (hlen : cells.length ≤ 10000000) (h31 : h31 call) (h' : AH) {K : KC (AOut × AH)} {y : Option (AOut × AH)}
    (hR : ∀ {g0 g1 g2 g3 g4 g5 g6 g7 g8 g9 aA aB aC aD aE aF aG aH aI aJ aK aL aM aN aO aP aQ aR aS aT aU aV aW aX aY aZ bA bB bC bD bE bF bG bH bI bJ bK bL : AV}, K .ret ⟨[g0,g1,g2,g3,g4,g5,g6,g7,g8,g9,aA,aB,aC,aD,aE,aF,aG,aH,aI,aJ,aK,aL,aM,aN,aO,aP,aQ,aR,aS,aT,aU,aV,aW,aX,aY,aZ,bA,bB,bC,bD,bE,bF,bG,bH,bI,bJ,bK,bL], [], h'⟩ = y)
    (hK : ∀ {g0 g1 g2 g3 g4 g5 g6 g7 g8 g9 aA aB aC aD aE aF aG aH aI aJ aK aL aM aN aO aP aQ aR aS aT aU aV aW aX aY aZ bA bB bC bD bE bF bG bH bI bJ bK bL : AV}, K (.exit 2) ⟨[g0,g1,g2,g3,g4,g5,g6,g7,g8,g9,aA,aB,aC,aD,aE,aF,aG,aH,aI,aJ,aK,aL,aM,aN,aO,aP,aQ,aR,aS,aT,aU,aV,aW,aX,aY,aZ,bA,bB,bC,bD,bE,bF,bG,bH,bI,bJ,bK,bL], [], h'⟩ = y) :
    ∀ (m i j : Nat) {z a : Int} {h : AH} {g3 g5 g6 g7 g8 g9 aA aB aC aD aE aF aG aH aI aJ aK aL aM aN aR aS aT aU aV aW aX aY aZ bA bB bC bD bE bF bG bH bI bJ bK bL : AV}, z = i → a = j → i ≤ cells.length → cells.length - i < m → j ≤ 1000000 + 7 * i → PortsG b2 b3 x c w f h → YRun call l (PortsG b2 b3 x c w f) j (cellsPorts s (cells.drop i) i) h h' →
    cIter (LB shT call rgn n 116 Tryz.f116 1) m ⟨[.fn (.yield l) [] [],.ptr b3 0,.ptr b2 0,g3,.int .i64 a,g5,g6,g7,g8,g9,aA,aB,aC,aD,aE,aF,aG,aH,aI,aJ,aK,aL,aM,aN,c,.int .i64 cells.length,.int .i64 z,aR,aS,aT,aU,aV,aW,aX,aY,aZ,bA,bB,bC,bD,bE,bF,bG,bH,bI,bJ,bK,bL], [], h⟩ K = y := by
  have u : Tryz.prog.underlying 42 = some (.slice 3) := by kernel_rfl
  intro m
  induction m with
  | zero => intros; omega
  | succ m ih =>
    intro i j z a h g3 g5 g6 g7 g8 g9 aA aB aC aD aE aF aG aH aI aJ aK aL aM aN aR aS aT aU aV aW aX aY aZ bA bB bC bD bE bF bG bH bI bJ bK bL hz ha hi hm hj hG hY
    rw [cIter_succ]
    conv => lhs; whnf
    split
    · rename_i hd
      have hlt : i < cells.length := by simp at hd; omega
      have hdrop : cells.drop i = cells[i] :: cells.drop (i + 1) := List.drop_eq_getElem_cons hlt
      have hg : (cells.map intV)[i]? = some (intV cells[i]) := by rw [List.getElem?_map, List.getElem?_eq_getElem hlt]; rfl
      have hidx := fun h => idx_L (P := Tryz.prog) (t := 42) (e := 3) (n := 1) (h := h) (k := .i64) u (by kernel_rfl) hc hz hg rfl
      rw [hdrop] at hY
      generalize cells[i] = g at hidx hY
      simp only [cellsPorts, cellPorts] at hY
      have ld2 : vOf h (aLoad Tryz.prog 22 (.ptr b2 0) h) = some (.ret x, h) := ld_ptr (n := 1) hG.g2 (by kernel_rfl) (by kernel_rfl) rfl
      conv => lhs; whnf
      refine atCall_ret (hidx _) ?_
      conv => lhs; whnf
      refine atCall_ret ld2 ?_
      conv => lhs; whnf
      refine atCall_ret (h31 x s g h hx) ?_
      obtain ⟨p0, p7⟩ := hP g
      generalize portsN s g = M at hY p0 p7
      obtain ⟨M, rfl⟩ : ∃ M' : Nat, M = M' := ⟨M.toNat, by omega⟩
      simp only [Int.toNat_natCast] at hY
      conv => lhs; whnf
      rw [hz]
      refine l37c call rgn n l b2 b3 x c w f i M j (by omega) h' (cellsPorts s (cells.drop (i + 1)) (i + 1)) ?_ ?_ n 0 (z := 0) rfl ha (Nat.zero_le _) (by omega) hG hY
      · intros
        exact hR
      intro h1 z1
      intros
      rename_i hz1 hG1 hY1
      conv => lhs; whnf
      exact ih (i + 1) (j + M) (wrap_succ (by omega)) hz1 (by omega) (by omega) (by omega) hG1 hY1
    · rename_i hd
      have hlt : ¬ i < cells.length := by simp at hd; omega
      rw [List.drop_eq_nil_of_le (by omega)] at hY
      cases hY
      exact hK
theorem b37 (call rgn n) (l b2 b3 : Sk.Id) (x c w : AV) (f : Int) (s : List Ag) (cells : List Int) (hx : IsSig x s) (hc : IsL c (cells.map intV)) (hP : ∀ a, 0 ≤ portsN s a ∧ portsN s a ≤ 7) (hn : 7 < n) (hn2 : cells.length < n) (hn3 : f.toNat < n) (hlen : cells.length ≤ 10000000) (hf : f ≤ 1000000) (h31 : h31 call) (h h' : AH)
    (hG : PortsG b2 b3 x c w f h) (hY : YRun call l (PortsG b2 b3 x c w f) 0 (freePorts f ++ cellsPorts s cells 0) h h') :
    B shT call rgn n 116 Tryz.f116 [.fn (.yield l) [] [], .ptr b3 0, .ptr b2 0] h = some (.ret (.tup []), h') := by
  have u : Tryz.prog.underlying 42 = some (.slice 3) := by kernel_rfl
  have hl := fun h => len_L (X := ⟨Tryz.prog, mu0, call⟩) (mu := false) (h := h) u hc
  rw [List.length_map] at hl
  have ldf : vOf h (aLoad Tryz.prog 3 (.ptr b3 1) h) = some (.ret (.int .i64 f), h) := ld_ptr (n := 1) hG.g3 (by kernel_rfl) (by kernel_rfl) rfl
  conv => lhs; whnf
  refine atCall_ret ldf ?_
  conv => lhs; whnf
  have hR : ∀ {g0 g1 g2 g3 g4 g5 g6 g7 g8 g9 aA aB aC aD aE aF aG aH aI aJ aK aL aM aN aO aP aQ aR aS aT aU aV aW aX aY aZ bA bB bC bD bE bF bG bH bI bJ bK bL : AV}, atLeave Tryz.prog Tryz.f116 .ret ⟨[g0,g1,g2,g3,g4,g5,g6,g7,g8,g9,aA,aB,aC,aD,aE,aF,aG,aH,aI,aJ,aK,aL,aM,aN,aO,aP,aQ,aR,aS,aT,aU,aV,aW,aX,aY,aZ,bA,bB,bC,bD,bE,bF,bG,bH,bI,bJ,bK,bL], [], h'⟩ = some (.ret (.tup []), h') := by
    intros
    exact leave_eq (.inl rfl) rfl rfl
  refine l37a call rgn n l b2 b3 x c w f hf h' (cellsPorts s cells 0) ?_ ?_ n 0 (z := 0) (a := 0) rfl rfl (Nat.zero_le _) (by omega) hG hY
  · intros
    exact hR
  intro h1
  intros
  rename_i hG1 hY1
  have ldc : vOf h1 (aLoad Tryz.prog 42 (.ptr b3 0) h1) = some (.ret c, h1) := ld_ptr (n := 1) hG1.g3 (by kernel_rfl) (by kernel_rfl) rfl
  conv => lhs; whnf
  refine atCall_ret ldc ?_
  conv => lhs; whnf
  refine atCall_ret (hl _) ?_
  conv => lhs; whnf
  refine l37b call rgn n l b2 b3 x c w f s cells hx hc hP hn hlen h31 h' ?_ ?_ n 0 f.toNat (z := 0) rfl rfl (Nat.zero_le _) (by omega) (by omega) hG1 hY1
  · intros
    exact hR
  intros
  conv => lhs; whnf
  exact leave_eq (.inr rfl) rfl rfl
def isPort (s : List Ag) (cells : List Int) (f : Int) (p : Int × Int) : Bool :=
  if p.1 == -1 then decide (p.2 ≥ 0) && decide (p.2 < f)
  else decide (p.1 ≥ 0) && decide (p.1 < cells.length) && decide (p.2 ≥ 0) && (match cells[p.1.toNat]? with | some a => decide (p.2 < portsN s a) | none => false)
def tab30 : Nat → Option (List Nat) := fun id => match Nat.beq id 999999 with | true => some [] | false => match Nat.beq id 3 with | true => some [0, 1, 2, 3, 4, 5, 6, 7, 8, 9, 10, 11, 12, 13, 14, 15, 16, 17, 18, 19, 20, 21, 22, 23, 24, 25, 26, 27, 28, 29] | false => none
theorem kept_alloc {h : AH} {q : Sk.Id} {o o' : AO} (hq : h.get q = some o) (hlt : q.nat < h.next.nat) : (h.alloc o').get q = some o := by
  rw [AH.get_alloc, if_neg (by rintro rfl; omega)]; exact hq
theorem b30 (call rgn n) (i2 i3 : Sk.Id) (x c w : AV) (s : List Ag) (cells : List Int) (f : Int) (p : Int × Int) (h : AH) (hx : IsSig x s) (hc : IsL c (cells.map intV))
    (g2 : h.get i2 = some (.cells [x] 22)) (g3 : h.get i3 = some (.cells [c, .int .i64 f, w] 49)) (l2 : i2.nat < h.next.nat) (l3 : i3.nat < h.next.nat) (h31 : h31 call) :
    B tab30 call rgn n 98 Tryz.f98 [portV p, .ptr i3 0, .ptr i2 0] h = some (.ret (.bool (isPort s cells f p)), h.alloc (.cells [.int .i64 p.1, .int .i64 p.2] 44)) := by
  obtain ⟨p1, p2⟩ := p
  have u : Tryz.prog.underlying 42 = some (.slice 3) := by kernel_rfl
  have hl := fun h => len_L (X := ⟨Tryz.prog, mu0, call⟩) (mu := false) (h := h) u hc
  rw [List.length_map] at hl
  conv => lhs; whnf
  refine atCall_ret (box_new (cs := [.int .i64 p1, .int .i64 p2]) rfl rfl) ?_
  conv => lhs; whnf
  have gp : (h.alloc (.cells [.int .i64 p1, .int .i64 p2] 44)).get h.next = some (.cells [.int .i64 p1, .int .i64 p2] 44) := by rw [AH.get_alloc, if_pos rfl]
  have k2 := kept_alloc (o' := .cells [.int .i64 p1, .int .i64 p2] 44) g2 l2
  have k3 := kept_alloc (o' := .cells [.int .i64 p1, .int .i64 p2] 44) g3 l3
  generalize (h.alloc (.cells [.int .i64 p1, .int .i64 p2] 44)) = h1 at gp k2 k3 ⊢
  generalize h.next = q at gp ⊢
  have lp0 : vOf h1 (aLoad Tryz.prog 3 (.ptr q 0) h1) = some (.ret (.int .i64 p1), h1) := ld_ptr (n := 1) gp (by kernel_rfl) (by kernel_rfl) rfl
  have lp1 : vOf h1 (aLoad Tryz.prog 3 (.ptr q 1) h1) = some (.ret (.int .i64 p2), h1) := ld_ptr (n := 1) gp (by kernel_rfl) (by kernel_rfl) rfl
  have lf : vOf h1 (aLoad Tryz.prog 3 (.ptr i3 1) h1) = some (.ret (.int .i64 f), h1) := ld_ptr (n := 1) k3 (by kernel_rfl) (by kernel_rfl) rfl
  have lc : vOf h1 (aLoad Tryz.prog 42 (.ptr i3 0) h1) = some (.ret c, h1) := ld_ptr (n := 1) k3 (by kernel_rfl) (by kernel_rfl) rfl
  have lx : vOf h1 (aLoad Tryz.prog 22 (.ptr i2 0) h1) = some (.ret x, h1) := ld_ptr (n := 1) k2 (by kernel_rfl) (by kernel_rfl) rfl
  refine atCall_ret lp0 ?_
  conv => lhs; whnf
  cases e0 : (p1 == -1)
  · conv => lhs; whnf
    refine atCall_ret lp0 ?_
    conv => lhs; whnf
    cases e1 : decide (p1 ≥ 0)
    · conv => lhs; whnf
      refine leave_eq (.inl rfl) rfl ?_
      simp only [isPort, e0, e1, Bool.false_and, Bool.false_eq_true, if_false]; rfl
    conv => lhs; whnf
    refine atCall_ret lp0 ?_
    conv => lhs; whnf
    refine atCall_ret lc ?_
    conv => lhs; whnf
    refine atCall_ret (hl _) ?_
    conv => lhs; whnf
    cases e2 : decide (p1 < (cells.length : Int))
    · conv => lhs; whnf
      refine leave_eq (.inl rfl) rfl ?_
      simp only [isPort, e0, e1, e2, Bool.false_and, Bool.and_false, Bool.false_eq_true, if_false]; rfl
    conv => lhs; whnf
    refine atCall_ret lp1 ?_
    conv => lhs; whnf
    cases e3 : decide (p2 ≥ 0)
    · conv => lhs; whnf
      refine leave_eq (.inl rfl) rfl ?_
      simp only [isPort, e0, e1, e2, e3, Bool.false_and, Bool.and_false, Bool.false_eq_true, if_false]; rfl
    have hlt : p1.toNat < cells.length := by simp at e1 e2; omega
    have hpn : p1 = p1.toNat := by simp at e1; omega
    have hg : (cells.map intV)[p1.toNat]? = some (intV cells[p1.toNat]) := by rw [List.getElem?_map, List.getElem?_eq_getElem hlt]; rfl
    have hidx := fun h => idx_L (P := Tryz.prog) (t := 42) (e := 3) (n := 1) (h := h) (k := .i64) u (by kernel_rfl) hc hpn hg rfl
    conv => lhs; whnf
    refine atCall_ret lp1 ?_
    conv => lhs; whnf
    refine atCall_ret lx ?_
    conv => lhs; whnf
    refine atCall_ret lc ?_
    conv => lhs; whnf
    refine atCall_ret lp0 ?_
    conv => lhs; whnf
    refine atCall_ret (hidx _) ?_
    conv => lhs; whnf
    refine atQuiet_ret (h31 x s _ _ hx) ?_
    conv => lhs; whnf
    refine leave_eq (.inl rfl) rfl ?_
    simp only [isPort, e0, e1, e2, e3, Bool.true_and, Bool.false_eq_true, if_false, List.getElem?_eq_getElem hlt]; rfl
  · conv => lhs; whnf
    refine atCall_ret lp1 ?_
    conv => lhs; whnf
    cases e1 : decide (p2 ≥ 0)
    · conv => lhs; whnf
      refine leave_eq (.inl rfl) rfl ?_
      simp only [isPort, e0, e1, Bool.false_and, if_true]; rfl
    conv => lhs; whnf
    refine atCall_ret lp1 ?_
    conv => lhs; whnf
    refine atCall_ret lf ?_
    conv => lhs; whnf
    refine leave_eq (.inl rfl) rfl ?_
    simp only [isPort, e0, e1, Bool.true_and, if_true]; rfl
theorem eqIn_int {d : Nat} {t : TypeId} {k : IntKind} (ht : Tryz.prog.underlying t = some (.int k)) (a b : Int) : aEqIn Tryz.prog (d + 1) t (.int .i64 a) (.int .i64 b) = some (a == b) := by
  simp [aEqIn, ht]
theorem eq_port (p q : Int × Int) : aEq Tryz.prog 44 (portV p) (portV q) = some (p.1 == q.1 && p.2 == q.2) := by
  obtain ⟨a, b⟩ := p
  obtain ⟨c, d⟩ := q
  have e : aEq Tryz.prog 44 (portV (a, b)) (portV (c, d)) = (match aEqIn Tryz.prog 9999 3 (.int .i64 a) (.int .i64 c) with
    | some true => (match aEqIn Tryz.prog 9999 3 (.int .i64 b) (.int .i64 d) with | some true => some true | some false => some false | none => none)
    | some false => some false
    | none => none) := by kernel_rfl
  rw [e, eqIn_int (d := 9998) (k := .i64) (by kernel_rfl), eqIn_int (d := 9998) (k := .i64) (by kernel_rfl)]
  cases a == c <;> cases b == d <;> rfl
theorem key_port (p : Int × Int) : aKeyOk Tryz.prog 10000 44 (portV p) = true := by
  obtain ⟨a, b⟩ := p
  kernel_rfl
theorem beq_port (p : Int × Int) : plainBeq (portV p) (portV p) = true := by
  obtain ⟨a, b⟩ := p
  simp [plainBeq, portV, plainCellsEq, plainCellEq]
abbrev Ent := (Int × Int) × AV × Nat
def entV (e : Ent) : AV × AV × Nat := (portV e.1, e.2.1, e.2.2)
def findE (p : Int × Int) : List Ent → Nat → Option (Nat × AV × Nat)
  | [], _ => none
  | e :: r, i => if p = e.1 then some (i, e.2.1, e.2.2) else findE p r (i + 1)
theorem find_port (p : Int × Int) : ∀ (L : List Ent) (i : Nat), aFind (fun e => aEq Tryz.prog 44 (portV p) e) (portV p) (L.map entV) i = some (findE p L i)
  | [], i => rfl
  | e :: r, i => by
    simp only [List.map_cons, entV, aFind, eq_port, findE]
    by_cases h : p = e.1
    · have : (p.1 == e.1.1 && p.2 == e.1.2) = true := by rw [h]; simp
      rw [this, if_pos h]
      simp only [h, beq_port, if_true]
    · have : (p.1 == e.1.1 && p.2 == e.1.2) = false := by
        cases hh : (p.1 == e.1.1 && p.2 == e.1.2) with
        | false => rfl
        | true =>
          simp only [Bool.and_eq_true, beq_iff_eq] at hh
          exact absurd (Prod.ext hh.1 hh.2) h
      rw [this, if_neg h]
      exact find_port p r (i + 1)
theorem findKey_port (p : Int × Int) (L : List Ent) : aFindKey Tryz.prog 44 (portV p) (L.map entV) = some (findE p L 0) := by
  simp only [aFindKey, key_port, if_true, find_port]
def valE (p : Int × Int) (L : List Ent) : Option AV := (findE p L 0).map (·.2.1)
theorem findE_shift (p : Int × Int) : ∀ (L : List Ent) (i : Nat), (findE p L i).map (·.2.1) = (findE p L 0).map (·.2.1) ∧ (∀ k v b, findE p L i = some (k, v, b) → i ≤ k ∧ k - i < L.length ∧ findE p L 0 = some (k - i, v, b))
  | [], i => ⟨rfl, fun k v b h => by cases h⟩
  | e :: r, i => by
    simp only [findE]
    by_cases h : p = e.1
    · simp only [if_pos h]
      refine ⟨rfl, fun k v b h => ?_⟩
      simp only [Option.some.injEq, Prod.mk.injEq] at h
      obtain ⟨rfl, rfl, rfl⟩ := h
      exact ⟨Nat.le_refl _, by simp, by simp⟩
    · simp only [if_neg h]
      obtain ⟨h1, h2⟩ := findE_shift p r (i + 1)
      obtain ⟨h3, h4⟩ := findE_shift p r 1
      refine ⟨h1.trans h3.symm, fun k v b hk => ?_⟩
      obtain ⟨q1, q2, q3⟩ := h2 k v b hk
      refine ⟨by omega, by simp; omega, ?_⟩
      have : ∀ (L : List Ent) (i j : Nat) k v b, findE p L i = some (k, v, b) → findE p L (i + j) = some (k + j, v, b) := by
        intro L
        induction L with
        | nil => intro i j k v b h; cases h
        | cons e r ih =>
          intro i j k v b h
          simp only [findE] at h ⊢
          split
          · rename_i he
            rw [if_pos he] at h
            simp only [Option.some.injEq, Prod.mk.injEq] at h
            obtain ⟨rfl, rfl, rfl⟩ := h; rfl
          · rename_i he
            rw [if_neg he] at h
            have := ih (i + 1) j k v b h
            rw [show i + j + 1 = i + 1 + j by omega]; exact this
      have := this r 0 1 _ _ _ q3
      rw [this]; simp; omega
theorem valE_set {p q : Int × Int} {v : AV} : ∀ {L : List Ent} {k : Nat} {u : AV} {b : Nat}, findE p L 0 = some (k, u, b) → valE q (setNth L k fun e => (p, v, e.2.2)) = if q = p then some v else valE q L
  | [], k, u, b, h => by cases h
  | e :: r, k, u, b, h => by
    simp only [findE] at h
    split at h
    · rename_i he
      simp only [Option.some.injEq, Prod.mk.injEq] at h
      obtain ⟨rfl, rfl, rfl⟩ := h
      show valE q ((p, v, e.2.2) :: r) = _
      simp only [valE, findE]
      by_cases hq : q = p
      · simp only [if_pos hq]; rfl
      · rw [if_neg hq, if_neg hq, if_neg (by rw [← he]; exact hq)]
    · rename_i he
      obtain ⟨h1, h2, h3⟩ := (findE_shift p r 1).2 k u b h
      obtain ⟨k, rfl⟩ : ∃ k', k = k' + 1 := ⟨k - 1, by omega⟩
      have ih := valE_set (q := q) (v := v) h3
      show valE q (e :: setNth r k fun e => (p, v, e.2.2)) = _
      simp only [Nat.add_sub_cancel] at ih
      simp only [valE, findE] at ih ⊢
      by_cases hq : q = e.1
      · have hne : q ≠ p := fun h => he (h ▸ hq)
        simp only [if_pos hq, if_neg hne]
      · simp only [if_neg hq]
        rw [(findE_shift q _ 1).1, (findE_shift q _ 1).1]; exact ih
theorem valE_add {p q : Int × Int} {v : AV} {c : Nat} : ∀ {L : List Ent} {i : Nat}, findE p L i = none → valE q (L ++ [(p, v, c)]) = if q = p then some v else valE q L
  | [], i, h => by
    simp only [List.nil_append, valE, findE]
    by_cases hq : q = p
    · simp [hq]
    · simp [hq]
  | e :: r, i, h => by
    simp only [findE] at h
    split at h
    · cases h
    · rename_i he
      have ih := valE_add (q := q) (v := v) (c := c) h
      simp only [List.cons_append, valE, findE] at ih ⊢
      by_cases hq : q = e.1
      · have hne : q ≠ p := fun h => he (h ▸ hq)
        simp only [if_pos hq, if_neg hne]
      · simp only [if_neg hq]
        rw [(findE_shift q _ 1).1, (findE_shift q _ 1).1]; exact ih
def MapAt (h : AH) (r : Sk.Id) (M : Int × Int → Option AV) : Prop := ∃ (L : List Ent) (clock : Nat), h.get r = some (.map (L.map entV) clock) ∧ ∀ p, valE p L = M p
theorem setNth_map (f : Ent → Ent) (g : AV × AV × Nat → AV × AV × Nat) (hfg : ∀ e, entV (f e) = g (entV e)) : ∀ (L : List Ent) (k : Nat), setNth (L.map entV) k g = (setNth L k f).map entV
  | [], k => rfl
  | e :: r, 0 => by simp only [List.map_cons, setNth, hfg]
  | e :: r, k + 1 => by simp only [List.map_cons, setNth, setNth_map f g hfg r k]
theorem lookup_M {t et : TypeId} {h : AH} {r : Sk.Id} {M : Int × Int → Option AV} {z : AV} (ht : Tryz.prog.underlying t = some (.map 44 et)) (hz : zeroT Tryz.prog et = some z) (hM : MapAt h r M) (p : Int × Int) :
    vOf h (aLookup Tryz.prog t (.map r) (portV p) false h) = some (.ret ((M p).getD z), h) := by
  obtain ⟨L, clock, hg, hv⟩ := hM
  have := hv p
  unfold valE at this
  simp only [aLookup, ht, aEntries, hg, findKey_port]
  cases hf : findE p L 0 with
  | none => rw [hf] at this; rw [← this]; simp [hz, vOf]
  | some e => obtain ⟨k, v, b⟩ := e; rw [hf] at this; rw [← this]; simp [vOf]
theorem update_M {t et : TypeId} {h : AH} {r : Sk.Id} {M : Int × Int → Option AV} (ht : Tryz.prog.underlying t = some (.map 44 et)) (hM : MapAt h r M) (p : Int × Int) (v : AV) :
    ∃ o, hOf (aMapUpdate Tryz.prog t (.map r) (portV p) v h) = some (.ret undefA, h.set r o) ∧ MapAt (h.set r o) r (fun q => if q = p then some v else M q) := by
  obtain ⟨L, clock, hg, hv⟩ := hM
  simp only [aMapUpdate, ht, hg, findKey_port]
  cases hf : findE p L 0 with
  | none =>
    refine ⟨.map ((L ++ [(p, v, clock)]).map entV) (clock + 1), ?_, L ++ [(p, v, clock)], clock + 1, by rw [AH.get_set, if_pos rfl], fun q => ?_⟩
    · simp [hOf, entV]
    · rw [valE_add hf]; simp only [hv]
  | some e =>
    obtain ⟨k, u, b⟩ := e
    refine ⟨.map ((setNth L k fun e => (p, v, e.2.2)).map entV) clock, ?_, setNth L k fun e => (p, v, e.2.2), clock, by rw [AH.get_set, if_pos rfl], fun q => ?_⟩
    · simp only [hOf]
      rw [setNth_map (fun e => (p, v, e.2.2)) (fun e => (portV p, v, e.2.2)) (fun e => rfl)]
    · rw [valE_set hf]; simp only [hv]
abbrev Wr := Int × Int × Int × Int
def wA (w : Wr) : Int × Int := (w.1, w.2.1)
def wB (w : Wr) : Int × Int := (w.2.2.1, w.2.2.2)
abbrev Mp := Int × Int → Option AV
def updM (M : Mp) (p : Int × Int) (v : AV) : Mp := fun q => if q = p then some v else M q
def linkM : List Wr → Mp → Mp
  | [], M => M
  | w :: r, M => linkM r (updM (updM M (wA w) (portV (wB w))) (wB w) (portV (wA w)))
def tab27 : Nat → Option (List Nat) := fun id => match Nat.beq id 999999 with | true => some [] | false => match Nat.beq id 5 with | true => some [0, 1, 2, 3, 4, 5, 6, 7, 8, 9, 10, 11] | false => match Nat.beq id 500005 with | true => some [] | false => none
theorem fits27 : tabFits Tryz.prog (mu0 80) tab27 (codeOf Tryz.f80) = true := by kernel_rfl
def Kept (n0 : Nat) (g : AH) (h : AH) : Prop := (∀ q o, g.get q = some o → q.nat < n0 → h.get q = some o) ∧ n0 ≤ h.next.nat
theorem Kept.alloc {n0 : Nat} {g h : AH} (hk : Kept n0 g h) (o : AO) : Kept n0 g (h.alloc o) :=
  ⟨fun q o' hq hlt => kept_alloc (hk.1 q o' hq hlt) (Nat.lt_of_lt_of_le hlt hk.2), by rw [AH.next_alloc, Id.nat_succ]; have := hk.2; omega⟩
theorem Kept.set {n0 : Nat} {g h : AH} (hk : Kept n0 g h) {r : Sk.Id} (o : AO) (hr : n0 ≤ r.nat) : Kept n0 g (h.set r o) :=
  ⟨fun q o' hq hlt => by rw [AH.get_set, if_neg (by rintro rfl; omega)]; exact hk.1 q o' hq hlt, by rw [AH.next_set]; exact hk.2⟩
theorem Kept.refl (h : AH) : Kept h.next.nat h h := ⟨fun q o hq _ => hq, Nat.le_refl _⟩
theorem MapAt.keep {h h' : AH} {r : Sk.Id} {M : Mp} (hM : MapAt h r M) (hk : ∀ o, h.get r = some o → h'.get r = some o) : MapAt h' r M := by
  obtain ⟨L, c, h1, h2⟩ := hM
  exact ⟨L, c, hk _ h1, h2⟩
theorem l27 (call rgn n) (w : AV) (wires : List Wr) (hw : IsL w (wires.map wireV)) (hlen : wires.length ≤ 1000000000) (r : Sk.Id) (n0 : Nat) (g : AH) (hr0 : n0 ≤ r.nat) (T : Mp) {K : KC (AOut × AH)} {Q : Option (AOut × AH) → Prop}
    (hK : ∀ {h : AH} {g0 g1 g2 g4 g5 g6 g7 g8 g9 aA aB aC aD aE aF aG aH aI aJ aK aL aM aN aO aP : AV}, MapAt h r T → r.nat < h.next.nat → Kept n0 g h → Q (K (.exit 0) ⟨[g0,g1,g2,.map r,g4,g5,g6,g7,g8,g9,aA,aB,aC,aD,aE,aF,aG,aH,aI,aJ,aK,aL,aM,aN,aO,aP], [], h⟩)) :
    ∀ (m i : Nat) {z : Int} {M : Mp} {h : AH} {g0 g1 g2 g4 g5 g6 g7 aB aC aD aE aF aG aH aI aJ aK aL aM aN aO aP : AV}, z = i → i ≤ wires.length → wires.length - i < m → MapAt h r M → r.nat < h.next.nat → Kept n0 g h → T = linkM (wires.drop i) M →
    Q (cIter (LB tab27 call rgn n 80 Tryz.f80 0) m ⟨[g0,g1,g2,.map r,g4,g5,g6,g7,w,.int .i64 wires.length,.int .i64 z,aB,aC,aD,aE,aF,aG,aH,aI,aJ,aK,aL,aM,aN,aO,aP], [], h⟩ K) := by
  have u : Tryz.prog.underlying 47 = some (.slice 46) := by kernel_rfl
  have um : Tryz.prog.underlying 141 = some (.map 44 44) := by kernel_rfl
  intro m
  induction m with
  | zero => intros; omega
  | succ m ih =>
    intro i z M h g0 g1 g2 g4 g5 g6 g7 aB aC aD aE aF aG aH aI aJ aK aL aM aN aO aP hz hi hm hM hrn hk hT
    rw [cIter_succ]
    conv => arg 1; whnf
    split
    · rename_i hd
      have hlt : i < wires.length := by simp at hd; omega
      have hdrop : wires.drop i = wires[i] :: wires.drop (i + 1) := List.drop_eq_getElem_cons hlt
      have hg : (wires.map wireV)[i]? = some (wireV wires[i]) := by rw [List.getElem?_map, List.getElem?_eq_getElem hlt]; rfl
      have hidx := fun h => idx_L (P := Tryz.prog) (t := 47) (e := 46) (n := 4) (h := h) (k := .i64) u (by kernel_rfl) hw hz hg rfl
      rw [hdrop] at hT
      simp only [linkM] at hT
      generalize wires[i] = ww at hidx hT
      obtain ⟨a, b, c, d⟩ := ww
      simp only [wA, wB] at hT
      conv => arg 1; whnf
      refine atCall_P (hidx _) ?_
      conv => arg 1; whnf
      refine atCall_P (alloc_new (z := .agg [.int .i64 0, .int .i64 0, .int .i64 0, .int .i64 0]) (cs := [.int .i64 0, .int .i64 0, .int .i64 0, .int .i64 0]) (by kernel_rfl) rfl rfl) ?_
      conv => arg 1; whnf
      have hst := st_new (h := h) (cs0 := [.int .i64 0, .int .i64 0, .int .i64 0, .int .i64 0]) (v := .agg [.int .i64 a, .int .i64 b, .int .i64 c, .int .i64 d]) (cs := [.int .i64 a, .int .i64 b, .int .i64 c, .int .i64 d]) (T := 46) (n := 4) (P := Tryz.prog) (by kernel_rfl) rfl rfl rfl rfl
      refine atCall_P hst ?_
      obtain ⟨hget, hnx, hkeep⟩ := new_obj h [.int .i64 0, .int .i64 0, .int .i64 0, .int .i64 0] [.int .i64 a, .int .i64 b, .int .i64 c, .int .i64 d] 46
      have hM2 := hM.keep (fun o ho => hkeep r o ho hrn)
      have hk2 : Kept n0 g ((h.alloc (.cells [.int .i64 0, .int .i64 0, .int .i64 0, .int .i64 0] 46)).set h.next (.cells [.int .i64 a, .int .i64 b, .int .i64 c, .int .i64 d] 46)) := (hk.alloc _).set _ hk.2
      have hpr : h.next ≠ r := by rintro rfl; omega
      generalize ((h.alloc (.cells [.int .i64 0, .int .i64 0, .int .i64 0, .int .i64 0] 46)).set h.next (.cells [.int .i64 a, .int .i64 b, .int .i64 c, .int .i64 d] 46)) = h2 at hget hnx hkeep hM2 hk2 ⊢
      have hrn2 : r.nat < h2.next.nat := by omega
      generalize h.next = p at hget hpr ⊢
      have lA : vOf h2 (aLoad Tryz.prog 44 (.ptr p 0) h2) = some (.ret (portV (a, b)), h2) := ld_agg (n := 2) hget (by kernel_rfl) (by kernel_rfl) (by simp)
      have lB : vOf h2 (aLoad Tryz.prog 44 (.ptr p 2) h2) = some (.ret (portV (c, d)), h2) := ld_agg (n := 2) hget (by kernel_rfl) (by kernel_rfl) (by simp)
      obtain ⟨o1, hu1, hM3⟩ := update_M um hM2 (a, b) (portV (c, d))
      obtain ⟨o2, hu2, hM4⟩ := update_M um hM3 (c, d) (portV (a, b))
      repeat' (first
        | refine atCall_P lA ?_
        | refine atCall_P lB ?_
        | refine atCall_P hu1 ?_
        | refine atCall_P hu2 ?_
        | (conv => arg 1; whnf; done))
      conv => arg 1; whnf
      refine ih (i + 1) (by rw [hz]; exact wrap_succ (by omega)) (by omega) (by omega) hM4 (by rw [AH.next_set, AH.next_set]; exact hrn2) ((hk2.set _ hr0).set _ hr0) hT
    · rename_i hd
      have hlt : ¬ i < wires.length := by simp at hd; omega
      refine hK ?_ hrn hk
      rw [hT, List.drop_eq_nil_of_le (by omega)]; exact hM
theorem b27 (call rgn n) (c w : AV) (f : Int) (wires : List Wr) (hw : IsL w (wires.map wireV)) (hlen : wires.length ≤ 1000000000) (hn : wires.length < n) (h : AH) (hsc : c.scalar = true) :
    ∃ r h', B tab27 call rgn n 80 Tryz.f80 [.agg [c, .int .i64 f, w]] h = some (.ret (.map r), h') ∧ MapAt h' r (linkM wires fun _ => none) ∧ h.next.nat ≤ r.nat ∧ r.nat < h'.next.nat ∧ Kept h.next.nat h h' := by
  have u : Tryz.prog.underlying 47 = some (.slice 46) := by kernel_rfl
  have hl := fun h => len_L (X := ⟨Tryz.prog, mu0, call⟩) (mu := false) (h := h) u hw
  rw [List.length_map] at hl
  have hws : w.scalar = true := by rcases hw with ⟨rfl, _⟩ | ⟨c, rfl⟩ <;> rfl
  suffices hq : (fun y : Option (AOut × AH) => ∃ r h', y = some (.ret (.map r), h') ∧ MapAt h' r (linkM wires fun _ => none) ∧ h.next.nat ≤ r.nat ∧ r.nat < h'.next.nat ∧ Kept h.next.nat h h') (B tab27 call rgn n 80 Tryz.f80 [.agg [c, .int .i64 f, w]] h) from hq
  generalize hQ : (fun y : Option (AOut × AH) => ∃ r h', y = some (.ret (.map r), h') ∧ MapAt h' r (linkM wires fun _ => none) ∧ h.next.nat ≤ r.nat ∧ r.nat < h'.next.nat ∧ Kept h.next.nat h h') = Q
  have hQ' : ∀ r h', MapAt h' r (linkM wires fun _ => none) → h.next.nat ≤ r.nat → r.nat < h'.next.nat → Kept h.next.nat h h' → Q (some (.ret (.map r), h')) := fun r h' h1 h2 h3 h4 => by rw [← hQ]; exact ⟨r, h', rfl, h1, h2, h3, h4⟩
  conv => arg 1; whnf
  refine atCall_P (box_new (cs := [c, .int .i64 f, w]) rfl (by simp only [List.all_cons, hsc, hws, List.all_nil]; rfl)) ?_
  conv => arg 1; whnf
  have g1 : (h.alloc (.cells [c, .int .i64 f, w] 49)).get h.next = some (.cells [c, .int .i64 f, w] 49) := by rw [AH.get_alloc, if_pos rfl]
  have n1 : (h.alloc (.cells [c, .int .i64 f, w] 49)).next.nat = h.next.nat + 1 := by rw [AH.next_alloc, Id.nat_succ]
  have k1 := (Kept.refl h).alloc (.cells [c, .int .i64 f, w] 49)
  generalize (h.alloc (.cells [c, .int .i64 f, w] 49)) = h1 at g1 n1 k1 ⊢
  generalize h.next = q at g1 n1 k1 hQ' ⊢
  have g2 : (h1.alloc (.map [] 0)).get h1.next = some (.map [] 0) := by rw [AH.get_alloc, if_pos rfl]
  have g3 := kept_alloc (o' := .map [] 0) g1 (by omega)
  have n2 : (h1.alloc (.map [] 0)).next.nat = h1.next.nat + 1 := by rw [AH.next_alloc, Id.nat_succ]
  have k2 := k1.alloc (.map [] 0)
  generalize (h1.alloc (.map [] 0)) = h2 at g2 g3 n2 k2 ⊢
  generalize h1.next = r at g2 n2 n1 ⊢
  have lw : vOf h2 (aLoad Tryz.prog 47 (.ptr q 2) h2) = some (.ret w, h2) := ld_ptr (n := 1) g3 (by kernel_rfl) (by kernel_rfl) rfl
  refine atCall_P lw ?_
  conv => arg 1; whnf
  refine atCall_P (hl _) ?_
  conv => arg 1; whnf
  refine l27 call rgn n w wires hw hlen r q.nat h (by omega) (linkM wires fun _ => none) ?_ n 0 (z := 0) rfl (Nat.zero_le _) (by omega) (M := fun _ => none) ⟨[], 0, g2, fun p => rfl⟩ (by omega) k2 (by rw [List.drop_zero])
  intro h3
  intros
  rename_i q1 q2 q3
  conv => arg 1; whnf
  exact atLeave_P (leave_plain (.inl rfl) rfl) (hQ' r _ q1 (by omega) q2 q3)
def badCell (len : Nat) : List Int → Nat → Option Nat
  | [], _ => none
  | a :: r, i => if a < 0 ∨ a ≥ len then some i else badCell len r (i + 1)
abbrev Sn := Int × Int → Bool
def addS (S : Sn) (p : Int × Int) : Sn := fun q => if q = p then true else S q
def wiresF (s : List Ag) (cells : List Int) (f : Int) : List Wr → Nat → Sn → (Int × Int) ⊕ Sn
  | [], _, S => .inr S
  | w :: r, i, S =>
    cond (!isPort s cells f (wA w) || !isPort s cells f (wB w)) (.inl (30, i))
      (cond (S (wA w) || S (wB w) || (wA w == wB w)) (.inl (31, i)) (wiresF s cells f r (i + 1) (addS (addS S (wA w)) (wB w))))
def openF (S : Sn) : List (Int × Int) → Nat → Int × Int
  | [], _ => (0, 0)
  | p :: r, i => if S p = false then (32, i) else openF S r (i + 1)
def netChk (s : List Ag) (n : Nt) : Int × Int :=
  if (sigChk s).1 ≠ 0 then sigChk s
  else if n.cells.length > 4096 ∨ n.free > 64 then (15, 0)
  else if n.free < 0 then (1, 0)
  else match badCell s.length n.cells 0 with
    | some i => (20, i)
    | none => match wiresF s n.cells n.free n.wires 0 fun _ => false with
      | .inl e => e
      | .inr S => openF S (portsL s n) 0
def SM (S : Sn) : Mp := fun p => if S p then some (.bool true) else none
theorem SM_add (S : Sn) (p : Int × Int) : updM (SM S) p (.bool true) = SM (addS S p) := by
  funext q
  simp only [updM, SM, addS]
  by_cases h : q = p <;> simp [h]
theorem SM_get (S : Sn) (p : Int × Int) : (SM S p).getD (.bool false) = .bool (S p) := by
  simp only [SM]; cases S p <;> rfl
structure Env (i2 i3 i4 i5 : Sk.Id) (x c w : AV) (f : Int) (h : AH) : Prop where
  g2 : h.get i2 = some (.cells [x] 22)
  g3 : h.get i3 = some (.cells [c, .int .i64 f, w] 49)
  g4 : ∃ v, h.get i4 = some (.cells [v] 26)
  g5 : ∃ v, h.get i5 = some (.cells [v] 3)
  l2 : i2.nat < h.next.nat
  l3 : i3.nat < h.next.nat
  l4 : i4.nat < h.next.nat
  l5 : i5.nat < h.next.nat
theorem Env.keep {i2 i3 i4 i5 : Sk.Id} {x c w : AV} {f : Int} {h h' : AH} (E : Env i2 i3 i4 i5 x c w f h) (hk : Kept h.next.nat h h') : Env i2 i3 i4 i5 x c w f h' := by
  obtain ⟨v4, g4⟩ := E.g4
  obtain ⟨v5, g5⟩ := E.g5
  have := hk.2
  exact ⟨hk.1 _ _ E.g2 E.l2, hk.1 _ _ E.g3 E.l3, ⟨v4, hk.1 _ _ g4 E.l4⟩, ⟨v5, hk.1 _ _ g5 E.l5⟩, Nat.lt_of_lt_of_le E.l2 this, Nat.lt_of_lt_of_le E.l3 this, Nat.lt_of_lt_of_le E.l4 this, Nat.lt_of_lt_of_le E.l5 this⟩
theorem Env.fin {i2 i3 i4 i5 : Sk.Id} {x c w : AV} {f : Int} {h : AH} (E : Env i2 i3 i4 i5 x c w f h) (hne : i4 ≠ i5) (e a : Int) : ∃ h',
    hOf (aStore Tryz.prog 26 (.ptr i4 0) (.int .i64 e) h) = some (.ret undefA, h.set i4 (.cells [.int .i64 e] 26)) ∧
    hOf (aStore Tryz.prog 3 (.ptr i5 0) (.int .i64 a) (h.set i4 (.cells [.int .i64 e] 26))) = some (.ret undefA, h') ∧
    h'.get i4 = some (.cells [.int .i64 e] 26) ∧ h'.get i5 = some (.cells [.int .i64 a] 3) := by
  obtain ⟨v4, g4⟩ := E.g4
  obtain ⟨v5, g5⟩ := E.g5
  have g5' : (h.set i4 (.cells [.int .i64 e] 26)).get i5 = some (.cells [v5] 3) := by rw [AH.get_set, if_neg hne.symm]; exact g5
  refine ⟨(h.set i4 (.cells [.int .i64 e] 26)).set i5 (.cells [.int .i64 a] 3), st_ptr (n := 1) g4 (by kernel_rfl) rfl (by simp) rfl, st_ptr (n := 1) g5' (by kernel_rfl) rfl (by simp) rfl, ?_, ?_⟩
  · rw [AH.get_set, if_neg hne, AH.get_set, if_pos rfl]
  · rw [AH.get_set, if_pos rfl]
def tab16 : Nat → Option (List Nat) := fun id => match Nat.beq id 999999 with | true => some [] | false => match Nat.beq id 23 with | true => some [0, 1, 2, 3, 4, 5, 6, 7] | false => match Nat.beq id 500023 with | true => some [] | false => none
theorem fits16 : tabFits Tryz.prog (mu0 75) tab16 (codeOf Tryz.f75) = true := by kernel_rfl
section
variable {i2 i3 i4 i5 : Sk.Id} {x c w : AV} {f : Int}
theorem l16a (call rgn n) (s : List Ag) (cells : List Int) (hx : IsSig x s) (hc : IsL c (cells.map intV)) (hlen : cells.length ≤ 4096) (hne : i4 ≠ i5) {K : KC (AOut × AH)} {Q : Option (AOut × AH) → Prop}
    (hR : ∀ {i : Nat} {h : AH} {g0 g1 g2 g3 g6 g7 g8 g9 aA aB aC aD aE aF aG aH aI aJ aK aL aM aN aO aP aQ aR aS aT aU aV aW aX aY aZ bA bB bC bD bE bF bG bH bI bJ bK bL bM bN bO bP bQ bR bS bT bU bV bW bX bY bZ cA cB cC cD cE cF cG cH cI cJ cK cL cM cN cO cP cQ cS cT cU cV cW cX cY cZ dA dB dC dD dE dF dG dH dI dJ dK dL dM dN dO dP dQ dR dS dT dU dV dW dX dZ eA : AV}, badCell s.length cells 0 = some i → h.get i4 = some (.cells [.int .i64 20] 26) → h.get i5 = some (.cells [.int .i64 i] 3) → Q (K .ret ⟨[g0,g1,g2,g3,.ptr i4 0,.ptr i5 0,g6,g7,g8,g9,aA,aB,aC,aD,aE,aF,aG,aH,aI,aJ,aK,aL,aM,aN,aO,aP,aQ,aR,aS,aT,aU,aV,aW,aX,aY,aZ,bA,bB,bC,bD,bE,bF,bG,bH,bI,bJ,bK,bL,bM,bN,bO,bP,bQ,bR,bS,bT,bU,bV,bW,bX,bY,bZ,cA,cB,cC,cD,cE,cF,cG,cH,cI,cJ,cK,cL,cM,cN,cO,cP,cQ,cS,cT,cU,cV,cW,cX,cY,cZ,dA,dB,dC,dD,dE,dF,dG,dH,dI,dJ,dK,dL,dM,dN,dO,dP,dQ,dR,dS,dT,dU,dV,dW,dX,dZ,eA], [], h⟩))
    (hK : badCell s.length cells 0 = none → ∀ {h : AH} {g0 g1 g6 g7 g8 g9 aA aB aC aD aE aF aG aH aI aJ aK aL aM aN aO aP aQ aR aS aT aU aV aW aX aY aZ bA bB bC bD bE bF bG bH bI bJ bK bL bM bN bO bP bQ bR bS bT bU bV bW bX bY bZ cA cB cC cD cE cF cG cH cI cJ cK cL cM cN cO cP cQ cS cT cU cV cW cX cY cZ dA dB dC dD dE dF dG dH dI dJ dK dL dM dN dO dP dQ dR dS dT dU dV dW dX dZ eA : AV}, Env i2 i3 i4 i5 x c w f h → Q (K (.exit 0) ⟨[g0,g1,.ptr i2 0,.ptr i3 0,.ptr i4 0,.ptr i5 0,g6,g7,g8,g9,aA,aB,aC,aD,aE,aF,aG,aH,aI,aJ,aK,aL,aM,aN,aO,aP,aQ,aR,aS,aT,aU,aV,aW,aX,aY,aZ,bA,bB,bC,bD,bE,bF,bG,bH,bI,bJ,bK,bL,bM,bN,bO,bP,bQ,bR,bS,bT,bU,bV,bW,bX,bY,bZ,cA,cB,cC,cD,cE,cF,cG,cH,cI,cJ,cK,cL,cM,cN,cO,cP,cQ,cS,cT,cU,cV,cW,cX,cY,cZ,dA,dB,dC,dD,dE,dF,dG,dH,dI,dJ,dK,dL,dM,dN,dO,dP,dQ,dR,dS,dT,dU,dV,dW,dX,dZ,eA], [], h⟩)) :
    ∀ (m i : Nat) {z : Int} {h : AH} {g0 g1 g6 g7 g8 g9 aA aB aC aD aE aF aG aH aI aJ aK aL aM aN aO aP aQ aR aS aT aU aV aW aX aY aZ bA bB bF bG bH bI bJ bK bL bM bN bO bP bQ bR bS bT bU bV bW bX bY bZ cA cB cC cD cE cF cG cH cI cJ cK cL cM cN cO cP cQ cS cT cU cV cW cX cY cZ dA dB dC dD dE dF dG dH dI dJ dK dL dM dN dO dP dQ dR dS dT dU dV dW dX dZ eA : AV}, z = i → i ≤ cells.length → cells.length - i < m → Env i2 i3 i4 i5 x c w f h → badCell s.length cells 0 = badCell s.length (cells.drop i) i →
    Q (cIter (LB tab16 call rgn n 75 Tryz.f75 0) m ⟨[g0,g1,.ptr i2 0,.ptr i3 0,.ptr i4 0,.ptr i5 0,g6,g7,g8,g9,aA,aB,aC,aD,aE,aF,aG,aH,aI,aJ,aK,aL,aM,aN,aO,aP,aQ,aR,aS,aT,aU,aV,aW,aX,aY,aZ,bA,bB,c,.int .i64 cells.length,.int .i64 z,bF,bG,bH,bI,bJ,bK,bL,bM,bN,bO,bP,bQ,bR,bS,bT,bU,bV,bW,bX,bY,bZ,cA,cB,cC,cD,cE,cF,cG,cH,cI,cJ,cK,cL,cM,cN,cO,cP,cQ,cS,cT,cU,cV,cW,cX,cY,cZ,dA,dB,dC,dD,dE,dF,dG,dH,dI,dJ,dK,dL,dM,dN,dO,dP,dQ,dR,dS,dT,dU,dV,dW,dX,dZ,eA], [], h⟩ K) := by
  have u : Tryz.prog.underlying 42 = some (.slice 3) := by kernel_rfl
  have u2 : Tryz.prog.underlying 22 = some (.slice 41) := by kernel_rfl
  have hl := fun h => len_L (X := ⟨Tryz.prog, mu0, call⟩) (mu := false) (h := h) u2 hx
  rw [List.length_map] at hl
  intro m
  induction m with
  | zero => intros; omega
  | succ m ih =>
    intro i z h g0 g1 g6 g7 g8 g9 aA aB aC aD aE aF aG aH aI aJ aK aL aM aN aO aP aQ aR aS aT aU aV aW aX aY aZ bA bB bF bG bH bI bJ bK bL bM bN bO bP bQ bR bS bT bU bV bW bX bY bZ cA cB cC cD cE cF cG cH cI cJ cK cL cM cN cO cP cQ cS cT cU cV cW cX cY cZ dA dB dC dD dE dF dG dH dI dJ dK dL dM dN dO dP dQ dR dS dT dU dV dW dX dZ eA hz hi hm hE hF
    rw [cIter_succ]
    conv => arg 1; whnf
    split
    · rename_i hd
      have hlt : i < cells.length := by simp at hd; omega
      have hdrop : cells.drop i = cells[i] :: cells.drop (i + 1) := List.drop_eq_getElem_cons hlt
      have hg : (cells.map intV)[i]? = some (intV cells[i]) := by rw [List.getElem?_map, List.getElem?_eq_getElem hlt]; rfl
      have hidx := fun h => idx_L (P := Tryz.prog) (t := 42) (e := 3) (n := 1) (h := h) (k := .i64) u (by kernel_rfl) hc hz hg rfl
      rw [hdrop] at hF
      generalize cells[i] = g at hidx hF
      simp only [badCell] at hF
      have lx : vOf h (aLoad Tryz.prog 22 (.ptr i2 0) h) = some (.ret x, h) := ld_ptr (n := 1) hE.g2 (by kernel_rfl) (by kernel_rfl) rfl
      obtain ⟨h', s4, s5, q4, q5⟩ := hE.fin hne 20 z
      conv => arg 1; whnf
      refine atCall_P (hidx _) ?_
      conv => arg 1; whnf
      cases e1 : decide (g < 0)
      · conv => arg 1; whnf
        refine atCall_P lx ?_
        conv => arg 1; whnf
        refine atCall_P (hl _) ?_
        conv => arg 1; whnf
        cases e2 : decide (g ≥ (s.length : Int))
        · conv => arg 1; whnf
          refine ih (i + 1) (by rw [hz]; exact wrap_succ (by omega)) (by omega) (by omega) hE ?_
          rw [hF, if_neg (by simp at e1 e2; omega)]
        · conv => arg 1; whnf
          refine atCall_P s4 ?_
          conv => arg 1; whnf
          refine atCall_P s5 ?_
          conv => arg 1; whnf
          exact hR (by rw [hF, if_pos (.inr (by simpa using e2))]) q4 (by rw [← hz]; exact q5)
      · conv => arg 1; whnf
        refine atCall_P s4 ?_
        conv => arg 1; whnf
        refine atCall_P s5 ?_
        conv => arg 1; whnf
        exact hR (by rw [hF, if_pos (.inl (by simpa using e1))]) q4 (by rw [← hz]; exact q5)
    · rename_i hd
      have hlt : ¬ i < cells.length := by simp at hd; omega
      refine hK ?_ hE
      rw [hF, List.drop_eq_nil_of_le (by omega)]; rfl
end
theorem eq_ports {ox oy : Operand} (p q : Int × Int) (h : AH) : vOf h (aBinOp Tryz.prog .eql 44 ox oy (portV p) (portV q)) = some (.ret (.bool (p == q)), h) := by
  have e : aBinOp Tryz.prog .eql 44 ox oy (portV p) (portV q) = (aEq Tryz.prog 44 (portV p) (portV q)).map AV.bool := by
    obtain ⟨a, b⟩ := p
    obtain ⟨c, d⟩ := q
    kernel_rfl
  rw [e, eq_port]
  have : (p.1 == q.1 && p.2 == q.2) = (p == q) := rfl
  rw [this]; rfl
section
variable {i2 i3 i4 i5 i11 r : Sk.Id} {x c w : AV} {f : Int}
structure Seen (i11 r : Sk.Id) (S : Sn) (h : AH) : Prop where
  aB : h.get i11 = some (.cells [.map r] 168)
  l11 : i11.nat < h.next.nat
  gm : MapAt h r (SM S)
  lr : r.nat < h.next.nat
theorem Seen.keep {S : Sn} {h h' : AH} (E : Seen i11 r S h) (hk : Kept h.next.nat h h') : Seen i11 r S h' :=
  ⟨hk.1 _ _ E.aB E.l11, Nat.lt_of_lt_of_le E.l11 hk.2, E.gm.keep fun o ho => hk.1 _ _ ho E.lr, Nat.lt_of_lt_of_le E.lr hk.2⟩
theorem kept_one (h : AH) (o : AO) : Kept h.next.nat h (h.alloc o) := (Kept.refl h).alloc o
set_option maxHeartbeats 4000000 in
theorem l16b (call rgn n) (s : List Ag) (cells : List Int) (wires : List Wr) (hw : IsL w (wires.map wireV)) (hlen : wires.length ≤ 1000000000) (hne : i4 ≠ i5) (hr2 : i2 ≠ r) (hr3 : i3 ≠ r) (hr4 : i4 ≠ r) (hr5 : i5 ≠ r) (hr11 : i11 ≠ r)
    (h30 : ∀ p h, Env i2 i3 i4 i5 x c w f h → call (.func 98) [portV p, .ptr i3 0, .ptr i2 0] h = some (.ret (.bool (isPort s cells f p)), h.alloc (.cells [.int .i64 p.1, .int .i64 p.2] 44)))
    (R : (Int × Int) ⊕ Sn) {K : KC (AOut × AH)} {Q : Option (AOut × AH) → Prop}
    (hR : ∀ {e a : Int} {h : AH} {g0 g1 g2 g3 g6 g7 g8 g9 aA aB aC aD aE aF aG aH aI aJ aK aL aM aN aO aP aQ aR aS aT aU aV aW aX aY aZ bA bB bC bD bE bF bG bH bI bJ bK bL bM bN bO bP bQ bR bS bT bU bV bW bX bY bZ cA cB cC cD cE cF cG cH cI cJ cK cL cM cN cO cP cQ cS cT cU cV cW cX cY cZ dA dB dC dD dE dF dG dH dI dJ dK dL dM dN dO dP dQ dR dS dT dU dV dW dX dZ eA : AV}, R = .inl (e, a) → h.get i4 = some (.cells [.int .i64 e] 26) → h.get i5 = some (.cells [.int .i64 a] 3) → Q (K .ret ⟨[g0,g1,g2,g3,.ptr i4 0,.ptr i5 0,g6,g7,g8,g9,aA,aB,aC,aD,aE,aF,aG,aH,aI,aJ,aK,aL,aM,aN,aO,aP,aQ,aR,aS,aT,aU,aV,aW,aX,aY,aZ,bA,bB,bC,bD,bE,bF,bG,bH,bI,bJ,bK,bL,bM,bN,bO,bP,bQ,bR,bS,bT,bU,bV,bW,bX,bY,bZ,cA,cB,cC,cD,cE,cF,cG,cH,cI,cJ,cK,cL,cM,cN,cO,cP,cQ,cS,cT,cU,cV,cW,cX,cY,cZ,dA,dB,dC,dD,dE,dF,dG,dH,dI,dJ,dK,dL,dM,dN,dO,dP,dQ,dR,dS,dT,dU,dV,dW,dX,dZ,eA], [], h⟩))
    (hK : ∀ {S : Sn} {h : AH} {g0 g1 g6 g7 g8 g9 aA aC aD aE aF aG aH aI aJ aK aL aM aN aO aP aQ aR aS aT aU aV aW aX aY aZ bA bB bC bD bE bF bG bH bI bJ bK bL bM bN bO bP bQ bR bS bT bU bV bW bX bY bZ cA cB cC cD cE cF cG cH cI cJ cK cL cM cN cO cP cQ cS cT cU cV cW cX cY cZ dA dB dC dD dE dF dG dH dI dJ dK dL dM dN dO dP dQ dR dS dT dU dV dW dX dZ eA : AV}, R = .inr S → Env i2 i3 i4 i5 x c w f h → Seen i11 r S h → Q (K (.exit 2) ⟨[g0,g1,.ptr i2 0,.ptr i3 0,.ptr i4 0,.ptr i5 0,g6,g7,g8,g9,aA,.ptr i11 0,aC,aD,aE,aF,aG,aH,aI,aJ,aK,aL,aM,aN,aO,aP,aQ,aR,aS,aT,aU,aV,aW,aX,aY,aZ,bA,bB,bC,bD,bE,bF,bG,bH,bI,bJ,bK,bL,bM,bN,bO,bP,bQ,bR,bS,bT,bU,bV,bW,bX,bY,bZ,cA,cB,cC,cD,cE,cF,cG,cH,cI,cJ,cK,cL,cM,cN,cO,cP,cQ,cS,cT,cU,cV,cW,cX,cY,cZ,dA,dB,dC,dD,dE,dF,dG,dH,dI,dJ,dK,dL,dM,dN,dO,dP,dQ,dR,dS,dT,dU,dV,dW,dX,dZ,eA], [], h⟩)) :
    ∀ (m i : Nat) {z : Int} {S : Sn} {h : AH} {g0 g1 g6 g7 g8 g9 aC aD aE aF aG aH aI aJ aK aL aM aN aO aP aQ aR aS aT aU aV aW aX aY aZ bA bB bC bD bE bF bG bH bI bJ bK bL bM bN bO bP bQ bR bS bT bU bV bZ cA cB cC cD cE cF cG cH cI cJ cK cL cM cN cO cP cQ cS cT cU cV cW cX cY cZ dA dB dC dD dE dF dG dH dI dJ dK dL dM dN dO dP dQ dR dS dT dU dV dW dX dZ eA : AV}, z = i → i ≤ wires.length → wires.length - i < m → Env i2 i3 i4 i5 x c w f h → Seen i11 r S h → R = wiresF s cells f (wires.drop i) i S →
    Q (cIter (LB tab16 call rgn n 75 Tryz.f75 1) m ⟨[g0,g1,.ptr i2 0,.ptr i3 0,.ptr i4 0,.ptr i5 0,g6,g7,g8,g9,.fn (.func 98) [] [.ptr i3 0, .ptr i2 0],.ptr i11 0,aC,aD,aE,aF,aG,aH,aI,aJ,aK,aL,aM,aN,aO,aP,aQ,aR,aS,aT,aU,aV,aW,aX,aY,aZ,bA,bB,bC,bD,bE,bF,bG,bH,bI,bJ,bK,bL,bM,bN,bO,bP,bQ,bR,bS,bT,bU,bV,w,.int .i64 wires.length,.int .i64 z,bZ,cA,cB,cC,cD,cE,cF,cG,cH,cI,cJ,cK,cL,cM,cN,cO,cP,cQ,cS,cT,cU,cV,cW,cX,cY,cZ,dA,dB,dC,dD,dE,dF,dG,dH,dI,dJ,dK,dL,dM,dN,dO,dP,dQ,dR,dS,dT,dU,dV,dW,dX,dZ,eA], [], h⟩ K) := by
  have u : Tryz.prog.underlying 47 = some (.slice 46) := by kernel_rfl
  have um : Tryz.prog.underlying 168 = some (.map 44 4) := by kernel_rfl
  intro m
  induction m with
  | zero => intros; omega
  | succ m ih =>
    intro i z S h g0 g1 g6 g7 g8 g9 aC aD aE aF aG aH aI aJ aK aL aM aN aO aP aQ aR aS aT aU aV aW aX aY aZ bA bB bC bD bE bF bG bH bI bJ bK bL bM bN bO bP bQ bR bS bT bU bV bZ cA cB cC cD cE cF cG cH cI cJ cK cL cM cN cO cP cQ cS cT cU cV cW cX cY cZ dA dB dC dD dE dF dG dH dI dJ dK dL dM dN dO dP dQ dR dS dT dU dV dW dX dZ eA hz hi hm hE hS hF
    rw [cIter_succ]
    conv => arg 1; whnf
    split
    · rename_i hd
      have hlt : i < wires.length := by simp at hd; omega
      have hdrop : wires.drop i = wires[i] :: wires.drop (i + 1) := List.drop_eq_getElem_cons hlt
      have hg : (wires.map wireV)[i]? = some (wireV wires[i]) := by rw [List.getElem?_map, List.getElem?_eq_getElem hlt]; rfl
      have hidx := fun h => idx_L (P := Tryz.prog) (t := 47) (e := 46) (n := 4) (h := h) (k := .i64) u (by kernel_rfl) hw hz hg rfl
      rw [hdrop] at hF
      simp only [wiresF] at hF
      generalize wires[i] = ww at hidx hF
      obtain ⟨a, b, c', d⟩ := ww
      replace hF : R = cond (!isPort s cells f (a, b) || !isPort s cells f (c', d)) (.inl (30, (i : Int))) (cond (S (a, b) || S (c', d) || ((a, b) == (c', d))) (.inl (31, (i : Int))) (wiresF s cells f (wires.drop (i + 1)) (i + 1) (addS (addS S (a, b)) (c', d)))) := hF
      conv => arg 1; whnf
      refine atCall_P (hidx _) ?_
      conv => arg 1; whnf
      refine atCall_P (alloc_new (z := .agg [.int .i64 0, .int .i64 0, .int .i64 0, .int .i64 0]) (cs := [.int .i64 0, .int .i64 0, .int .i64 0, .int .i64 0]) (by kernel_rfl) rfl rfl) ?_
      conv => arg 1; whnf
      have hst := st_new (h := h) (cs0 := [.int .i64 0, .int .i64 0, .int .i64 0, .int .i64 0]) (v := .agg [.int .i64 a, .int .i64 b, .int .i64 c', .int .i64 d]) (cs := [.int .i64 a, .int .i64 b, .int .i64 c', .int .i64 d]) (T := 46) (n := 4) (P := Tryz.prog) (by kernel_rfl) rfl rfl rfl rfl
      refine atCall_P hst ?_
      obtain ⟨hget, hnx, hkeep⟩ := new_obj h [.int .i64 0, .int .i64 0, .int .i64 0, .int .i64 0] [.int .i64 a, .int .i64 b, .int .i64 c', .int .i64 d] 46
      have hk2 : Kept h.next.nat h ((h.alloc (.cells [.int .i64 0, .int .i64 0, .int .i64 0, .int .i64 0] 46)).set h.next (.cells [.int .i64 a, .int .i64 b, .int .i64 c', .int .i64 d] 46)) := ((Kept.refl h).alloc _).set _ (Nat.le_refl _)
      generalize ((h.alloc (.cells [.int .i64 0, .int .i64 0, .int .i64 0, .int .i64 0] 46)).set h.next (.cells [.int .i64 a, .int .i64 b, .int .i64 c', .int .i64 d] 46)) = h2 at hget hnx hk2 ⊢
      have hE2 := hE.keep hk2
      have hS2 := hS.keep hk2
      have hpr : h.next ≠ r := by rintro rfl; have := hS.lr; omega
      have hpn : h.next.nat < h2.next.nat := by omega
      clear hk2 hkeep hst
      generalize h.next = p at hget hpr hpn ⊢
      -- loads of the wire, at any later heap
      have lA : ∀ h', Kept h2.next.nat h2 h' → vOf h' (aLoad Tryz.prog 44 (.ptr p 0) h') = some (.ret (portV (a, b)), h') := fun h' hk => ld_agg (n := 2) (hk.1 _ _ hget hpn) (by kernel_rfl) (by kernel_rfl) (by simp)
      have lB : ∀ h', Kept h2.next.nat h2 h' → vOf h' (aLoad Tryz.prog 44 (.ptr p 2) h') = some (.ret (portV (c', d)), h') := fun h' hk => ld_agg (n := 2) (hk.1 _ _ hget hpn) (by kernel_rfl) (by kernel_rfl) (by simp)
      have err : ∀ (e : Int) (h' : AH), Kept h2.next.nat h2 h' → R = .inl (e, (i : Int)) → ∃ h4, hOf (aStore Tryz.prog 26 (.ptr i4 0) (.int .i64 e) h') = some (.ret undefA, h'.set i4 (.cells [.int .i64 e] 26)) ∧
          hOf (aStore Tryz.prog 3 (.ptr i5 0) (.int .i64 z) (h'.set i4 (.cells [.int .i64 e] 26))) = some (.ret undefA, h4) ∧ h4.get i4 = some (.cells [.int .i64 e] 26) ∧ h4.get i5 = some (.cells [.int .i64 (i : Int)] 3) := by
        intro e h' hk he
        have := (hE2.keep hk).fin hne e z
        rw [← hz]; exact this
      conv => arg 1; whnf
      refine atCall_P (lA h2 (Kept.refl h2)) ?_
      conv => arg 1; whnf
      refine atCall_P (h30 (a, b) h2 hE2) ?_
      have k3 := kept_one h2 (.cells [.int .i64 a, .int .i64 b] 44)
      generalize hh3 : h2.alloc (.cells [.int .i64 (a, b).1, .int .i64 (a, b).2] 44) = h3
      have k3 : Kept h2.next.nat h2 h3 := by rw [← hh3]; exact k3
      clear hh3
      conv => arg 1; whnf
      cases e1 : isPort s cells f (a, b)
      · conv => arg 1; whnf
        obtain ⟨h4, s4, s5, q4, q5⟩ := err 30 h3 k3 (by rw [hF]; simp [e1])
        refine atCall_P s4 ?_
        conv => arg 1; whnf
        refine atCall_P s5 ?_
        conv => arg 1; whnf
        exact hR (by rw [hF]; simp [e1]) q4 q5
      conv => arg 1; whnf
      refine atCall_P (lB h3 k3) ?_
      conv => arg 1; whnf
      refine atCall_P (h30 (c', d) h3 (hE2.keep k3)) ?_
      have k4 : Kept h2.next.nat h2 (h3.alloc (.cells [.int .i64 (c', d).1, .int .i64 (c', d).2] 44)) := k3.alloc _
      generalize h3.alloc (.cells [.int .i64 (c', d).1, .int .i64 (c', d).2] 44) = h4 at k4 ⊢
      conv => arg 1; whnf
      cases e2 : isPort s cells f (c', d)
      · conv => arg 1; whnf
        obtain ⟨h5, s4, s5, q4, q5⟩ := err 30 h4 k4 (by rw [hF]; simp [e1, e2])
        refine atCall_P s4 ?_
        conv => arg 1; whnf
        refine atCall_P s5 ?_
        conv => arg 1; whnf
        exact hR (by rw [hF]; simp [e1, e2]) q4 q5
      have hE4 := hE2.keep k4
      have hS4 := hS2.keep k4
      have lm : vOf h4 (aLoad Tryz.prog 168 (.ptr i11 0) h4) = some (.ret (.map r), h4) := ld_ptr (n := 1) hS4.aB (by kernel_rfl) (by kernel_rfl) rfl
      have lkA := lookup_M (h := h4) um (z := .bool false) (by kernel_rfl) hS4.gm (a, b)
      have lkB := lookup_M (h := h4) um (z := .bool false) (by kernel_rfl) hS4.gm (c', d)
      rw [SM_get] at lkA lkB
      simp only [e1, e2, Bool.not_true, Bool.or_self, cond_false] at hF
      conv => arg 1; whnf
      refine atCall_P lm ?_
      conv => arg 1; whnf
      refine atCall_P (lA h4 k4) ?_
      conv => arg 1; whnf
      refine atCall_P lkA ?_
      conv => arg 1; whnf
      cases e3 : S (a, b)
      case true =>
        conv => arg 1; whnf
        obtain ⟨h5, s4, s5, q4, q5⟩ := err 31 h4 k4 (by rw [hF]; simp [e3])
        refine atCall_P s4 ?_
        conv => arg 1; whnf
        refine atCall_P s5 ?_
        conv => arg 1; whnf
        exact hR (by rw [hF]; simp [e3]) q4 q5
      conv => arg 1; whnf
      refine atCall_P lm ?_
      conv => arg 1; whnf
      refine atCall_P (lB h4 k4) ?_
      conv => arg 1; whnf
      refine atCall_P lkB ?_
      conv => arg 1; whnf
      cases e4 : S (c', d)
      case true =>
        conv => arg 1; whnf
        obtain ⟨h5, s4, s5, q4, q5⟩ := err 31 h4 k4 (by rw [hF]; simp [e4])
        refine atCall_P s4 ?_
        conv => arg 1; whnf
        refine atCall_P s5 ?_
        conv => arg 1; whnf
        exact hR (by rw [hF]; simp [e4]) q4 q5
      conv => arg 1; whnf
      refine atCall_P (lA h4 k4) ?_
      conv => arg 1; whnf
      refine atCall_P (lB h4 k4) ?_
      conv => arg 1; whnf
      refine atCall_P (eq_ports (a, b) (c', d) h4) ?_
      conv => arg 1; whnf
      cases e5 : ((a, b) == (c', d))
      case true =>
        conv => arg 1; whnf
        obtain ⟨h5, s4, s5, q4, q5⟩ := err 31 h4 k4 (by rw [hF]; simp only [e5, Bool.or_true, cond_true])
        refine atCall_P s4 ?_
        conv => arg 1; whnf
        refine atCall_P s5 ?_
        conv => arg 1; whnf
        exact hR (by rw [hF]; simp only [e5, Bool.or_true, cond_true]) q4 q5
      simp only [e3, e4, e5, Bool.or_self, cond_false] at hF
      obtain ⟨o1, hu1, hM1⟩ := update_M um hS4.gm (a, b) (.bool true)
      obtain ⟨o2, hu2, hM2⟩ := update_M um hM1 (c', d) (.bool true)
      repeat' (first
        | refine atCall_P lm ?_
        | refine atCall_P (lA h4 k4) ?_
        | refine atCall_P (lB h4 k4) ?_
        | refine atCall_P hu1 ?_
        | refine atCall_P hu2 ?_
        | (conv => arg 1; whnf; done))
      conv => arg 1; whnf
      have hM2' : MapAt ((h4.set r o1).set r o2) r (SM (addS (addS S (a, b)) (c', d))) := by
        rw [← SM_add, ← SM_add]; exact hM2
      have hset : ∀ q o, h4.get q = some o → q ≠ r → ((h4.set r o1).set r o2).get q = some o := fun q o hq hne => by rw [AH.get_set, if_neg hne, AH.get_set, if_neg hne]; exact hq
      obtain ⟨v4, g4⟩ := hE4.g4
      obtain ⟨v5, g5⟩ := hE4.g5
      refine ih (i + 1) (by rw [hz]; exact wrap_succ (by omega)) (by omega) (by omega)
        ⟨hset _ _ hE4.g2 hr2, hset _ _ hE4.g3 hr3, ⟨v4, hset _ _ g4 hr4⟩, ⟨v5, hset _ _ g5 hr5⟩, hE4.l2, hE4.l3, hE4.l4, hE4.l5⟩
        ⟨hset _ _ hS4.aB hr11, hS4.l11, hM2', hS4.lr⟩ hF
    · rename_i hd
      have hlt : ¬ i < wires.length := by simp at hd; omega
      refine hK ?_ hE hS
      rw [hF, List.drop_eq_nil_of_le (by omega)]; rfl
end
theorem drawn_df {X : Cx} {fn : FuncId} {ops : Array Oper} {s : ASt} {r : AExit × ASt} (h : drawn X fn ops s = some r) : r.2.df = s.df := by
  unfold drawn at h
  split at h
  · cases h
  · split at h
    · cases h
    · split at h
      · simp only [Option.some.injEq] at h; subst h; rfl
      · cases h
theorem evCode_df {X : Cx} {rgn : Nat → Array Oper → ASt → Option (AExit × ASt)} {fn : FuncId} {rd : Option Sk.Id} {n : Nat} (hr : ∀ id ops s r, rgn id ops s = some r → r.2.df = s.df) :
    ∀ (c : Code) (s : ASt) (r : AExit × ASt), noDefs c = true → evCode X rgn fn rd n c s = some r → r.2.df = s.df := by
  intro c
  induction c with
  | skip => intro s r _ h; simp only [evCode, Option.some.injEq] at h; subst h; rfl
  | label l => intro s r _ h; simp only [evCode, Option.some.injEq] at h; subst h; rfl
  | exit i => intro s r _ h; simp only [evCode, Option.some.injEq] at h; subst h; rfl
  | ret => intro s r _ h; simp only [evCode, Option.some.injEq] at h; subst h; rfl
  | goto l => intro s r _ h; simp only [evCode] at h; cases h
  | refuse l => intro s r _ h; simp only [evCode] at h; cases h
  | rangeFunc f ps a b _ _ => intro s r hn; cases hn
  | region id ops draw =>
    intro s r _ h
    simp only [evCode] at h
    split at h
    · exact hr _ _ _ _ h
    · exact (evOps_exit h).2
  | seq a b iha ihb =>
    intro s r hn h
    simp only [noDefs, Bool.and_eq_true] at hn
    simp only [evCode, thenA] at h
    split at h
    · rename_i s' he
      rw [ihb _ _ hn.2 h, iha _ _ hn.1 he]
    · exact iha _ _ hn.1 h
  | cond c t e iht ihe =>
    intro s r hn h
    simp only [noDefs, Bool.and_eq_true] at hn
    simp only [evCode] at h
    split at h
    · exact iht _ _ hn.1 h
    · exact ihe _ _ hn.2 h
    · cases h
  | block id b ih =>
    intro s r hn h
    simp only [evCode, outBlock] at h
    split at h
    · rename_i i s' he
      have := ih _ _ hn he
      split at h
      · simp only [Option.some.injEq] at h; subst h; exact this
      · simp only [Option.some.injEq] at h; subst h; exact this
    · exact ih _ _ hn h
  | loop b ih =>
    intro s r hn h
    simp only [evCode] at h
    have key : ∀ m s r, iter (evCode X rgn fn rd n b) m s = some r → r.2.df = s.df := by
      intro m
      induction m with
      | zero => intro s r h; cases h
      | succ m im =>
        intro s r h
        simp only [iter] at h
        split at h
        · rename_i s' he
          rw [im _ _ h, ih _ _ hn he]
        · exact ih _ _ hn h
    exact key n s r h
  | scope b ih => intro s r hn h; exact ih s r hn h
def ranges : Code → List (Code × Code)
  | .seq a b => ranges a ++ ranges b
  | .cond _ a b => ranges a ++ ranges b
  | .block _ b => ranges b
  | .loop b => ranges b
  | .scope b => ranges b
  | .rangeFunc _ _ a b => [(a, b)]
  | _ => []
def rngA (c : Code) (i : Nat) : Code := ((ranges c).getD i (.skip, .skip)).1
def rngB (c : Code) (i : Nat) : Code := ((ranges c).getD i (.skip, .skip)).2
noncomputable def cR (P : Program) (mu : FuncId → Nat → Bool) (call : CallT) (rgn : RgnT) (tab : Nat → Option (List Nat)) (n : Nat) (l : Sk.Id) (fn : FuncId) (a b : Code) (tm : List AV) (h : AH) : Option (AOut × AH) :=
  cCode ⟨P, mu, call⟩ rgn fn tab (some l) n a ⟨tm, [], h⟩ fun x s =>
    match x with
    | .normal => (match s with | ⟨tm, _, h⟩ => atBusy l h fun h2 => cCode ⟨P, mu, call⟩ rgn fn tab (some l) n b ⟨tm, [], h2⟩ fun x s => atRound l x s)
    | _ => none
theorem ev_yield {hk : Hooks} (tab : Nat → Option (List Nat)) {n : Nat} {l : Sk.Id} {st : LoopState} {pd : Option Code} {fn : FuncId} {tm tm1 : List AV} {ps : Array Tmp} {a b : Code} {d : Sk.Id} {args : List AV} {h : AH} {y : AOut × AH}
    (hg : h.get l = some (.loop st pd fn tm ps a b d)) (hl : args.length = ps.size) (hta : tabFits Tryz.prog (mu0 fn) tab a = true) (htb : tabFits Tryz.prog (mu0 fn) tab b = true) (hna : noDefs a = true) (hset : setTmps tm ps.toList args = tm1)
    (hv : cR Tryz.prog mu0 (evCall (mkEv Tryz.prog mu0 hk) n) (rg Tryz.prog mu0 hk n fn) tab n l fn a b tm1 h = some y) : evCall (mkEv Tryz.prog mu0 hk) (n + 1) (.yield l) args h = some y :=
  ev_of_cYield tab hg hl hta htb (fun x s he => evCode_df (fun _ _ _ _ h => drawn_df h) a _ _ hna he) (by
    subst hset
    unfold cYield
    rw [forceL_eq]
    exact hv)
section
variable {i2 i3 i4 i5 i11 r b2 b3 l d : Sk.Id} {x c w : AV} {f : Int}
structure Rnd (i2 i3 i4 i5 i11 r b2 b3 l d : Sk.Id) (x c w : AV) (f : Int) (S : Sn) (tm : List AV) (h : AH) : Prop where
  env : Env i2 i3 i4 i5 x c w f h
  seen : Seen i11 r S h
  pg : PortsG b2 b3 x c w f h
  gl : h.get l = some (.loop .ready none 75 tm #[106, 107] (rngA (codeOf Tryz.f75) 0) (rngB (codeOf Tryz.f75) 0) d)
  gd : h.get d = some (.defs true)
  lb2 : b2.nat < h.next.nat
  lb3 : b3.nat < h.next.nat
  ll : l.nat < h.next.nat
  ld : d.nat < h.next.nat
theorem setLoop {l : Sk.Id} {st st' : LoopState} {pd pd' : Option Code} {fn : FuncId} {tm : List AV} {ps : Array Tmp} {a b : Code} {d : Sk.Id} {h : AH} {g : LoopState → Option Code → Option (LoopState × Option Code)}
    (hg : h.get l = some (.loop st pd fn tm ps a b d)) (hf : g st pd = some (st', pd')) : aSetLoop l g h = some (h.set l (.loop st' pd' fn tm ps a b d)) := by
  simp only [aSetLoop, hg, hf]
theorem y16 (call rgn n) (S : Sn) (p : Int × Int) (i : Int) (h : AH) (tm0 : List AV) {g0 g1 g2 g3 g6 g7 g8 g9 aA aC aD aE aF aG aH aI aJ aK aL aM aN aO aP aQ aR aS aT aU aV aW aX aY aZ bA bB bC bD bE bF bG bH bI bJ bK bL bM bN bO bP bQ bR bS bT bU bV bW bX bY bZ cA cB cC cD cE cF cG cH cI cJ cK cL cM cN cO cP cQ cS cT cU cV cW cX cY cZ dA dB dC dD dE dF dG dH dI dJ dK dL dM dN dO dP dQ dR dS dV dW dX dZ eA : AV} (hR : Rnd i2 i3 i4 i5 i11 r b2 b3 l d x c w f S tm0 h)
    (n45 : i4 ≠ i5) (nl : l ≠ i2 ∧ l ≠ i3 ∧ l ≠ i4 ∧ l ≠ i5 ∧ l ≠ i11 ∧ l ≠ r ∧ l ≠ b2 ∧ l ≠ b3 ∧ l ≠ d) (nd : d ≠ i4 ∧ d ≠ i5) :
    (S p = true → ∃ h', cR Tryz.prog mu0 call rgn tab16 n l 75 (rngA (codeOf Tryz.f75) 0) (rngB (codeOf Tryz.f75) 0) [g0,g1,g2,g3,.ptr i4 0,.ptr i5 0,g6,g7,g8,g9,aA,.ptr i11 0,aC,aD,aE,aF,aG,aH,aI,aJ,aK,aL,aM,aN,aO,aP,aQ,aR,aS,aT,aU,aV,aW,aX,aY,aZ,bA,bB,bC,bD,bE,bF,bG,bH,bI,bJ,bK,bL,bM,bN,bO,bP,bQ,bR,bS,bT,bU,bV,bW,bX,bY,bZ,cA,cB,cC,cD,cE,cF,cG,cH,cI,cJ,cK,cL,cM,cN,cO,cP,cQ,cS,cT,cU,cV,cW,cX,cY,cZ,dA,dB,dC,dD,dE,dF,dG,dH,dI,dJ,dK,dL,dM,dN,dO,dP,dQ,dR,dS,.int .i64 i,portV p,dV,dW,dX,dZ,eA] h = some (.ret (.bool true), h') ∧
      Rnd i2 i3 i4 i5 i11 r b2 b3 l d x c w f S tm0 h') ∧
    (S p = false → ∃ h', cR Tryz.prog mu0 call rgn tab16 n l 75 (rngA (codeOf Tryz.f75) 0) (rngB (codeOf Tryz.f75) 0) [g0,g1,g2,g3,.ptr i4 0,.ptr i5 0,g6,g7,g8,g9,aA,.ptr i11 0,aC,aD,aE,aF,aG,aH,aI,aJ,aK,aL,aM,aN,aO,aP,aQ,aR,aS,aT,aU,aV,aW,aX,aY,aZ,bA,bB,bC,bD,bE,bF,bG,bH,bI,bJ,bK,bL,bM,bN,bO,bP,bQ,bR,bS,bT,bU,bV,bW,bX,bY,bZ,cA,cB,cC,cD,cE,cF,cG,cH,cI,cJ,cK,cL,cM,cN,cO,cP,cQ,cS,cT,cU,cV,cW,cX,cY,cZ,dA,dB,dC,dD,dE,dF,dG,dH,dI,dJ,dK,dL,dM,dN,dO,dP,dQ,dR,dS,.int .i64 i,portV p,dV,dW,dX,dZ,eA] h = some (.ret (.bool false), h') ∧
      h'.get i4 = some (.cells [.int .i64 32] 26) ∧ h'.get i5 = some (.cells [.int .i64 i] 3) ∧ h'.get l = some (.loop .done (some .ret) 75 tm0 #[106, 107] (rngA (codeOf Tryz.f75) 0) (rngB (codeOf Tryz.f75) 0) d) ∧ h'.get d = some (.defs true)) := by
  have um : Tryz.prog.underlying 168 = some (.map 44 4) := by kernel_rfl
  obtain ⟨p1, p2⟩ := p
  obtain ⟨m1, m2, m3, m4, m5, m6, m7, m8, m9⟩ := nl
  -- the port's own cell, and the loop marked as busy
  have hst := st_new (h := h) (cs0 := [.int .i64 0, .int .i64 0]) (v := portV (p1, p2)) (cs := [.int .i64 p1, .int .i64 p2]) (T := 44) (n := 2) (P := Tryz.prog) (by kernel_rfl) rfl rfl rfl rfl
  obtain ⟨hget, hnx, hkeep⟩ := new_obj h [.int .i64 0, .int .i64 0] [.int .i64 p1, .int .i64 p2] 44
  have hk2 : Kept h.next.nat h ((h.alloc (.cells [.int .i64 0, .int .i64 0] 44)).set h.next (.cells [.int .i64 p1, .int .i64 p2] 44)) := ((Kept.refl h).alloc _).set _ (Nat.le_refl _)
  suffices hq : ∀ Q : Option (AOut × AH) → Prop,
      (S (p1, p2) = true → ∀ h', Rnd i2 i3 i4 i5 i11 r b2 b3 l d x c w f S tm0 h' → Q (some (.ret (.bool true), h'))) →
      (S (p1, p2) = false → ∀ h', h'.get i4 = some (.cells [.int .i64 32] 26) → h'.get i5 = some (.cells [.int .i64 i] 3) → h'.get l = some (.loop .done (some .ret) 75 tm0 #[106, 107] (rngA (codeOf Tryz.f75) 0) (rngB (codeOf Tryz.f75) 0) d) → h'.get d = some (.defs true) → Q (some (.ret (.bool false), h'))) →
      Q (cR Tryz.prog mu0 call rgn tab16 n l 75 (rngA (codeOf Tryz.f75) 0) (rngB (codeOf Tryz.f75) 0) [g0,g1,g2,g3,.ptr i4 0,.ptr i5 0,g6,g7,g8,g9,aA,.ptr i11 0,aC,aD,aE,aF,aG,aH,aI,aJ,aK,aL,aM,aN,aO,aP,aQ,aR,aS,aT,aU,aV,aW,aX,aY,aZ,bA,bB,bC,bD,bE,bF,bG,bH,bI,bJ,bK,bL,bM,bN,bO,bP,bQ,bR,bS,bT,bU,bV,bW,bX,bY,bZ,cA,cB,cC,cD,cE,cF,cG,cH,cI,cJ,cK,cL,cM,cN,cO,cP,cQ,cS,cT,cU,cV,cW,cX,cY,cZ,dA,dB,dC,dD,dE,dF,dG,dH,dI,dJ,dK,dL,dM,dN,dO,dP,dQ,dR,dS,.int .i64 i,portV (p1, p2),dV,dW,dX,dZ,eA] h) by
    constructor
    · intro hS
      exact hq (fun y => ∃ h', y = some (.ret (.bool true), h') ∧ Rnd i2 i3 i4 i5 i11 r b2 b3 l d x c w f S tm0 h') (fun _ h' h1 => ⟨h', rfl, h1⟩) (fun h0 => by rw [hS] at h0; cases h0)
    · intro hS
      exact hq (fun y => ∃ h', y = some (.ret (.bool false), h') ∧ h'.get i4 = some (.cells [.int .i64 32] 26) ∧ h'.get i5 = some (.cells [.int .i64 i] 3) ∧ h'.get l = some (.loop .done (some .ret) 75 tm0 #[106, 107] (rngA (codeOf Tryz.f75) 0) (rngB (codeOf Tryz.f75) 0) d) ∧ h'.get d = some (.defs true)) (fun h0 => by rw [hS] at h0; cases h0) (fun _ h' h1 h2 h3 h4 => ⟨h', rfl, h1, h2, h3, h4⟩)
  intro Q hT hFa
  conv => arg 1; whnf
  refine atCall_P (alloc_new (z := .agg [.int .i64 0, .int .i64 0]) (cs := [.int .i64 0, .int .i64 0]) (by kernel_rfl) rfl rfl) ?_
  conv => arg 1; whnf
  refine atCall_P hst ?_
  generalize ((h.alloc (.cells [.int .i64 0, .int .i64 0] 44)).set h.next (.cells [.int .i64 p1, .int .i64 p2] 44)) = h2 at hget hnx hk2 ⊢
  have hqn : h.next ≠ l := by rintro e; have := hR.ll; rw [← e] at this; omega
  have hqn2 : h.next.nat < h2.next.nat := by omega
  clear hst hkeep
  have hE := hR.env.keep hk2
  have hS := hR.seen.keep hk2
  have gl := hk2.1 _ _ hR.gl hR.ll
  have gd := hk2.1 _ _ hR.gd hR.ld
  have gb2 := hk2.1 _ _ hR.pg.g2 hR.lb2
  have gb3 := hk2.1 _ _ hR.pg.g3 hR.lb3
  have lb2 := Nat.lt_of_lt_of_le hR.lb2 hk2.2
  have lb3 := Nat.lt_of_lt_of_le hR.lb3 hk2.2
  have ll := Nat.lt_of_lt_of_le hR.ll hk2.2
  have ld := Nat.lt_of_lt_of_le hR.ld hk2.2
  generalize h.next = q at hget hqn hqn2 ⊢
  conv => arg 1; whnf
  refine atBusy_P (setLoop (st' := .busy) (pd' := none) gl rfl) ?_
  -- behind the mark
  generalize hh3 : h2.set l (.loop .busy none 75 tm0 #[106, 107] (rngA (codeOf Tryz.f75) 0) (rngB (codeOf Tryz.f75) 0) d) = h3
  have k3 : ∀ q' o, h2.get q' = some o → q' ≠ l → h3.get q' = some o := fun q' o hq hne => by rw [← hh3, AH.get_set, if_neg hne]; exact hq
  have gl3 : h3.get l = some (.loop .busy none 75 tm0 #[106, 107] (rngA (codeOf Tryz.f75) 0) (rngB (codeOf Tryz.f75) 0) d) := by rw [← hh3, AH.get_set, if_pos rfl]
  have n3 : h3.next = h2.next := by rw [← hh3]; rfl
  clear hh3
  have lm : vOf h3 (aLoad Tryz.prog 168 (.ptr i11 0) h3) = some (.ret (.map r), h3) := ld_ptr (n := 1) (k3 _ _ hS.aB m5.symm) (by kernel_rfl) (by kernel_rfl) rfl
  have lp : vOf h3 (aLoad Tryz.prog 44 (.ptr q 0) h3) = some (.ret (portV (p1, p2)), h3) := ld_agg (n := 2) (k3 _ _ hget hqn) (by kernel_rfl) (by kernel_rfl) (by simp)
  have gm3 : MapAt h3 r (SM S) := hS.gm.keep fun o ho => k3 _ _ ho m6.symm
  have lk := lookup_M (h := h3) um (z := .bool false) (by kernel_rfl) gm3 (p1, p2)
  rw [SM_get] at lk
  conv => arg 1; whnf
  refine atCall_P lm ?_
  conv => arg 1; whnf
  refine atCall_P lp ?_
  conv => arg 1; whnf
  refine atCall_P lk ?_
  conv => arg 1; whnf
  obtain ⟨v4, g4⟩ := hE.g4
  obtain ⟨v5, g5⟩ := hE.g5
  cases e1 : S (p1, p2)
  · conv => arg 1; whnf
    have E3 : Env i2 i3 i4 i5 x c w f h3 := ⟨k3 _ _ hE.g2 m1.symm, k3 _ _ hE.g3 m2.symm, ⟨v4, k3 _ _ g4 m3.symm⟩, ⟨v5, k3 _ _ g5 m4.symm⟩, by rw [n3]; exact hE.l2, by rw [n3]; exact hE.l3, by rw [n3]; exact hE.l4, by rw [n3]; exact hE.l5⟩
    have s4 : hOf (aStore Tryz.prog 26 (.ptr i4 0) (.int .i64 32) h3) = some (.ret undefA, h3.set i4 (.cells [.int .i64 32] 26)) := st_ptr (n := 1) (k3 _ _ g4 m3.symm) (by kernel_rfl) rfl (by simp) rfl
    have g5' : (h3.set i4 (.cells [.int .i64 32] 26)).get i5 = some (.cells [v5] 3) := by rw [AH.get_set, if_neg n45.symm]; exact k3 _ _ g5 m4.symm
    have s5 : hOf (aStore Tryz.prog 3 (.ptr i5 0) (.int .i64 i) (h3.set i4 (.cells [.int .i64 32] 26))) = some (.ret undefA, (h3.set i4 (.cells [.int .i64 32] 26)).set i5 (.cells [.int .i64 i] 3)) := st_ptr (n := 1) g5' (by kernel_rfl) rfl (by simp) rfl
    refine atCall_P s4 ?_
    conv => arg 1; whnf
    refine atCall_P s5 ?_
    conv => arg 1; whnf
    have gl5 : ((h3.set i4 (.cells [.int .i64 32] 26)).set i5 (.cells [.int .i64 i] 3)).get l = some (.loop .busy none 75 tm0 #[106, 107] (rngA (codeOf Tryz.f75) 0) (rngB (codeOf Tryz.f75) 0) d) := by
      rw [AH.get_set, if_neg m4, AH.get_set, if_neg m3]; exact gl3
    have gd5 : ((h3.set i4 (.cells [.int .i64 32] 26)).set i5 (.cells [.int .i64 i] 3)).get d = some (.defs true) := by
      rw [AH.get_set, if_neg nd.2, AH.get_set, if_neg nd.1]; exact k3 _ _ gd m9.symm
    refine atRound_P (y := some (.ret (.bool false), ((h3.set i4 (.cells [.int .i64 32] 26)).set i5 (.cells [.int .i64 i] 3)).set l (.loop .done (some .ret) 75 tm0 #[106, 107] (rngA (codeOf Tryz.f75) 0) (rngB (codeOf Tryz.f75) 0) d))) ?_ ?_
    · simp only [endRoundA]
      rw [setLoop (st' := .done) (pd' := some .ret) gl5 rfl]
    · refine hFa e1 _ ?_ ?_ (by rw [AH.get_set, if_pos rfl]) (by rw [AH.get_set, if_neg m9.symm]; exact gd5)
      · rw [AH.get_set, if_neg m3.symm, AH.get_set, if_neg n45, AH.get_set, if_pos rfl]
      · rw [AH.get_set, if_neg m4.symm, AH.get_set, if_pos rfl]
  · conv => arg 1; whnf
    refine atRound_P (y := some (.ret (.bool true), h3.set l (.loop .ready none 75 tm0 #[106, 107] (rngA (codeOf Tryz.f75) 0) (rngB (codeOf Tryz.f75) 0) d))) ?_ ?_
    · simp only [endRoundA]
      rw [setLoop (st' := .ready) (pd' := none) gl3 rfl]
    · have k4 : ∀ q' o, h2.get q' = some o → q' ≠ l → (h3.set l (.loop .ready none 75 tm0 #[106, 107] (rngA (codeOf Tryz.f75) 0) (rngB (codeOf Tryz.f75) 0) d)).get q' = some o := fun q' o hq hne => by rw [AH.get_set, if_neg hne]; exact k3 q' o hq hne
      have n4 : (h3.set l (.loop .ready none 75 tm0 #[106, 107] (rngA (codeOf Tryz.f75) 0) (rngB (codeOf Tryz.f75) 0) d)).next = h2.next := by rw [AH.next_set]; exact n3
      have gl4 : (h3.set l (.loop .ready none 75 tm0 #[106, 107] (rngA (codeOf Tryz.f75) 0) (rngB (codeOf Tryz.f75) 0) d)).get l = some (.loop .ready none 75 tm0 #[106, 107] (rngA (codeOf Tryz.f75) 0) (rngB (codeOf Tryz.f75) 0) d) := by rw [AH.get_set, if_pos rfl]
      generalize (h3.set l (.loop .ready none 75 tm0 #[106, 107] (rngA (codeOf Tryz.f75) 0) (rngB (codeOf Tryz.f75) 0) d)) = h4 at k4 n4 gl4 ⊢
      refine hT e1 h4 ⟨⟨k4 _ _ hE.g2 m1.symm, k4 _ _ hE.g3 m2.symm, ⟨v4, k4 _ _ g4 m3.symm⟩, ⟨v5, k4 _ _ g5 m4.symm⟩, by rw [n4]; exact hE.l2, by rw [n4]; exact hE.l3, by rw [n4]; exact hE.l4, by rw [n4]; exact hE.l5⟩,
        ⟨k4 _ _ hS.aB m5.symm, by rw [n4]; exact hS.l11, hS.gm.keep fun o ho => k4 _ _ ho m6.symm, by rw [n4]; exact hS.lr⟩,
        ⟨k4 _ _ gb2 m7.symm, k4 _ _ gb3 m8.symm⟩, gl4, k4 _ _ gd m9.symm, by rw [n4]; exact lb2, by rw [n4]; exact lb3, by rw [n4]; exact ll, by rw [n4]; exact ld⟩
end
section
variable {i2 i3 i4 i5 i11 r b2 b3 l d : Sk.Id} {x c w : AV} {f : Int}
abbrev RndT (i4 i5 l d : Sk.Id) (tm : List AV) (e a : Int) (h : AH) : Prop :=
  h.get i4 = some (.cells [.int .i64 e] 26) ∧ h.get i5 = some (.cells [.int .i64 a] 3) ∧ h.get l = some (.loop .done (some .ret) 75 tm #[106, 107] (rngA (codeOf Tryz.f75) 0) (rngB (codeOf Tryz.f75) 0) d) ∧ h.get d = some (.defs true)
theorem run16 {callY : CallT} {S : Sn} {tm0 : List AV}
    (Hy : ∀ (p : Int × Int) (i : Nat) (h : AH), Rnd i2 i3 i4 i5 i11 r b2 b3 l d x c w f S tm0 h →
      (S p = true → ∃ h', callY (.yield l) [.int .i64 i, portV p] h = some (.ret (.bool true), h') ∧ Rnd i2 i3 i4 i5 i11 r b2 b3 l d x c w f S tm0 h') ∧
      (S p = false → ∃ h', callY (.yield l) [.int .i64 i, portV p] h = some (.ret (.bool false), h') ∧ RndT i4 i5 l d tm0 32 i h')) :
    ∀ (ps : List (Int × Int)) (i : Nat) (h : AH), Rnd i2 i3 i4 i5 i11 r b2 b3 l d x c w f S tm0 h → ∃ h', YRun callY l (PortsG b2 b3 x c w f) i ps h h' ∧
      ((openF S ps i = (0, 0) ∧ Rnd i2 i3 i4 i5 i11 r b2 b3 l d x c w f S tm0 h') ∨ ∃ k : Nat, openF S ps i = (32, (k : Int)) ∧ RndT i4 i5 l d tm0 32 k h')
  | [], i, h, hR => ⟨h, .nil _ _, .inl ⟨rfl, hR⟩⟩
  | p :: ps, i, h, hR => by
    obtain ⟨h1, h2⟩ := Hy p i h hR
    cases hS : S p with
    | true =>
      obtain ⟨h', hc, hR'⟩ := h1 hS
      obtain ⟨h'', hY, hres⟩ := run16 Hy ps (i + 1) h' hR'
      refine ⟨h'', .cons hc hR'.pg hY, ?_⟩
      simp only [openF, hS, Bool.true_eq_false, if_false]
      exact hres
    | false =>
      obtain ⟨h', hc, hT⟩ := h2 hS
      refine ⟨h', .stop hc, .inr ⟨i, ?_, hT⟩⟩
      simp only [openF, hS, if_true]
theorem loads16 {e a : Int} {tm : List AV} {h : AH} {g0 g1 g2 g3 g6 g7 g8 g9 aA aB aC aD aE aF aG aH aI aJ aK aL aM aN aO aP aQ aR aS aT aU aV aW aX aY aZ bA bB bC bD bE bF bG bH bI bJ bK bL bM bN bO bP bQ bR bS bT bU bV bW bX bY bZ cA cB cC cD cE cF cG cH cI cJ cK cL cM cN cO cP cQ cS cT cU cV cW cX cY cZ dA dB dC dD dE dF dG dH dI dJ dK dL dM dN dO dP dQ dR dS dT dU dV dW dX dZ eA : AV} (g4 : h.get i4 = some (.cells [.int .i64 e] 26)) (g5 : h.get i5 = some (.cells [.int .i64 a] 3)) : aResults Tryz.prog [g0,g1,g2,g3,.ptr i4 0,.ptr i5 0,g6,g7,g8,g9,aA,aB,aC,aD,aE,aF,aG,aH,aI,aJ,aK,aL,aM,aN,aO,aP,aQ,aR,aS,aT,aU,aV,aW,aX,aY,aZ,bA,bB,bC,bD,bE,bF,bG,bH,bI,bJ,bK,bL,bM,bN,bO,bP,bQ,bR,bS,bT,bU,bV,bW,bX,bY,bZ,cA,cB,cC,cD,cE,cF,cG,cH,cI,cJ,cK,cL,cM,cN,cO,cP,cQ,cS,cT,cU,cV,cW,cX,cY,cZ,dA,dB,dC,dD,dE,dF,dG,dH,dI,dJ,dK,dL,dM,dN,dO,dP,dQ,dR,dS,dT,dU,dV,dW,dX,dZ,eA] h Tryz.f75.results.toList = some [.int .i64 e, .int .i64 a] := by
  have h4 : aLoad Tryz.prog 26 (.ptr i4 0) h = some (.int .i64 e) := by
    have := ld_ptr (P := Tryz.prog) (t := 26) (n := 1) (off := 0) (v := .int .i64 e) g4 (by kernel_rfl) (by kernel_rfl) rfl
    cases hv : aLoad Tryz.prog 26 (.ptr i4 0) h with
    | none => rw [hv] at this; cases this
    | some v => rw [hv] at this; simp only [vOf, Option.some.injEq, Prod.mk.injEq, AOut.ret.injEq] at this; rw [this.1]
  have h5 : aLoad Tryz.prog 3 (.ptr i5 0) h = some (.int .i64 a) := by
    have := ld_ptr (P := Tryz.prog) (t := 3) (n := 1) (off := 0) (v := .int .i64 a) g5 (by kernel_rfl) (by kernel_rfl) rfl
    cases hv : aLoad Tryz.prog 3 (.ptr i5 0) h with
    | none => rw [hv] at this; cases this
    | some v => rw [hv] at this; simp only [vOf, Option.some.injEq, Prod.mk.injEq, AOut.ret.injEq] at this; rw [this.1]
  show (match aLoad Tryz.prog 26 (.ptr i4 0) h, (match aLoad Tryz.prog 3 (.ptr i5 0) h, some ([] : List AV) with | some v, some l => some (v :: l) | _, _ => none) with | some v, some l => some (v :: l) | _, _ => none) = _
  rw [h4, h5]
theorem leave16 {e a : Int} {h : AH} {g0 g1 g2 g3 g6 g7 g8 g9 aA aB aC aD aE aF aG aH aI aJ aK aL aM aN aO aP aQ aR aS aT aU aV aW aX aY aZ bA bB bC bD bE bF bG bH bI bJ bK bL bM bN bO bP bQ bR bS bT bU bV bW bX bY bZ cA cB cC cD cE cF cG cH cI cJ cK cL cM cN cO cP cQ cS cT cU cV cW cX cY cZ dA dB dC dD dE dF dG dH dI dJ dK dL dM dN dO dP dQ dR dS dT dU dV dW dX dZ eA : AV} (g4 : h.get i4 = some (.cells [.int .i64 e] 26)) (g5 : h.get i5 = some (.cells [.int .i64 a] 3)) :
    leaveA Tryz.prog Tryz.f75 (some (.ret, ⟨[g0,g1,g2,g3,.ptr i4 0,.ptr i5 0,g6,g7,g8,g9,aA,aB,aC,aD,aE,aF,aG,aH,aI,aJ,aK,aL,aM,aN,aO,aP,aQ,aR,aS,aT,aU,aV,aW,aX,aY,aZ,bA,bB,bC,bD,bE,bF,bG,bH,bI,bJ,bK,bL,bM,bN,bO,bP,bQ,bR,bS,bT,bU,bV,bW,bX,bY,bZ,cA,cB,cC,cD,cE,cF,cG,cH,cI,cJ,cK,cL,cM,cN,cO,cP,cQ,cS,cT,cU,cV,cW,cX,cY,cZ,dA,dB,dC,dD,dE,dF,dG,dH,dI,dJ,dK,dL,dM,dN,dO,dP,dQ,dR,dS,dT,dU,dV,dW,dX,dZ,eA], [], h⟩)) = some (.ret (.tup [.int .i64 e, .int .i64 a]), h) :=
  leave_plain (.inl rfl) (loads16 (tm := []) g4 g5)
theorem leave16d {e a : Int} {h : AH} {g0 g1 g2 g3 g6 g7 g8 g9 aA aB aC aD aE aF aG aH aI aJ aK aL aM aN aO aP aQ aR aS aT aU aV aW aX aY aZ bA bB bC bD bE bF bG bH bI bJ bK bL bM bN bO bP bQ bR bS bT bU bV bW bX bY bZ cA cB cC cD cE cF cG cH cI cJ cK cL cM cN cO cP cQ cS cT cU cV cW cX cY cZ dA dB dC dD dE dF dG dH dI dJ dK dL dM dN dO dP dQ dR dS dT dU dV dW dX dZ eA : AV} (g4 : h.get i4 = some (.cells [.int .i64 e] 26)) (g5 : h.get i5 = some (.cells [.int .i64 a] 3)) (gd : h.get d = some (.defs true)) (d4 : d ≠ i4) (d5 : d ≠ i5) :
    leaveA Tryz.prog Tryz.f75 (some (.ret, ⟨[g0,g1,g2,g3,.ptr i4 0,.ptr i5 0,g6,g7,g8,g9,aA,aB,aC,aD,aE,aF,aG,aH,aI,aJ,aK,aL,aM,aN,aO,aP,aQ,aR,aS,aT,aU,aV,aW,aX,aY,aZ,bA,bB,bC,bD,bE,bF,bG,bH,bI,bJ,bK,bL,bM,bN,bO,bP,bQ,bR,bS,bT,bU,bV,bW,bX,bY,bZ,cA,cB,cC,cD,cE,cF,cG,cH,cI,cJ,cK,cL,cM,cN,cO,cP,cQ,cS,cT,cU,cV,cW,cX,cY,cZ,dA,dB,dC,dD,dE,dF,dG,dH,dI,dJ,dK,dL,dM,dN,dO,dP,dQ,dR,dS,dT,dU,dV,dW,dX,dZ,eA], [d], h⟩)) = some (.ret (.tup [.int .i64 e, .int .i64 a]), h.set d (.defs false)) := by
  have hr := loads16 (tm := []) (h := h.set d (.defs false)) (i4 := i4) (i5 := i5) (e := e) (a := a) (g0 := g0) (g1 := g1) (g2 := g2) (g3 := g3) (g6 := g6) (g7 := g7) (g8 := g8) (g9 := g9) (aA := aA) (aB := aB) (aC := aC) (aD := aD) (aE := aE) (aF := aF) (aG := aG) (aH := aH) (aI := aI) (aJ := aJ) (aK := aK) (aL := aL) (aM := aM) (aN := aN) (aO := aO) (aP := aP) (aQ := aQ) (aR := aR) (aS := aS) (aT := aT) (aU := aU) (aV := aV) (aW := aW) (aX := aX) (aY := aY) (aZ := aZ) (bA := bA) (bB := bB) (bC := bC) (bD := bD) (bE := bE) (bF := bF) (bG := bG) (bH := bH) (bI := bI) (bJ := bJ) (bK := bK) (bL := bL) (bM := bM) (bN := bN) (bO := bO) (bP := bP) (bQ := bQ) (bR := bR) (bS := bS) (bT := bT) (bU := bU) (bV := bV) (bW := bW) (bX := bX) (bY := bY) (bZ := bZ) (cA := cA) (cB := cB) (cC := cC) (cD := cD) (cE := cE) (cF := cF) (cG := cG) (cH := cH) (cI := cI) (cJ := cJ) (cK := cK) (cL := cL) (cM := cM) (cN := cN) (cO := cO) (cP := cP) (cQ := cQ) (cS := cS) (cT := cT) (cU := cU) (cV := cV) (cW := cW) (cX := cX) (cY := cY) (cZ := cZ) (dA := dA) (dB := dB) (dC := dC) (dD := dD) (dE := dE) (dF := dF) (dG := dG) (dH := dH) (dI := dI) (dJ := dJ) (dK := dK) (dL := dL) (dM := dM) (dN := dN) (dO := dO) (dP := dP) (dQ := dQ) (dR := dR) (dS := dS) (dT := dT) (dU := dU) (dV := dV) (dW := dW) (dX := dX) (dZ := dZ) (eA := eA) (by rw [AH.get_set, if_neg d4.symm]; exact g4) (by rw [AH.get_set, if_neg d5.symm]; exact g5)
  simp only [leaveA, takeDefs, gd]
  rw [hr]; rfl
end
theorem b32 (call rgn n) (x c w : AV) (f : Int) (h : AH) (hxs : x.scalar = true) (hcs : c.scalar = true) (hws : w.scalar = true) :
    B shT call rgn n 100 Tryz.f100 [x, .agg [c, .int .i64 f, w]] h = some (.ret (.fn (.func 116) [] [.ptr (h.alloc (.cells [x] 22)).next 0, .ptr h.next 0]), (h.alloc (.cells [x] 22)).alloc (.cells [c, .int .i64 f, w] 49)) := by
  conv => lhs; whnf
  refine atCall_ret (box_new (cs := [x]) (by cases x <;> first | rfl | (simp [AV.scalar] at hxs)) (by simp only [List.all_cons, hxs, List.all_nil]; rfl)) ?_
  conv => lhs; whnf
  refine atCall_ret (box_new (cs := [c, .int .i64 f, w]) rfl (by simp only [List.all_cons, hcs, hws, List.all_nil]; rfl)) ?_
  conv => lhs; whnf
  exact leave_eq (.inl rfl) rfl rfl
theorem isL_scalar {x : AV} {xs : List AV} (h : IsL x xs) : x.scalar = true := by
  rcases h with ⟨rfl, _⟩ | ⟨c, rfl⟩ <;> rfl
theorem isL_cells {x : AV} {xs : List AV} (h : IsL x xs) : x.cells = [x] := by
  rcases h with ⟨rfl, _⟩ | ⟨c, rfl⟩ <;> rfl
theorem sigF_arity {all : List Ag} : ∀ {r : List Ag} {i : Nat}, (sigF all r i).1 = 0 → ∀ a ∈ r, 0 ≤ a.2 ∧ a.2 ≤ 6
  | [], i, _, a, ha => by cases ha
  | g :: r, i, h, a, ha => by
    simp only [sigF] at h
    split at h
    · simp at h
    · split at h
      · simp at h
      · split at h
        · simp at h
        · rename_i h3
          rcases List.mem_cons.1 ha with rfl | ha
          · omega
          · exact sigF_arity h a ha
theorem sigChk_ports {s : List Ag} (h : (sigChk s).1 = 0) (a : Int) : 0 ≤ portsN s a ∧ portsN s a ≤ 7 := by
  unfold sigChk at h
  split at h
  · simp at h
  · split at h
    · simp at h
    · unfold portsN
      split
      · omega
      · split
        · omega
        · rename_i g hg
          have hm := List.mem_of_getElem? hg
          obtain ⟨h1, h2⟩ := sigF_arity h g hm
          rw [if_neg (by omega)]
          have : IntKind.i64.wrap (g.2 + 1) = g.2 + 1 := by simp [IntKind.wrap, IntKind.bits, IntKind.signed]; omega
          rw [this]; omega
structure C16 (call callY : CallT) (x c w : AV) (s : List Ag) (n : Nt) : Prop where
  c14 : ∀ h, call (.func 20) [x] h = some (.ret (.tup [.int .i64 (sigChk s).1, .int .i64 (sigChk s).2]), h)
  c30 : ∀ {i2 i3 i4 i5} p h, Env i2 i3 i4 i5 x c w n.free h → call (.func 98) [portV p, .ptr i3 0, .ptr i2 0] h = some (.ret (.bool (isPort s n.cells n.free p)), h.alloc (.cells [.int .i64 p.1, .int .i64 p.2] 44))
  c32 : ∀ h, call (.func 100) [x, .agg [c, .int .i64 n.free, w]] h = some (.ret (.fn (.func 116) [] [.ptr (h.alloc (.cells [x] 22)).next 0, .ptr h.next 0]), (h.alloc (.cells [x] 22)).alloc (.cells [c, .int .i64 n.free, w] 49))
  c37 : ∀ {l b2 b3 h h'}, (∀ a, 0 ≤ portsN s a ∧ portsN s a ≤ 7) → n.free ≤ 64 → n.cells.length ≤ 4096 → PortsG b2 b3 x c w n.free h → YRun callY l (PortsG b2 b3 x c w n.free) 0 (portsL s n) h h' →
    call (.func 116) [.fn (.yield l) [] [], .ptr b3 0, .ptr b2 0] h = some (.ret (.tup []), h')
  cy : ∀ {i2 i3 i4 i5 i11 r b2 b3 l d : Sk.Id} {S : Sn} {g0 g1 g2 g3 g6 g7 g8 g9 aA aC aD aE aF aG aH aI aJ aK aL aM aN aO aP aQ aR aS aT aU aV aW aX aY aZ bA bB bC bD bE bF bG bH bI bJ bK bL bM bN bO bP bQ bR bS bT bU bV bW bX bY bZ cA cB cC cD cE cF cG cH cI cJ cK cL cM cN cO cP cQ cS cT cU cV cW cX cY cZ dA dB dC dD dE dF dG dH dI dJ dK dL dM dN dO dP dQ dR dS dT dU dV dW dX dZ eA : AV}, i4 ≠ i5 → (l ≠ i2 ∧ l ≠ i3 ∧ l ≠ i4 ∧ l ≠ i5 ∧ l ≠ i11 ∧ l ≠ r ∧ l ≠ b2 ∧ l ≠ b3 ∧ l ≠ d) → (d ≠ i4 ∧ d ≠ i5) →
    ∀ (p : Int × Int) (i : Nat) (h : AH), Rnd i2 i3 i4 i5 i11 r b2 b3 l d x c w n.free S [g0,g1,g2,g3,.ptr i4 0,.ptr i5 0,g6,g7,g8,g9,aA,.ptr i11 0,aC,aD,aE,aF,aG,aH,aI,aJ,aK,aL,aM,aN,aO,aP,aQ,aR,aS,aT,aU,aV,aW,aX,aY,aZ,bA,bB,bC,bD,bE,bF,bG,bH,bI,bJ,bK,bL,bM,bN,bO,bP,bQ,bR,bS,bT,bU,bV,bW,bX,bY,bZ,cA,cB,cC,cD,cE,cF,cG,cH,cI,cJ,cK,cL,cM,cN,cO,cP,cQ,cS,cT,cU,cV,cW,cX,cY,cZ,dA,dB,dC,dD,dE,dF,dG,dH,dI,dJ,dK,dL,dM,dN,dO,dP,dQ,dR,dS,dT,dU,dV,dW,dX,dZ,eA] h →
      (S p = true → ∃ h', callY (.yield l) [.int .i64 i, portV p] h = some (.ret (.bool true), h') ∧ Rnd i2 i3 i4 i5 i11 r b2 b3 l d x c w n.free S [g0,g1,g2,g3,.ptr i4 0,.ptr i5 0,g6,g7,g8,g9,aA,.ptr i11 0,aC,aD,aE,aF,aG,aH,aI,aJ,aK,aL,aM,aN,aO,aP,aQ,aR,aS,aT,aU,aV,aW,aX,aY,aZ,bA,bB,bC,bD,bE,bF,bG,bH,bI,bJ,bK,bL,bM,bN,bO,bP,bQ,bR,bS,bT,bU,bV,bW,bX,bY,bZ,cA,cB,cC,cD,cE,cF,cG,cH,cI,cJ,cK,cL,cM,cN,cO,cP,cQ,cS,cT,cU,cV,cW,cX,cY,cZ,dA,dB,dC,dD,dE,dF,dG,dH,dI,dJ,dK,dL,dM,dN,dO,dP,dQ,dR,dS,dT,dU,dV,dW,dX,dZ,eA] h') ∧
      (S p = false → ∃ h', callY (.yield l) [.int .i64 i, portV p] h = some (.ret (.bool false), h') ∧ RndT i4 i5 l d [g0,g1,g2,g3,.ptr i4 0,.ptr i5 0,g6,g7,g8,g9,aA,.ptr i11 0,aC,aD,aE,aF,aG,aH,aI,aJ,aK,aL,aM,aN,aO,aP,aQ,aR,aS,aT,aU,aV,aW,aX,aY,aZ,bA,bB,bC,bD,bE,bF,bG,bH,bI,bJ,bK,bL,bM,bN,bO,bP,bQ,bR,bS,bT,bU,bV,bW,bX,bY,bZ,cA,cB,cC,cD,cE,cF,cG,cH,cI,cJ,cK,cL,cM,cN,cO,cP,cQ,cS,cT,cU,cV,cW,cX,cY,cZ,dA,dB,dC,dD,dE,dF,dG,dH,dI,dJ,dK,dL,dM,dN,dO,dP,dQ,dR,dS,dT,dU,dV,dW,dX,dZ,eA] 32 i h')
theorem atRange_ex {Q : Option (AOut × AH) → Prop} {P : AH → Prop} {l : Sk.Id} {tm : List AV} {df : List Sk.Id} {k : KC (AOut × AH)} {r : Option (AOut × AH)} (hr : ∃ h', r = some (.ret (.tup []), h') ∧ P h')
    (hy : ∀ h', P h' → Q ((aLeaveLoop l ⟨tm, df, h'⟩).bind fun r => k r.1 r.2)) : Q (atRange l tm df k r) := by
  obtain ⟨h', h1, h2⟩ := hr
  have := hy h' h2
  unfold atRange; rw [h1]; exact this
theorem leaveLoop_none {l d : Sk.Id} {fn : FuncId} {tm tm' : List AV} {df : List Sk.Id} {ps : Array Tmp} {a b : Code} {h : AH} (hg : h.get l = some (.loop .ready none fn tm ps a b d)) : aLeaveLoop l ⟨tm', df, h⟩ = some (.normal, ⟨tm', df, h.set l (.loop .exhausted none fn tm ps a b d)⟩) := by
  simp only [aLeaveLoop, hg]
theorem leaveLoop_ex {l d : Sk.Id} {fn : FuncId} {tm : List AV} {ps : Array Tmp} {a b : Code} {h : AH} (hg : h.get l = some (.loop .ready none fn tm ps a b d)) :
    ∃ h2, (∀ tm' df, aLeaveLoop l ⟨tm', df, h⟩ = some (.normal, ⟨tm', df, h2⟩)) ∧ ∀ q o, h.get q = some o → l ≠ q → h2.get q = some o :=
  ⟨_, fun _ _ => leaveLoop_none hg, fun q o hq hne => by rw [AH.get_set, if_neg hne.symm]; exact hq⟩
theorem leaveLoop_ret {l d : Sk.Id} {fn : FuncId} {tm tm' : List AV} {df : List Sk.Id} {ps : Array Tmp} {a b : Code} {h : AH} (hg : h.get l = some (.loop .done (some .ret) fn tm ps a b d)) : aLeaveLoop l ⟨tm', df, h⟩ = some (.ret, ⟨tm', df, h.set l (.loop .exhausted (some .ret) fn tm ps a b d)⟩) := by
  simp only [aLeaveLoop, hg]
set_option maxHeartbeats 8000000 in
theorem b16 (call callY rgn n) (x c w : AV) (s : List Ag) (nt : Nt) (hx : IsSig x s) (hc : IsL c (nt.cells.map intV)) (hw : IsL w (nt.wires.map wireV)) (C : C16 call callY x c w s nt) (hwl : nt.wires.length ≤ 1000000000) (hn1 : 4096 < n) (hn2 : nt.wires.length < n) (h : AH) :
    ∃ h', B tab16 call rgn n 75 Tryz.f75 [x, .agg [c, .int .i64 nt.free, w]] h = some (.ret (.tup [.int .i64 (netChk s nt).1, .int .i64 (netChk s nt).2]), h') := by
  obtain ⟨cells, f, wires⟩ := nt
  simp only at hc hw hwl hn2
  have hxs := isL_scalar hx
  have hcs := isL_scalar hc
  have hws := isL_scalar hw
  have u23 : Tryz.prog.underlying 42 = some (.slice 3) := by kernel_rfl
  have u24 : Tryz.prog.underlying 47 = some (.slice 46) := by kernel_rfl
  have hlc := fun h => len_L (X := ⟨Tryz.prog, mu0, call⟩) (mu := false) (h := h) u23 hc
  have hlw := fun h => len_L (X := ⟨Tryz.prog, mu0, call⟩) (mu := false) (h := h) u24 hw
  rw [List.length_map] at hlc hlw
  suffices hq : (fun y : Option (AOut × AH) => ∃ h', y = some (.ret (.tup [.int .i64 (netChk s ⟨cells, f, wires⟩).1, .int .i64 (netChk s ⟨cells, f, wires⟩).2]), h')) (B tab16 call rgn n 75 Tryz.f75 [x, .agg [c, .int .i64 f, w]] h) from hq
  generalize hQ : (fun y : Option (AOut × AH) => ∃ h', y = some (.ret (.tup [.int .i64 (netChk s ⟨cells, f, wires⟩).1, .int .i64 (netChk s ⟨cells, f, wires⟩).2]), h')) = Q
  have hQ' : ∀ e a h', netChk s ⟨cells, f, wires⟩ = (e, a) → Q (some (.ret (.tup [.int .i64 e, .int .i64 a]), h')) := fun e a h' he => by rw [← hQ, he]; exact ⟨h', rfl⟩
  clear hQ
  conv => arg 1; whnf
  refine atCall_P (box_new (cs := [x]) (isL_cells hx) (by simp only [List.all_cons, hxs, List.all_nil]; rfl)) ?_
  conv => arg 1; whnf
  refine atCall_P (box_new (cs := [c, .int .i64 f, w]) rfl (by simp only [List.all_cons, hcs, hws, List.all_nil]; rfl)) ?_
  conv => arg 1; whnf
  refine atCall_P (alloc_new (z := .int .i64 0) (cs := [.int .i64 0]) (by kernel_rfl) rfl rfl) ?_
  conv => arg 1; whnf
  refine atCall_P (alloc_new (z := .int .i64 0) (cs := [.int .i64 0]) (by kernel_rfl) rfl rfl) ?_
  generalize hi2 : h.next = i2
  generalize hh1 : h.alloc (.cells [x] 22) = h1
  have n1 : h1.next.nat = i2.nat + 1 := by rw [← hh1, AH.next_alloc, Id.nat_succ, hi2]
  have a2 : h1.get i2 = some (.cells [x] 22) := by rw [← hh1, ← hi2, AH.get_alloc, if_pos rfl]
  generalize hi3 : h1.next = i3 at n1
  generalize hh2 : h1.alloc (.cells [c, .int .i64 f, w] 49) = h2
  have n2 : h2.next.nat = i3.nat + 1 := by rw [← hh2, AH.next_alloc, Id.nat_succ, hi3]
  have a3 : h2.get i3 = some (.cells [c, .int .i64 f, w] 49) := by rw [← hh2, ← hi3, AH.get_alloc, if_pos rfl]
  have a2 : h2.get i2 = some (.cells [x] 22) := by rw [← hh2]; exact kept_alloc a2 (by rw [hi3]; omega)
  generalize hi4 : h2.next = i4 at n2
  generalize hh3 : h2.alloc (.cells [.int .i64 0] 26) = h3
  have n3 : h3.next.nat = i4.nat + 1 := by rw [← hh3, AH.next_alloc, Id.nat_succ, hi4]
  have a4 : h3.get i4 = some (.cells [.int .i64 0] 26) := by rw [← hh3, ← hi4, AH.get_alloc, if_pos rfl]
  have a2 : h3.get i2 = some (.cells [x] 22) := by rw [← hh3]; exact kept_alloc a2 (by rw [hi4]; omega)
  have a3 : h3.get i3 = some (.cells [c, .int .i64 f, w] 49) := by rw [← hh3]; exact kept_alloc a3 (by rw [hi4]; omega)
  generalize hi5 : h3.next = i5 at n3
  generalize hh4 : h3.alloc (.cells [.int .i64 0] 3) = h4
  have n4 : h4.next.nat = i5.nat + 1 := by rw [← hh4, AH.next_alloc, Id.nat_succ, hi5]
  have a5 : h4.get i5 = some (.cells [.int .i64 0] 3) := by rw [← hh4, ← hi5, AH.get_alloc, if_pos rfl]
  have a2 : h4.get i2 = some (.cells [x] 22) := by rw [← hh4]; exact kept_alloc a2 (by rw [hi5]; omega)
  have a3 : h4.get i3 = some (.cells [c, .int .i64 f, w] 49) := by rw [← hh4]; exact kept_alloc a3 (by rw [hi5]; omega)
  have a4 : h4.get i4 = some (.cells [.int .i64 0] 26) := by rw [← hh4]; exact kept_alloc a4 (by rw [hi5]; omega)
  clear hh1 hh2 hh3 hh4 hi2 hi3 hi4 hi5
  have hE : Env i2 i3 i4 i5 x c w f h4 := ⟨a2, a3, ⟨_, a4⟩, ⟨_, a5⟩, by omega, by omega, by omega, by omega⟩
  have n45 : i4 ≠ i5 := by rintro rfl; omega
  have lx : ∀ h, Env i2 i3 i4 i5 x c w f h → vOf h (aLoad Tryz.prog 22 (.ptr i2 0) h) = some (.ret x, h) := fun h E => ld_ptr (n := 1) E.g2 (by kernel_rfl) (by kernel_rfl) rfl
  have lc : ∀ h, Env i2 i3 i4 i5 x c w f h → vOf h (aLoad Tryz.prog 42 (.ptr i3 0) h) = some (.ret c, h) := fun h E => ld_ptr (n := 1) E.g3 (by kernel_rfl) (by kernel_rfl) rfl
  have lf : ∀ h, Env i2 i3 i4 i5 x c w f h → vOf h (aLoad Tryz.prog 3 (.ptr i3 1) h) = some (.ret (.int .i64 f), h) := fun h E => ld_ptr (n := 1) E.g3 (by kernel_rfl) (by kernel_rfl) rfl
  have lw : ∀ h, Env i2 i3 i4 i5 x c w f h → vOf h (aLoad Tryz.prog 47 (.ptr i3 2) h) = some (.ret w, h) := fun h E => ld_ptr (n := 1) E.g3 (by kernel_rfl) (by kernel_rfl) rfl
  have ln : ∀ h, Env i2 i3 i4 i5 x c w f h → vOf h (aLoad Tryz.prog 49 (.ptr i3 0) h) = some (.ret (.agg [c, .int .i64 f, w]), h) := fun h E => ld_agg (n := 3) E.g3 (by kernel_rfl) (by kernel_rfl) (by simp)
  conv => arg 1; whnf
  refine atCall_P (lx _ hE) ?_
  conv => arg 1; whnf
  refine atCall_P (C.c14 _) ?_
  generalize hsc : (sigChk s).1 = e1
  generalize hsc2 : (sigChk s).2 = e2
  conv => arg 1; whnf
  cases b1 : (e1 != 0)
  case true =>
    conv => arg 1; whnf
    obtain ⟨h', s4, s5, q4, q5⟩ := hE.fin n45 e1 e2
    refine atCall_P s4 ?_
    conv => arg 1; whnf
    refine atCall_P s5 ?_
    conv => arg 1; whnf
    refine atLeave_P (leave16 q4 q5) (hQ' _ _ _ ?_)
    unfold netChk; rw [if_pos (by rw [hsc]; simpa using b1), ← hsc, ← hsc2]
  have hs0 : (sigChk s).1 = 0 := by rw [hsc]; simpa using b1
  have hc1 : ∀ y, (if (cells.length > 4096 ∨ f > 64) then ((15, 0) : Int × Int) else y) = (if (cells.length > 4096 ∨ f > 64) then (15, 0) else y) := fun _ => rfl
  conv => arg 1; whnf
  refine atCall_P (lc _ hE) ?_
  conv => arg 1; whnf
  refine atCall_P (hlc _) ?_
  conv => arg 1; whnf
  obtain ⟨hf15, s4, s5, q4, q5⟩ := hE.fin n45 15 0
  cases b2 : decide ((cells.length : Int) > 4096)
  case true =>
    conv => arg 1; whnf
    refine atCall_P s4 ?_
    conv => arg 1; whnf
    refine atCall_P s5 ?_
    conv => arg 1; whnf
    refine atLeave_P (leave16 q4 q5) (hQ' _ _ _ ?_)
    unfold netChk; rw [if_neg (by rw [hs0]; simp), if_pos (.inl (by simp at b2 ⊢; omega))]
  conv => arg 1; whnf
  refine atCall_P (lf _ hE) ?_
  conv => arg 1; whnf
  cases b3 : decide (f > 64)
  case true =>
    conv => arg 1; whnf
    refine atCall_P s4 ?_
    conv => arg 1; whnf
    refine atCall_P s5 ?_
    conv => arg 1; whnf
    refine atLeave_P (leave16 q4 q5) (hQ' _ _ _ ?_)
    unfold netChk; rw [if_neg (by rw [hs0]; simp), if_pos (.inr (by simpa using b3))]
  have hcl : cells.length ≤ 4096 := by simp at b2; omega
  have hf64 : f ≤ 64 := by simpa using b3
  conv => arg 1; whnf
  refine atCall_P (lf _ hE) ?_
  conv => arg 1; whnf
  clear hf15 s4 s5 q4 q5
  cases b4 : decide (f < 0)
  case true =>
    conv => arg 1; whnf
    obtain ⟨h', s4, s5, q4, q5⟩ := hE.fin n45 1 0
    refine atCall_P s4 ?_
    conv => arg 1; whnf
    refine atCall_P s5 ?_
    conv => arg 1; whnf
    refine atLeave_P (leave16 q4 q5) (hQ' _ _ _ ?_)
    unfold netChk; rw [if_neg (by rw [hs0]; simp), if_neg (by simp; omega), if_pos (by simpa using b4)]
  have hf0 : ¬ f < 0 := by simpa using b4
  have hchk : netChk s ⟨cells, f, wires⟩ = (match badCell s.length cells 0 with
    | some i => (20, (i : Int))
    | none => match wiresF s cells f wires 0 fun _ => false with
      | .inl e => e
      | .inr S => openF S (portsL s ⟨cells, f, wires⟩) 0) := by
    unfold netChk; rw [if_neg (by rw [hs0]; simp), if_neg (by simp; omega), if_neg hf0]; all_goals rfl
  conv => arg 1; whnf
  refine atCall_P (lc _ hE) ?_
  conv => arg 1; whnf
  refine atCall_P (hlc _) ?_
  conv => arg 1; whnf
  refine l16a (i2 := i2) (i3 := i3) (i4 := i4) (i5 := i5) (x := x) (c := c) (w := w) (f := f) call rgn n s cells hx hc hcl n45 ?_ ?_ n 0 (z := 0) rfl (Nat.zero_le _) (by omega) hE (by rw [List.drop_zero])
  · intro i h'
    intros
    rename_i hb q4 q5
    refine atLeave_P (leave16 q4 q5) (hQ' _ _ _ ?_)
    rw [hchk, hb]
  intro hbn h5
  intros
  rename_i hE5
  rw [hbn] at hchk
  simp only at hchk
  clear hE a2 a3 a4 a5
  conv => arg 1; whnf
  refine atCall_P (alloc_new (z := .nilmap) (cs := [.nilmap]) (by kernel_rfl) rfl rfl) ?_
  generalize hi11 : (h5.alloc (.map [] 0)).next = i11
  generalize hir : h5.next = r
  have hk6 : Kept h5.next.nat h5 ((h5.alloc (.map [] 0)).alloc (.cells [.nilmap] 168)) := (kept_one h5 _).alloc _
  have aB : ((h5.alloc (.map [] 0)).alloc (.cells [.nilmap] 168)).get i11 = some (.cells [.nilmap] 168) := by rw [← hi11, AH.get_alloc, if_pos rfl]
  have gr : ((h5.alloc (.map [] 0)).alloc (.cells [.nilmap] 168)).get r = some (.map [] 0) := by
    refine kept_alloc (by rw [← hir, AH.get_alloc, if_pos rfl]) ?_
    rw [AH.next_alloc, Id.nat_succ, hir]; omega
  have nr : r.nat + 1 = i11.nat := by rw [← hi11, ← hir, AH.next_alloc, Id.nat_succ]
  have n6 : ((h5.alloc (.map [] 0)).alloc (.cells [.nilmap] 168)).next.nat = i11.nat + 1 := by rw [AH.next_alloc, Id.nat_succ, hi11]
  rw [hir] at hk6
  have nE : i2.nat < r.nat ∧ i3.nat < r.nat ∧ i4.nat < r.nat ∧ i5.nat < r.nat := by rw [← hir]; exact ⟨hE5.l2, hE5.l3, hE5.l4, hE5.l5⟩
  have hE6 := hE5.keep (by rw [hir]; exact hk6)
  clear hi11 hir
  conv => arg 1; whnf
  generalize ((h5.alloc (.map [] 0)).alloc (.cells [.nilmap] 168)) = h6 at hk6 aB gr n6 hE6 ⊢
  have st11 : hOf (aStore Tryz.prog 168 (.ptr i11 0) (.map r) h6) = some (.ret undefA, h6.set i11 (.cells [.map r] 168)) := st_ptr (n := 1) aB (by kernel_rfl) rfl (by simp) rfl
  refine atCall_P st11 ?_
  have k7 : ∀ q o, h6.get q = some o → q ≠ i11 → (h6.set i11 (.cells [.map r] 168)).get q = some o := fun q o hq hne => by rw [AH.get_set, if_neg hne]; exact hq
  have g11' : (h6.set i11 (.cells [.map r] 168)).get i11 = some (.cells [.map r] 168) := by rw [AH.get_set, if_pos rfl]
  have n7 : (h6.set i11 (.cells [.map r] 168)).next = h6.next := rfl
  generalize (h6.set i11 (.cells [.map r] 168)) = h7 at k7 g11' n7 ⊢
  have ne : ∀ q : Sk.Id, q.nat < i11.nat → q ≠ i11 := fun q hq => by rintro rfl; omega
  obtain ⟨v4, g4⟩ := hE6.g4
  obtain ⟨v5, g5⟩ := hE6.g5
  have hE7 : Env i2 i3 i4 i5 x c w f h7 := ⟨k7 _ _ hE6.g2 (ne _ (by omega)), k7 _ _ hE6.g3 (ne _ (by omega)), ⟨v4, k7 _ _ g4 (ne _ (by omega))⟩, ⟨v5, k7 _ _ g5 (ne _ (by omega))⟩, by rw [n7]; exact hE6.l2, by rw [n7]; exact hE6.l3, by rw [n7]; exact hE6.l4, by rw [n7]; exact hE6.l5⟩
  have hS7 : Seen i11 r (fun _ => false) h7 := ⟨g11', by rw [n7, n6]; omega, ⟨[], 0, k7 _ _ gr (ne _ (by omega)), fun p => rfl⟩, by rw [n7, n6]; omega⟩
  clear hE6 hE5 st11 k7 g11' aB gr g4 g5 hk6
  conv => arg 1; whnf
  refine atCall_P (lw _ hE7) ?_
  conv => arg 1; whnf
  refine atCall_P (hlw _) ?_
  conv => arg 1; whnf
  have nq : ∀ q : Sk.Id, q.nat ≠ r.nat → q ≠ r := fun q hq => by rintro rfl; exact hq rfl
  refine l16b (i2 := i2) (i3 := i3) (i4 := i4) (i5 := i5) (i11 := i11) (r := r) (x := x) (c := c) (w := w) (f := f) call rgn n s cells wires hw hwl n45 (nq _ (by omega)) (nq _ (by omega)) (nq _ (by omega)) (nq _ (by omega)) (nq _ (by omega)) (fun p h E => C.c30 p h E) _ ?_ ?_ n 0 (z := 0) rfl (Nat.zero_le _) (by omega) hE7 hS7 (by rw [List.drop_zero])
  · intro e a h'
    intros
    rename_i hb q4 q5
    refine atLeave_P (leave16 q4 q5) (hQ' _ _ _ ?_)
    rw [hchk, hb]
  intro S h8
  intros
  rename_i hb hE8 hS8
  rw [hb] at hchk
  simp only at hchk
  conv => arg 1; whnf
  refine atCall_P (lx _ hE8) ?_
  conv => arg 1; whnf
  refine atCall_P (ln _ hE8) ?_
  conv => arg 1; whnf
  refine atCall_P (C.c32 _) ?_
  conv => arg 1; whnf
  -- the boxes of the iterator
  generalize hb2 : h8.next = b2
  generalize hh9 : h8.alloc (.cells [x] 22) = h9
  have m9 : h9.next.nat = b2.nat + 1 := by rw [← hh9, AH.next_alloc, Id.nat_succ, hb2]
  have k9 : Kept h8.next.nat h8 h9 := by rw [← hh9]; exact kept_one h8 _
  have gb2 : h9.get b2 = some (.cells [x] 22) := by rw [← hh9, ← hb2, AH.get_alloc, if_pos rfl]
  generalize hb3 : h9.next = b3 at m9
  have hfr : (Nt.mk cells f wires).free = f := rfl
  rw [hfr]
  generalize hh10 : h9.alloc (.cells [c, .int .i64 f, w] 49) = h10
  have m10 : h10.next.nat = b3.nat + 1 := by rw [← hh10, AH.next_alloc, Id.nat_succ, hb3]
  have k10 : Kept h8.next.nat h8 h10 := by rw [← hh10]; exact k9.alloc _
  have gb3 : h10.get b3 = some (.cells [c, .int .i64 f, w] 49) := by rw [← hh10, ← hb3, AH.get_alloc, if_pos rfl]
  have gb2 : h10.get b2 = some (.cells [x] 22) := by rw [← hh10]; exact kept_alloc gb2 (by rw [hb3]; omega)
  have e8 : h8.next.nat = b2.nat := by rw [hb2]
  rw [e8] at k10
  clear hh9 hh10 hb3 k9
  have hE10 := hE8.keep (by rw [e8]; exact k10)
  have hS10 := hS8.keep (by rw [e8]; exact k10)
  have nb : i2.nat < b2.nat ∧ i3.nat < b2.nat ∧ i4.nat < b2.nat ∧ i5.nat < b2.nat ∧ i11.nat < b2.nat ∧ r.nat < b2.nat := by rw [← e8]; exact ⟨hE8.l2, hE8.l3, hE8.l4, hE8.l5, hS8.l11, hS8.lr⟩
  clear hE8 hS8 hb2 e8
  generalize hd : h10.next = d at m10
  have hl : (loopId h10).nat = d.nat + 1 := by unfold loopId; rw [AH.next_alloc, Id.nat_succ, hd]
  have nel : ∀ q : Sk.Id, q.nat < d.nat → loopId h10 ≠ q := fun q hq => by rintro rfl; omega
  have ned : ∀ q : Sk.Id, q.nat < d.nat → d ≠ q := fun q hq => by rintro rfl; omega
  have key : ∀ {g0 g1 g2 g3 g6 g7 g8 g9 aA aC aD aE aF aG aH aI aJ aK aL aM aN aO aP aQ aR aS aT aU aV aW aX aY aZ bA bB bC bD bE bF bG bH bI bJ bK bL bM bN bO bP bQ bR bS bT bU bV bW bX bY bZ cA cB cC cD cE cF cG cH cI cJ cK cL cM cN cO cP cQ cS cT cU cV cW cX cY cZ dA dB dC dD dE dF dG dH dI dJ dK dL dM dN dO dP dQ dR dS dT dU dV dW dX dZ eA : AV}, ∃ h', call (.func 116) ([] ++ [.fn (.yield (loopId h10)) [] []] ++ [.ptr b3 0, .ptr b2 0]) (loopHeap 75 [g0,g1,g2,g3,.ptr i4 0,.ptr i5 0,g6,g7,g8,g9,aA,.ptr i11 0,aC,aD,aE,aF,aG,aH,aI,aJ,aK,aL,aM,aN,aO,aP,aQ,aR,aS,aT,aU,aV,aW,aX,aY,aZ,bA,bB,bC,bD,bE,bF,bG,bH,bI,bJ,bK,bL,bM,bN,bO,bP,bQ,bR,bS,bT,bU,bV,bW,bX,bY,bZ,cA,cB,cC,cD,cE,cF,cG,cH,cI,cJ,cK,cL,cM,cN,cO,cP,cQ,cS,cT,cU,cV,cW,cX,cY,cZ,dA,dB,dC,dD,dE,dF,dG,dH,dI,dJ,dK,dL,dM,dN,dO,dP,dQ,dR,dS,dT,dU,dV,dW,dX,dZ,eA] #[106, 107] (rngA (codeOf Tryz.f75) 0) (rngB (codeOf Tryz.f75) 0) h10) = some (.ret (.tup []), h') ∧
      ((openF S (portsL s ⟨cells, f, wires⟩) 0 = (0, 0) ∧ Rnd i2 i3 i4 i5 i11 r b2 b3 (loopId h10) d x c w f S [g0,g1,g2,g3,.ptr i4 0,.ptr i5 0,g6,g7,g8,g9,aA,.ptr i11 0,aC,aD,aE,aF,aG,aH,aI,aJ,aK,aL,aM,aN,aO,aP,aQ,aR,aS,aT,aU,aV,aW,aX,aY,aZ,bA,bB,bC,bD,bE,bF,bG,bH,bI,bJ,bK,bL,bM,bN,bO,bP,bQ,bR,bS,bT,bU,bV,bW,bX,bY,bZ,cA,cB,cC,cD,cE,cF,cG,cH,cI,cJ,cK,cL,cM,cN,cO,cP,cQ,cS,cT,cU,cV,cW,cX,cY,cZ,dA,dB,dC,dD,dE,dF,dG,dH,dI,dJ,dK,dL,dM,dN,dO,dP,dQ,dR,dS,dT,dU,dV,dW,dX,dZ,eA] h') ∨
        ∃ k : Nat, openF S (portsL s ⟨cells, f, wires⟩) 0 = (32, (k : Int)) ∧ RndT i4 i5 (loopId h10) d [g0,g1,g2,g3,.ptr i4 0,.ptr i5 0,g6,g7,g8,g9,aA,.ptr i11 0,aC,aD,aE,aF,aG,aH,aI,aJ,aK,aL,aM,aN,aO,aP,aQ,aR,aS,aT,aU,aV,aW,aX,aY,aZ,bA,bB,bC,bD,bE,bF,bG,bH,bI,bJ,bK,bL,bM,bN,bO,bP,bQ,bR,bS,bT,bU,bV,bW,bX,bY,bZ,cA,cB,cC,cD,cE,cF,cG,cH,cI,cJ,cK,cL,cM,cN,cO,cP,cQ,cS,cT,cU,cV,cW,cX,cY,cZ,dA,dB,dC,dD,dE,dF,dG,dH,dI,dJ,dK,dL,dM,dN,dO,dP,dQ,dR,dS,dT,dU,dV,dW,dX,dZ,eA] 32 k h') := by
    intro g0 g1 g2 g3 g6 g7 g8 g9 aA aC aD aE aF aG aH aI aJ aK aL aM aN aO aP aQ aR aS aT aU aV aW aX aY aZ bA bB bC bD bE bF bG bH bI bJ bK bL bM bN bO bP bQ bR bS bT bU bV bW bX bY bZ cA cB cC cD cE cF cG cH cI cJ cK cL cM cN cO cP cQ cS cT cU cV cW cX cY cZ dA dB dC dD dE dF dG dH dI dJ dK dL dM dN dO dP dQ dR dS dT dU dV dW dX dZ eA
    have hk : Kept h10.next.nat h10 (loopHeap 75 [g0,g1,g2,g3,.ptr i4 0,.ptr i5 0,g6,g7,g8,g9,aA,.ptr i11 0,aC,aD,aE,aF,aG,aH,aI,aJ,aK,aL,aM,aN,aO,aP,aQ,aR,aS,aT,aU,aV,aW,aX,aY,aZ,bA,bB,bC,bD,bE,bF,bG,bH,bI,bJ,bK,bL,bM,bN,bO,bP,bQ,bR,bS,bT,bU,bV,bW,bX,bY,bZ,cA,cB,cC,cD,cE,cF,cG,cH,cI,cJ,cK,cL,cM,cN,cO,cP,cQ,cS,cT,cU,cV,cW,cX,cY,cZ,dA,dB,dC,dD,dE,dF,dG,dH,dI,dJ,dK,dL,dM,dN,dO,dP,dQ,dR,dS,dT,dU,dV,dW,dX,dZ,eA] #[106, 107] (rngA (codeOf Tryz.f75) 0) (rngB (codeOf Tryz.f75) 0) h10) := (kept_one h10 _).alloc _
    have hR : Rnd i2 i3 i4 i5 i11 r b2 b3 (loopId h10) d x c w f S [g0,g1,g2,g3,.ptr i4 0,.ptr i5 0,g6,g7,g8,g9,aA,.ptr i11 0,aC,aD,aE,aF,aG,aH,aI,aJ,aK,aL,aM,aN,aO,aP,aQ,aR,aS,aT,aU,aV,aW,aX,aY,aZ,bA,bB,bC,bD,bE,bF,bG,bH,bI,bJ,bK,bL,bM,bN,bO,bP,bQ,bR,bS,bT,bU,bV,bW,bX,bY,bZ,cA,cB,cC,cD,cE,cF,cG,cH,cI,cJ,cK,cL,cM,cN,cO,cP,cQ,cS,cT,cU,cV,cW,cX,cY,cZ,dA,dB,dC,dD,dE,dF,dG,dH,dI,dJ,dK,dL,dM,dN,dO,dP,dQ,dR,dS,dT,dU,dV,dW,dX,dZ,eA] (loopHeap 75 [g0,g1,g2,g3,.ptr i4 0,.ptr i5 0,g6,g7,g8,g9,aA,.ptr i11 0,aC,aD,aE,aF,aG,aH,aI,aJ,aK,aL,aM,aN,aO,aP,aQ,aR,aS,aT,aU,aV,aW,aX,aY,aZ,bA,bB,bC,bD,bE,bF,bG,bH,bI,bJ,bK,bL,bM,bN,bO,bP,bQ,bR,bS,bT,bU,bV,bW,bX,bY,bZ,cA,cB,cC,cD,cE,cF,cG,cH,cI,cJ,cK,cL,cM,cN,cO,cP,cQ,cS,cT,cU,cV,cW,cX,cY,cZ,dA,dB,dC,dD,dE,dF,dG,dH,dI,dJ,dK,dL,dM,dN,dO,dP,dQ,dR,dS,dT,dU,dV,dW,dX,dZ,eA] #[106, 107] (rngA (codeOf Tryz.f75) 0) (rngB (codeOf Tryz.f75) 0) h10) := by
      refine ⟨hE10.keep hk, hS10.keep hk, ⟨hk.1 _ _ gb2 (by rw [hd]; omega), hk.1 _ _ gb3 (by rw [hd]; omega)⟩, ?_, ?_, ?_, ?_, ?_, ?_⟩
      · unfold loopHeap loopId; rw [AH.get_alloc, if_pos rfl, hd]
      · unfold loopHeap
        refine kept_alloc (by rw [← hd, AH.get_alloc, if_pos rfl]) ?_
        rw [AH.next_alloc, Id.nat_succ, hd]; omega
      all_goals (unfold loopHeap; rw [AH.next_alloc, Id.nat_succ, AH.next_alloc, Id.nat_succ, hd])
      · omega
      · omega
      · omega
      · omega
    obtain ⟨h', hY, hres⟩ := run16 (C.cy n45 ⟨nel _ (by omega), nel _ (by omega), nel _ (by omega), nel _ (by omega), nel _ (by omega), nel _ (by omega), nel _ (by omega), nel _ (by omega), by rintro e; have := congrArg Id.nat e; omega⟩ ⟨ned _ (by omega), ned _ (by omega)⟩) (portsL s ⟨cells, f, wires⟩) 0 _ hR
    exact ⟨h', C.c37 (sigChk_ports hs0) hf64 hcl hR.pg hY, hres⟩
  refine atRange_ex key ?_
  intro h11 hres
  rcases hres with ⟨ho, hR⟩ | ⟨k, ho, hT⟩
  · obtain ⟨h12, hlv, ks⟩ := leaveLoop_ex hR.gl
    rw [hlv]
    have hl4 : loopId h10 ≠ i4 := nel _ (by omega)
    have hl5 : loopId h10 ≠ i5 := nel _ (by omega)
    have hld : loopId h10 ≠ d := by rintro e; have := congrArg Id.nat e; omega
    obtain ⟨v4, g4⟩ := hR.env.g4
    obtain ⟨v5, g5⟩ := hR.env.g5
    have c4 := ks _ _ g4 hl4
    have c5 := ks _ _ g5 hl5
    have cd := ks _ _ hR.gd hld
    have s4 : hOf (aStore Tryz.prog 26 (.ptr i4 0) (.int .i64 0) h12) = some (.ret undefA, h12.set i4 (.cells [.int .i64 0] 26)) := st_ptr (n := 1) c4 (by kernel_rfl) rfl (by simp) rfl
    have c5' : (h12.set i4 (.cells [.int .i64 0] 26)).get i5 = some (.cells [v5] 3) := by rw [AH.get_set, if_neg n45.symm]; exact c5
    have s5 : hOf (aStore Tryz.prog 3 (.ptr i5 0) (.int .i64 0) (h12.set i4 (.cells [.int .i64 0] 26))) = some (.ret undefA, (h12.set i4 (.cells [.int .i64 0] 26)).set i5 (.cells [.int .i64 0] 3)) := st_ptr (n := 1) c5' (by kernel_rfl) rfl (by simp) rfl
    conv => arg 1; whnf
    refine atCall_P s4 ?_
    conv => arg 1; whnf
    refine atCall_P s5 ?_
    conv => arg 1; whnf
    refine atLeave_P (leave16d (d := d) (e := 0) (a := 0) ?_ ?_ ?_ (ned _ (by omega)) (ned _ (by omega))) (hQ' _ _ _ ?_)
    · rw [AH.get_set, if_neg n45, AH.get_set, if_pos rfl]
    · rw [AH.get_set, if_pos rfl]
    · rw [AH.get_set, if_neg (ned _ (by omega)), AH.get_set, if_neg (ned _ (by omega))]; exact cd
    · rw [hchk, ho]
  · obtain ⟨q4, q5, ql, qd⟩ := hT
    rw [leaveLoop_ret ql]
    conv => arg 1; whnf
    refine atLeave_P (leave16d (d := d) (e := 32) (a := k) ?_ ?_ ?_ (ned _ (by omega)) (ned _ (by omega))) (hQ' _ _ _ ?_)
    · rw [AH.get_set, if_neg (nel _ (by omega)).symm]; exact q4
    · rw [AH.get_set, if_neg (nel _ (by omega)).symm]; exact q5
    · rw [AH.get_set, if_neg (by rintro e; have := congrArg Id.nat e; omega)]; exact qd
    · rw [hchk, ho]
def decInt : AV → Option Int
  | .int .i64 a => some a
  | _ => none
def decWire : AV → Option Wr
  | .agg [.int .i64 a, .int .i64 b, .int .i64 c, .int .i64 d] => some (a, b, c, d)
  | _ => none
def netOf : AV → Option Nt
  | .agg [c, .int .i64 f, w] => match decL decInt intV c, decL decWire wireV w with | some cs, some ws => some ⟨cs, f, ws⟩ | _, _ => none
  | _ => none
def IsNet (v : AV) (n : Nt) : Prop := ∃ c w, v = .agg [c, .int .i64 n.free, w] ∧ IsL c (n.cells.map intV) ∧ IsL w (n.wires.map wireV)
theorem netOf_inv {v : AV} {n : Nt} (h : netOf v = some n) : IsNet v n := by
  unfold netOf at h
  split at h
  · rename_i c f w
    split at h
    · rename_i cs ws h1 h2
      simp only [Option.some.injEq] at h; subst h
      exact ⟨c, w, rfl, decL_inv h1, decL_inv h2⟩
    · cases h
  · cases h
theorem netOf_of {v : AV} {n : Nt} (h : IsNet v n) : netOf (weakV v) = some n := by
  obtain ⟨c, w, rfl, h1, h2⟩ := h
  show netOf (.agg [weakV c, .int .i64 n.free, weakV w]) = _
  simp only [netOf, decL_of (dec := decInt) (enc := intV) (fun _ => rfl) (fun _ => rfl) h1, decL_of (dec := decWire) (enc := wireV) (fun _ => rfl) (fun _ => rfl) h2]
theorem net_free {v : AV} {n : Nt} (h : IsNet v n) : freeV v = true := by
  obtain ⟨c, w, rfl, h1, h2⟩ := h
  simp only [freeV, freeL, freeL_of (enc := intV) (fun _ => rfl) h1, freeL_of (enc := wireV) (fun _ => rfl) h2, Bool.and_self]
theorem fitsA : tabFits Tryz.prog (mu0 75) tab16 (rngA (codeOf Tryz.f75) 0) = true := by kernel_rfl
theorem fitsB : tabFits Tryz.prog (mu0 75) tab16 (rngB (codeOf Tryz.f75) 0) = true := by kernel_rfl
theorem nodA : noDefs (rngA (codeOf Tryz.f75) 0) = true := by kernel_rfl
theorem fits30 : tabFits Tryz.prog (mu0 98) tab30 (codeOf Tryz.f98) = true := by kernel_rfl
theorem set16 {i4 i5 i11 : Sk.Id} {i : Int} {p : Int × Int} {g0 g1 g2 g3 g6 g7 g8 g9 aA aC aD aE aF aG aH aI aJ aK aL aM aN aO aP aQ aR aS aT aU aV aW aX aY aZ bA bB bC bD bE bF bG bH bI bJ bK bL bM bN bO bP bQ bR bS bT bU bV bW bX bY bZ cA cB cC cD cE cF cG cH cI cJ cK cL cM cN cO cP cQ cS cT cU cV cW cX cY cZ dA dB dC dD dE dF dG dH dI dJ dK dL dM dN dO dP dQ dR dS dT dU dV dW dX dZ eA : AV} : setTmps [g0,g1,g2,g3,.ptr i4 0,.ptr i5 0,g6,g7,g8,g9,aA,.ptr i11 0,aC,aD,aE,aF,aG,aH,aI,aJ,aK,aL,aM,aN,aO,aP,aQ,aR,aS,aT,aU,aV,aW,aX,aY,aZ,bA,bB,bC,bD,bE,bF,bG,bH,bI,bJ,bK,bL,bM,bN,bO,bP,bQ,bR,bS,bT,bU,bV,bW,bX,bY,bZ,cA,cB,cC,cD,cE,cF,cG,cH,cI,cJ,cK,cL,cM,cN,cO,cP,cQ,cS,cT,cU,cV,cW,cX,cY,cZ,dA,dB,dC,dD,dE,dF,dG,dH,dI,dJ,dK,dL,dM,dN,dO,dP,dQ,dR,dS,dT,dU,dV,dW,dX,dZ,eA] [106, 107] [.int .i64 i, portV p] = [g0,g1,g2,g3,.ptr i4 0,.ptr i5 0,g6,g7,g8,g9,aA,.ptr i11 0,aC,aD,aE,aF,aG,aH,aI,aJ,aK,aL,aM,aN,aO,aP,aQ,aR,aS,aT,aU,aV,aW,aX,aY,aZ,bA,bB,bC,bD,bE,bF,bG,bH,bI,bJ,bK,bL,bM,bN,bO,bP,bQ,bR,bS,bT,bU,bV,bW,bX,bY,bZ,cA,cB,cC,cD,cE,cF,cG,cH,cI,cJ,cK,cL,cM,cN,cO,cP,cQ,cS,cT,cU,cV,cW,cX,cY,cZ,dA,dB,dC,dD,dE,dF,dG,dH,dI,dJ,dK,dL,dM,dN,dO,dP,dQ,dR,dS,.int .i64 i,portV p,dV,dW,dX,dZ,eA] := by
  simp only [setTmps]
  rfl
theorem h31_of {hk : Hooks} {n : Nat} (hk31' : ∀ args h, hk 99 args h = hk31 99 args h) (hn : 0 < n) : h31 (evCall (mkEv Tryz.prog mu0 hk) n) := fun x s a h hx => ev_hk (by
  rw [hk31']
  refine hk_top (by simp [freeL, freeV, sig_free hx]) ?_
  show (match sigOf (weakV x) with | some s => some (AV.int .i64 (portsN s a)) | none => none) = _
  rw [sigOf_of hx]) hn
theorem c16 {m : Nat} (hm : 5000 < m) (x c w : AV) (s : List Ag) (nt : Nt) (hx : IsSig x s) (hc : IsL c (nt.cells.map intV)) (hw : IsL w (nt.wires.map wireV)) :
    C16 (evCall (mkEv Tryz.prog mu0 hk14) (m + 1)) (evCall (mkEv Tryz.prog mu0 hk14) m) x c w s nt where
  c14 := fun h => ev_hk (by
    refine hk_top (by simp [freeL, sig_free hx]) ?_
    show (match sigOf (weakV x) with | some s => some (AV.tup [.int .i64 (sigChk s).1, .int .i64 (sigChk s).2]) | none => none) = _
    rw [sigOf_of hx]) (by omega)
  c30 := fun p h E => ev_of_cBodyS tab30 rfl Tryz.func98 rfl fits30 (b30 (evCall (mkEv Tryz.prog mu0 hk14) m) (rg Tryz.prog mu0 hk14 m 98) m _ _ x c w s nt.cells nt.free p h hx hc E.g2 E.g3 E.l2 E.l3 (h31_of (fun _ _ => rfl) (by omega)))
  c32 := fun h => ev_of_cBodyS shT rfl Tryz.func100 rfl (by kernel_rfl) (b32 (evCall (mkEv Tryz.prog mu0 hk14) m) (rg Tryz.prog mu0 hk14 m 100) m x c w nt.free h (isL_scalar hx) (isL_scalar hc) (isL_scalar hw))
  c37 := fun {l b2 b3 h h'} hP hf hcl hG hY => ev_of_cBodyS shT rfl Tryz.func116 rfl (by kernel_rfl)
    (b37 (evCall (mkEv Tryz.prog mu0 hk14) m) (rg Tryz.prog mu0 hk14 m 116) m l b2 b3 x c w nt.free s nt.cells hx hc hP (by omega) (by omega) (by omega) (by omega) (by omega) (h31_of (fun _ _ => rfl) (by omega)) h h' hG hY)
  cy := by
    intro i2 i3 i4 i5 i11 r b2 b3 l d S g0 g1 g2 g3 g6 g7 g8 g9 aA aC aD aE aF aG aH aI aJ aK aL aM aN aO aP aQ aR aS aT aU aV aW aX aY aZ bA bB bC bD bE bF bG bH bI bJ bK bL bM bN bO bP bQ bR bS bT bU bV bW bX bY bZ cA cB cC cD cE cF cG cH cI cJ cK cL cM cN cO cP cQ cS cT cU cV cW cX cY cZ dA dB dC dD dE dF dG dH dI dJ dK dL dM dN dO dP dQ dR dS dT dU dV dW dX dZ eA n45 nl nd p i h hR
    obtain ⟨k, rfl⟩ : ∃ k, m = k + 1 := ⟨m - 1, by omega⟩
    obtain ⟨y1, y2⟩ := y16 (evCall (mkEv Tryz.prog mu0 hk14) k) (rg Tryz.prog mu0 hk14 k 75) k S p i h _ (g0 := g0) (g1 := g1) (g2 := g2) (g3 := g3) (g6 := g6) (g7 := g7) (g8 := g8) (g9 := g9) (aA := aA) (aC := aC) (aD := aD) (aE := aE) (aF := aF) (aG := aG) (aH := aH) (aI := aI) (aJ := aJ) (aK := aK) (aL := aL) (aM := aM) (aN := aN) (aO := aO) (aP := aP) (aQ := aQ) (aR := aR) (aS := aS) (aT := aT) (aU := aU) (aV := aV) (aW := aW) (aX := aX) (aY := aY) (aZ := aZ) (bA := bA) (bB := bB) (bC := bC) (bD := bD) (bE := bE) (bF := bF) (bG := bG) (bH := bH) (bI := bI) (bJ := bJ) (bK := bK) (bL := bL) (bM := bM) (bN := bN) (bO := bO) (bP := bP) (bQ := bQ) (bR := bR) (bS := bS) (bT := bT) (bU := bU) (bV := bV) (bW := bW) (bX := bX) (bY := bY) (bZ := bZ) (cA := cA) (cB := cB) (cC := cC) (cD := cD) (cE := cE) (cF := cF) (cG := cG) (cH := cH) (cI := cI) (cJ := cJ) (cK := cK) (cL := cL) (cM := cM) (cN := cN) (cO := cO) (cP := cP) (cQ := cQ) (cS := cS) (cT := cT) (cU := cU) (cV := cV) (cW := cW) (cX := cX) (cY := cY) (cZ := cZ) (dA := dA) (dB := dB) (dC := dC) (dD := dD) (dE := dE) (dF := dF) (dG := dG) (dH := dH) (dI := dI) (dJ := dJ) (dK := dK) (dL := dL) (dM := dM) (dN := dN) (dO := dO) (dP := dP) (dQ := dQ) (dR := dR) (dS := dS) (dV := dV) (dW := dW) (dX := dX) (dZ := dZ) (eA := eA) (i4 := i4) (i5 := i5) (i11 := i11) hR n45 nl nd
    refine ⟨fun hS => ?_, fun hS => ?_⟩
    · obtain ⟨h', h1, h2⟩ := y1 hS
      exact ⟨h', ev_yield tab16 hR.gl rfl fitsA fitsB nodA set16 h1, h2⟩
    · obtain ⟨h', h1, h2⟩ := y2 hS
      exact ⟨h', ev_yield tab16 hR.gl rfl fitsA fitsB nodA set16 h1, h2⟩
def s16 : List AV → Option AV
  | [x, v] => match sigOf x, netOf v with
    | some s, some n => if n.wires.length ≤ 1000000000 then some (.tup [.int .i64 (netChk s n).1, .int .i64 (netChk s n).2]) else none
    | _, _ => none
  | _ => none
def hk16 := addHk hk14 75 s16
theorem E16 : EvOK (mkEv Tryz.prog mu0 hk16) := mkEv_add E14 fun args v hs => by
  unfold s16 at hs; split at hs
  · rename_i x v'
    split at hs
    · rename_i s n h1 h2
      split at hs
      · rename_i hl
        cases hs
        obtain ⟨c, w, rfl, h3, h4⟩ := netOf_inv h2
        obtain ⟨h', hb⟩ := b16 (evCall (mkEv Tryz.prog mu0 hk14) (n.wires.length + 5001 + 1)) (evCall (mkEv Tryz.prog mu0 hk14) (n.wires.length + 5001)) (rg Tryz.prog mu0 hk14 (n.wires.length + 5001 + 1) 75) (n.wires.length + 5001 + 1) x c w s n (decL_inv h1) h3 h4 (c16 (by omega) x c w s n (decL_inv h1) h3 h4) hl (by omega) (by omega) .empty
        exact ⟨rfl, ev_ofS tab16 rfl Tryz.func75 rfl fits16 hb⟩
      · cases hs
    · cases hs
  · cases hs
def before (p q : Int × Int) : Bool := decide (p.1 < q.1) || ((p.1 == q.1) && decide (p.2 < q.2))
theorem b35 (call rgn n) (x y : AV) (p q : Int × Int) (hx : x = portV p) (hy : y = portV q) (h : AH) : ∃ h', B shT call rgn n 106 Tryz.f106 [x, y] h = some (.ret (.bool (before p q)), h') := by
  obtain ⟨a, b⟩ := p
  obtain ⟨c, d⟩ := q
  suffices hq : (fun y : Option (AOut × AH) => ∃ h', y = some (.ret (.bool (before (a, b) (c, d))), h')) (B shT call rgn n 106 Tryz.f106 [x, y] h) from hq
  generalize hQ : (fun y : Option (AOut × AH) => ∃ h', y = some (.ret (.bool (before (a, b) (c, d))), h')) = Q
  have hQ' : ∀ e h', before (a, b) (c, d) = e → Q (some (.ret (.bool e), h')) := fun e h' he => by rw [← hQ, he]; exact ⟨h', rfl⟩
  clear hQ
  conv => arg 1; whnf
  refine atCall_P (box_new (cs := [.int .i64 a, .int .i64 b]) (by rw [hx]; rfl) rfl) ?_
  conv => arg 1; whnf
  refine atCall_P (box_new (cs := [.int .i64 c, .int .i64 d]) (by rw [hy]; rfl) rfl) ?_
  generalize hi2 : h.next = i2
  generalize hh1 : h.alloc (.cells [.int .i64 a, .int .i64 b] 44) = h1
  have n1 : h1.next.nat = i2.nat + 1 := by rw [← hh1, AH.next_alloc, Id.nat_succ, hi2]
  have a2 : h1.get i2 = some (.cells [.int .i64 a, .int .i64 b] 44) := by rw [← hh1, ← hi2, AH.get_alloc, if_pos rfl]
  generalize hi3 : h1.next = i3 at n1
  generalize hh2 : h1.alloc (.cells [.int .i64 c, .int .i64 d] 44) = h2
  have a3 : h2.get i3 = some (.cells [.int .i64 c, .int .i64 d] 44) := by rw [← hh2, ← hi3, AH.get_alloc, if_pos rfl]
  have a2 : h2.get i2 = some (.cells [.int .i64 a, .int .i64 b] 44) := by rw [← hh2]; exact kept_alloc a2 (by rw [hi3]; omega)
  clear hh1 hh2 hi2 hi3 n1
  have la : vOf h2 (aLoad Tryz.prog 3 (.ptr i2 0) h2) = some (.ret (.int .i64 a), h2) := ld_ptr (n := 1) a2 (by kernel_rfl) (by kernel_rfl) rfl
  have lb : vOf h2 (aLoad Tryz.prog 3 (.ptr i2 1) h2) = some (.ret (.int .i64 b), h2) := ld_ptr (n := 1) a2 (by kernel_rfl) (by kernel_rfl) rfl
  have lc : vOf h2 (aLoad Tryz.prog 3 (.ptr i3 0) h2) = some (.ret (.int .i64 c), h2) := ld_ptr (n := 1) a3 (by kernel_rfl) (by kernel_rfl) rfl
  have ld : vOf h2 (aLoad Tryz.prog 3 (.ptr i3 1) h2) = some (.ret (.int .i64 d), h2) := ld_ptr (n := 1) a3 (by kernel_rfl) (by kernel_rfl) rfl
  conv => arg 1; whnf
  refine atCall_P la ?_
  conv => arg 1; whnf
  refine atCall_P lc ?_
  conv => arg 1; whnf
  cases e1 : decide (a < c)
  · conv => arg 1; whnf
    refine atCall_P la ?_
    conv => arg 1; whnf
    refine atCall_P lc ?_
    conv => arg 1; whnf
    cases e2 : (a == c)
    · conv => arg 1; whnf
      refine atLeave_P (leave_plain (.inl rfl) rfl) (hQ' _ _ ?_)
      simp only [before, e1, e2, Bool.false_and, Bool.or_false]
    · conv => arg 1; whnf
      refine atCall_P lb ?_
      conv => arg 1; whnf
      refine atCall_P ld ?_
      conv => arg 1; whnf
      refine atLeave_P (leave_plain (.inl rfl) rfl) (hQ' _ _ ?_)
      simp only [before, e1, e2, Bool.true_and, Bool.false_or]
  · conv => arg 1; whnf
    refine atLeave_P (leave_plain (.inl rfl) rfl) (hQ' _ _ ?_)
    simp only [before, e1, Bool.true_or]
def h16 (call : CallT) : Prop := ∀ x v s n h, IsSig x s → IsNet v n → n.wires.length ≤ 1000000000 → call (.func 75) [x, v] h = some (.ret (.tup [.int .i64 (netChk s n).1, .int .i64 (netChk s n).2]), h)
theorem b25 (call rgn n) (x v : AV) (s : List Ag) (nt : Nt) (hx : IsSig x s) (hv : IsNet v nt) (hl : nt.wires.length ≤ 1000000000) (h16 : h16 call) (h : AH) :
    ∃ h', B shT call rgn n 78 Tryz.f78 [x, v] h = some (.ret (.int .i64 (netChk s nt).1), h') := by
  obtain ⟨c, w, rfl, hc, hw⟩ := hv
  have hcs := isL_scalar hc
  have hws := isL_scalar hw
  suffices hq : (fun y : Option (AOut × AH) => ∃ h', y = some (.ret (.int .i64 (netChk s nt).1), h')) (B shT call rgn n 78 Tryz.f78 [x, .agg [c, .int .i64 nt.free, w]] h) from hq
  generalize hQ : (fun y : Option (AOut × AH) => ∃ h', y = some (.ret (.int .i64 (netChk s nt).1), h')) = Q
  have hQ' : ∀ h', Q (some (.ret (.int .i64 (netChk s nt).1), h')) := fun h' => by rw [← hQ]; exact ⟨h', rfl⟩
  clear hQ
  conv => arg 1; whnf
  refine atCall_P (box_new (cs := [c, .int .i64 nt.free, w]) rfl (by simp only [List.all_cons, hcs, hws, List.all_nil]; rfl)) ?_
  have g : (h.alloc (.cells [c, .int .i64 nt.free, w] 49)).get h.next = some (.cells [c, .int .i64 nt.free, w] 49) := by rw [AH.get_alloc, if_pos rfl]
  generalize h.alloc (.cells [c, .int .i64 nt.free, w] 49) = h1 at g ⊢
  generalize h.next = q at g ⊢
  have ln : vOf h1 (aLoad Tryz.prog 49 (.ptr q 0) h1) = some (.ret (.agg [c, .int .i64 nt.free, w]), h1) := ld_agg (n := 3) g (by kernel_rfl) (by kernel_rfl) (by simp)
  conv => arg 1; whnf
  refine atCall_P ln ?_
  conv => arg 1; whnf
  refine atCall_P (h16 x _ s nt h1 hx ⟨c, w, rfl, hc, hw⟩ hl) ?_
  conv => arg 1; whnf
  exact atLeave_P (leave_plain (.inl rfl) rfl) (hQ' _)
def decPort : AV → Option (Int × Int)
  | .agg [.int .i64 a, .int .i64 b] => some (a, b)
  | _ => none
theorem decPort_inv {v : AV} {p : Int × Int} (h : decPort v = some p) : v = portV p := by
  unfold decPort at h
  split at h
  · simp only [Option.some.injEq] at h; subst h; rfl
  · cases h
def s35 : List AV → Option AV
  | [a, b] => match decPort a, decPort b with | some p, some q => some (.bool (before p q)) | _, _ => none
  | _ => none
def s25 : List AV → Option AV
  | [x, v] => match sigOf x, netOf v with
    | some s, some n => if n.wires.length ≤ 1000000000 then some (.int .i64 (netChk s n).1) else none
    | _, _ => none
  | _ => none
def hk35 := addHk hk16 106 s35
def hk25 := addHk hk35 78 s25
theorem E35 : EvOK (mkEv Tryz.prog mu0 hk35) := mkEv_add E16 fun args v hs => by
  unfold s35 at hs; split at hs
  · split at hs
    · rename_i p q h1 h2
      cases hs
      obtain ⟨h', hb⟩ := b35 (evCall (mkEv Tryz.prog mu0 hk16) 1) (rg Tryz.prog mu0 hk16 1 106) 1 _ _ p q (decPort_inv h1) (decPort_inv h2) .empty
      exact ⟨rfl, ev_ofS shT rfl Tryz.func106 rfl (by kernel_rfl) hb⟩
    · cases hs
  · cases hs
theorem h16_of {hk : Hooks} {n : Nat} (hk16' : ∀ args h, hk 75 args h = hk16 75 args h) (hn : 0 < n) : h16 (evCall (mkEv Tryz.prog mu0 hk) n) := fun x v s nt h hx hv hl => ev_hk (by
  rw [hk16']
  refine hk_top (by simp [freeL, sig_free hx, net_free hv]) ?_
  show (match sigOf (weakV x), netOf (weakV v) with
    | some s, some n => if n.wires.length ≤ 1000000000 then some (AV.tup [.int .i64 (netChk s n).1, .int .i64 (netChk s n).2]) else none
    | _, _ => none) = _
  rw [sigOf_of hx, netOf_of hv]; simp only [if_pos hl]) hn
theorem E25 : EvOK (mkEv Tryz.prog mu0 hk25) := mkEv_add E35 fun args v hs => by
  unfold s25 at hs; split at hs
  · rename_i x v'
    split at hs
    · rename_i s n h1 h2
      split at hs
      · rename_i hl
        cases hs
        obtain ⟨h', hb⟩ := b25 (evCall (mkEv Tryz.prog mu0 hk35) 1) (rg Tryz.prog mu0 hk35 1 78) 1 x v' s n (decL_inv h1) (netOf_inv h2) hl (h16_of (fun _ _ => rfl) (by omega)) .empty
        exact ⟨rfl, ev_ofS shT rfl Tryz.func78 rfl (by kernel_rfl) hb⟩
      · cases hs
    · cases hs
  · cases hs
theorem grow_alloc {h : AH} {l : AV} {xs : List AV} (hg : Grow h l xs) (o : AO) : Grow (h.alloc o) l xs := by
  rcases hg with h1 | ⟨g, e1, e2, e3, e4⟩
  · exact .inl h1
  · refine .inr ⟨g, e1, e2, kept_alloc e3 e4, ?_⟩
    rw [AH.next_alloc, Id.nat_succ]; omega
def NotGrp (h : AH) (q : Sk.Id) : Prop := ∀ n, h.get q ≠ some (.grp n)
theorem grow_set {h : AH} {l : AV} {xs : List AV} (hg : Grow h l xs) {q : Sk.Id} (o : AO) (hq : NotGrp h q) : Grow (h.set q o) l xs := by
  rcases hg with h1 | ⟨g, e1, e2, e3, e4⟩
  · exact .inl h1
  · refine .inr ⟨g, e1, e2, ?_, by rw [AH.next_set]; exact e4⟩
    rw [AH.get_set, if_neg (by rintro rfl; exact hq _ e3)]; exact e3
theorem grow_own {h : AH} {l : AV} {xs : List AV} (hg : Grow h l xs) {q : Sk.Id} (hq : NotGrp h q) : ownOf l ≠ some q := by
  rcases hg with ⟨rfl, _⟩ | ⟨g, rfl, e2, e3, e4⟩
  · simp [ownOf]
  · simp only [ownOf, ne_eq, Option.some.injEq]; rintro rfl; exact hq _ e3
theorem grow_isL {h : AH} {l : AV} {xs : List AV} (hg : Grow h l xs) : IsL l xs := by
  rcases hg with ⟨rfl, rfl⟩ | ⟨g, rfl, _⟩
  · exact .inl ⟨rfl, rfl⟩
  · exact .inr ⟨_, rfl⟩
theorem wires_append {call : CallT} {W : List Wr} {t : Wr} {h : AH} {l : AV} {c : Cap} (hl : Grow h l (W.map wireV)) (hb : W.length ≤ 1000000000) :
    ∃ l' h', aBuiltin ⟨Tryz.prog, mu0, call⟩ false .append #[47, 47] [l, .vsl [wireV t] c] h = some (.ret l', h') ∧ Grow h' l' ((W ++ [t]).map wireV) ∧ h.next.nat ≤ h'.next.nat ∧ (∀ q o, h.get q = some o → NotGrp h q → q.nat < h.next.nat → h'.get q = some o) := by
  have hhw : headOk 4 (W.map wireV) = true := by cases W <;> rfl
  obtain ⟨l', h', h1, h2, h3, h4⟩ := append_grow (P := Tryz.prog) (types := #[47, 47]) (t := 47) (tx := 47) (elem := 46) (d := .slice 46) (n := 4) (z := .agg [.int .i64 0, .int .i64 0, .int .i64 0, .int .i64 0]) (x := .vsl [wireV t] c) (ys := [wireV t]) rfl rfl (by kernel_rfl) (by kernel_rfl)
    (by intro k h; cases h) rfl (by kernel_rfl) (by kernel_rfl) (by omega) rfl rfl (by simp) rfl hhw hl
    (by rw [show Tryz.prog.bytesOf 46 = 32 by kernel_rfl]; simp; omega) (by simp; omega)
  refine ⟨l', h', ?_, by rw [List.map_append]; exact h2, h3, fun q o hq hn hlt => h4 q o hq (grow_own hl hn) hlt⟩
  show vhOf (aAppend Tryz.prog false #[47, 47] _ _ h) = _
  rw [h1]; rfl
section
variable {n0 : Nat} {gg : AH} {i7 i8 i9 r b2 b3 l d : Sk.Id} {x c : AV} {f : Int}
def KeptC (n0 : Nat) (g : AH) (h : AH) : Prop := (∀ q o, g.get q = some o → (∀ n, o ≠ .grp n) → q.nat < n0 → h.get q = some o) ∧ n0 ≤ h.next.nat
theorem KeptC.alloc {n0 : Nat} {g h : AH} (hk : KeptC n0 g h) (o : AO) : KeptC n0 g (h.alloc o) :=
  ⟨fun q o' hq hn hlt => kept_alloc (hk.1 q o' hq hn hlt) (Nat.lt_of_lt_of_le hlt hk.2), by rw [AH.next_alloc, Id.nat_succ]; have := hk.2; omega⟩
theorem KeptC.set {n0 : Nat} {g h : AH} (hk : KeptC n0 g h) {r : Sk.Id} (o : AO) (hr : n0 ≤ r.nat) : KeptC n0 g (h.set r o) :=
  ⟨fun q o' hq hn hlt => by rw [AH.get_set, if_neg (by rintro rfl; omega)]; exact hk.1 q o' hq hn hlt, by rw [AH.next_set]; exact hk.2⟩
structure Rnd26 (n0 : Nat) (g0 : AH) (i7 i8 i9 r b2 b3 l d : Sk.Id) (x c : AV) (f : Int) (N : Int × Int → Option (Int × Int)) (tm : List AV) (W : List Wr) (h : AH) : Prop where
  kp : KeptC n0 g0 h
  g7 : h.get i7 = some (.cells [.map r] 141)
  g8 : ∃ cs, h.get i8 = some (.cells cs 49) ∧ cs.length = 3
  g9 : ∃ wl, h.get i9 = some (.cells [c, .int .i64 f, wl] 49) ∧ Grow h wl (W.map wireV)
  gm : MapAt h r fun p => (N p).map portV
  pg : PortsG b2 b3 x c .nilsl f h
  gl : h.get l = some (.loop .ready none 79 tm #[21, 22] (rngA (codeOf Tryz.f79) 0) (rngB (codeOf Tryz.f79) 0) d)
  gd : h.get d = some (.defs true)
  lr : l.nat < h.next.nat
def valN (N : Int × Int → Option (Int × Int)) (p : Int × Int) : Int × Int := (N p).getD (0, 0)
def addW (N : Int × Int → Option (Int × Int)) (W : List Wr) (p : Int × Int) : List Wr := if before p (valN N p) then W ++ [(p.1, p.2, (valN N p).1, (valN N p).2)] else W
def h35 (call : CallT) : Prop := ∀ a b p q h, a = portV p → b = portV q → call (.func 106) [a, b] h = some (.ret (.bool (before p q)), h)
theorem y26 (call rgn n) (N : Int × Int → Option (Int × Int)) (W : List Wr) (hWl : W.length ≤ 100000000) (p : Int × Int) (pv : AV) (hpv : pv = portV p) (i : AV) (h : AH) (tm0 : List AV) (h35 : h35 call) {g0 g1 g2 g3 g4 g5 g6 g8 aA aB aC aD aE aF aG aH aI aJ aK aN aO aP aQ aR aS aT aU aV aW aX aY aZ bA bB : AV} (hR : Rnd26 n0 gg i7 i8 i9 r b2 b3 l d x c f N tm0 W h)
    (o0 : n0 ≤ i7.nat) (o1 : r.nat < i7.nat) (o2 : i7.nat < i8.nat) (o3 : i8.nat < i9.nat) (o4 : i9.nat < b2.nat) (o5 : b2.nat < b3.nat) (o6 : b3.nat < d.nat) (o7 : d.nat < l.nat) :
    ∃ h', cR Tryz.prog mu0 call rgn shT n l 79 (rngA (codeOf Tryz.f79) 0) (rngB (codeOf Tryz.f79) 0) [g0,g1,g2,g3,g4,g5,g6,.ptr i7 0,g8,.ptr i9 0,aA,aB,aC,aD,aE,aF,aG,aH,aI,aJ,aK,i,pv,aN,aO,aP,aQ,aR,aS,aT,aU,aV,aW,aX,aY,aZ,bA,bB] h = some (.ret (.bool true), h') ∧ Rnd26 n0 gg i7 i8 i9 r b2 b3 l d x c f N tm0 (addW N W p) h' := by
  have um : Tryz.prog.underlying 141 = some (.map 44 44) := by kernel_rfl
  suffices hq : ∀ Q : Option (AOut × AH) → Prop, (∀ h', Rnd26 n0 gg i7 i8 i9 r b2 b3 l d x c f N tm0 (addW N W p) h' → Q (some (.ret (.bool true), h'))) → Q (cR Tryz.prog mu0 call rgn shT n l 79 (rngA (codeOf Tryz.f79) 0) (rngB (codeOf Tryz.f79) 0) [g0,g1,g2,g3,g4,g5,g6,.ptr i7 0,g8,.ptr i9 0,aA,aB,aC,aD,aE,aF,aG,aH,aI,aJ,aK,i,pv,aN,aO,aP,aQ,aR,aS,aT,aU,aV,aW,aX,aY,aZ,bA,bB] h) from
    hq (fun y => ∃ h', y = some (.ret (.bool true), h') ∧ Rnd26 n0 gg i7 i8 i9 r b2 b3 l d x c f N tm0 (addW N W p) h') fun h' h1 => ⟨h', rfl, h1⟩
  intro Q hT
  conv => arg 1; whnf
  refine atCall_P (alloc_new (z := .agg [.int .i64 0, .int .i64 0]) (cs := [.int .i64 0, .int .i64 0]) (by kernel_rfl) rfl rfl) ?_
  conv => arg 1; whnf
  have hst := st_new (h := h) (cs0 := [.int .i64 0, .int .i64 0]) (v := pv) (cs := [.int .i64 p.1, .int .i64 p.2]) (T := 44) (n := 2) (P := Tryz.prog) (by kernel_rfl) (by rw [hpv]; rfl) rfl rfl rfl
  refine atCall_P hst ?_
  obtain ⟨hget, hnx, hkeep⟩ := new_obj h [.int .i64 0, .int .i64 0] [.int .i64 p.1, .int .i64 p.2] 44
  obtain ⟨cs8, g8, l8⟩ := hR.g8
  obtain ⟨wl, g9, gw⟩ := hR.g9
  obtain ⟨Lm, ck, gmr, gmv⟩ := hR.gm
  have lr := hR.lr
  have kp := hR.kp
  have kp2 := (kp.alloc (.cells [.int .i64 0, .int .i64 0] 44)).set (r := h.next) (.cells [.int .i64 p.1, .int .i64 p.2] 44) kp.2
  have hqn0 := kp.2
  have hk2 : Kept h.next.nat h ((h.alloc (.cells [.int .i64 0, .int .i64 0] 44)).set h.next (.cells [.int .i64 p.1, .int .i64 p.2] 44)) := ((Kept.refl h).alloc _).set _ (Nat.le_refl _)
  have ngp : NotGrp (h.alloc (.cells [.int .i64 0, .int .i64 0] 44)) h.next := fun n => by rw [AH.get_alloc, if_pos rfl]; simp
  have gw2 := grow_set (grow_alloc gw (.cells [.int .i64 0, .int .i64 0] 44)) (.cells [.int .i64 p.1, .int .i64 p.2] 44) ngp
  generalize ((h.alloc (.cells [.int .i64 0, .int .i64 0] 44)).set h.next (.cells [.int .i64 p.1, .int .i64 p.2] 44)) = h2 at hget hnx hk2 gw2 kp2 ⊢
  have a7 := hk2.1 _ _ hR.g7 (by omega)
  have a8 := hk2.1 _ _ g8 (by omega)
  have a9 := hk2.1 _ _ g9 (by omega)
  have ar := hk2.1 _ _ gmr (by omega)
  have ab2 := hk2.1 _ _ hR.pg.g2 (by omega)
  have ab3 := hk2.1 _ _ hR.pg.g3 (by omega)
  have al := hk2.1 _ _ hR.gl (by omega)
  have ad := hk2.1 _ _ hR.gd (by omega)
  have hql : l.nat < h.next.nat := lr
  clear hst hkeep hk2 ngp gw hR g8 g9 gmr kp
  generalize h.next = q at hget hnx hql hqn0 ⊢
  conv => arg 1; whnf
  refine atBusy_P (setLoop (st' := .busy) (pd' := none) al rfl) ?_
  have ngl : NotGrp h2 l := fun n => by rw [al]; simp
  have gw3 := grow_set gw2 (.loop .busy none 79 tm0 #[21, 22] (rngA (codeOf Tryz.f79) 0) (rngB (codeOf Tryz.f79) 0) d) ngl
  have k3 : ∀ q' o, h2.get q' = some o → q'.nat ≠ l.nat → (h2.set l (.loop .busy none 79 tm0 #[21, 22] (rngA (codeOf Tryz.f79) 0) (rngB (codeOf Tryz.f79) 0) d)).get q' = some o := fun q' o hq hne => by rw [AH.get_set, if_neg (by rintro rfl; exact hne rfl)]; exact hq
  have bl : (h2.set l (.loop .busy none 79 tm0 #[21, 22] (rngA (codeOf Tryz.f79) 0) (rngB (codeOf Tryz.f79) 0) d)).get l = some (.loop .busy none 79 tm0 #[21, 22] (rngA (codeOf Tryz.f79) 0) (rngB (codeOf Tryz.f79) 0) d) := by rw [AH.get_set, if_pos rfl]
  have kp3 := kp2.set (r := l) (.loop .busy none 79 tm0 #[21, 22] (rngA (codeOf Tryz.f79) 0) (rngB (codeOf Tryz.f79) 0) d) (by omega)
  have n3 : (h2.set l (.loop .busy none 79 tm0 #[21, 22] (rngA (codeOf Tryz.f79) 0) (rngB (codeOf Tryz.f79) 0) d)).next = h2.next := rfl
  generalize (h2.set l (.loop .busy none 79 tm0 #[21, 22] (rngA (codeOf Tryz.f79) 0) (rngB (codeOf Tryz.f79) 0) d)) = h3 at gw3 k3 bl n3 kp3 ⊢
  have b7 := k3 _ _ a7 (by omega)
  have b8 := k3 _ _ a8 (by omega)
  have b9 := k3 _ _ a9 (by omega)
  have br := k3 _ _ ar (by omega)
  have bb2 := k3 _ _ ab2 (by omega)
  have bb3 := k3 _ _ ab3 (by omega)
  have bd := k3 _ _ ad (by omega)
  have bq := k3 _ _ hget (by omega)
  clear gw2 k3 a7 a8 a9 ar ab2 ab3 al ad hget ngl
  have hn3 : q.nat + 1 = h3.next.nat := by rw [n3]; exact hnx
  clear hnx n3
  have lm : vOf h3 (aLoad Tryz.prog 141 (.ptr i7 0) h3) = some (.ret (.map r), h3) := ld_ptr (n := 1) b7 (by kernel_rfl) (by kernel_rfl) rfl
  have lp : vOf h3 (aLoad Tryz.prog 44 (.ptr q 0) h3) = some (.ret (portV p), h3) := ld_agg (n := 2) bq (by kernel_rfl) (by kernel_rfl) (by simp)
  have lk := lookup_M (h := h3) um (z := portV (0, 0)) (by kernel_rfl) ⟨Lm, ck, br, gmv⟩ p
  have hval : ((N p).map portV).getD (portV (0, 0)) = portV (valN N p) := by unfold valN; cases N p <;> rfl
  rw [hval] at lk
  generalize hvq : valN N p = vq at lk
  conv => arg 1; whnf
  refine atCall_P lm ?_
  conv => arg 1; whnf
  refine atCall_P lp ?_
  conv => arg 1; whnf
  refine atCall_P lk ?_
  generalize hpp : portV p = pp
  generalize hqq : portV vq = qq
  conv => arg 1; whnf
  refine atCall_P (alloc_new (z := .agg [.int .i64 0, .int .i64 0]) (cs := [.int .i64 0, .int .i64 0]) (by kernel_rfl) rfl rfl) ?_
  have hst := st_new (h := h3) (cs0 := [.int .i64 0, .int .i64 0]) (v := qq) (cs := [.int .i64 vq.1, .int .i64 vq.2]) (T := 44) (n := 2) (P := Tryz.prog) (by kernel_rfl) (by rw [← hqq]; rfl) rfl rfl rfl
  refine atCall_P hst ?_
  obtain ⟨hget, hnx, hkeep⟩ := new_obj h3 [.int .i64 0, .int .i64 0] [.int .i64 vq.1, .int .i64 vq.2] 44
  have hk2 : Kept h3.next.nat h3 ((h3.alloc (.cells [.int .i64 0, .int .i64 0] 44)).set h3.next (.cells [.int .i64 vq.1, .int .i64 vq.2] 44)) := ((Kept.refl h3).alloc _).set _ (Nat.le_refl _)
  have ngp : NotGrp (h3.alloc (.cells [.int .i64 0, .int .i64 0] 44)) h3.next := fun n => by rw [AH.get_alloc, if_pos rfl]; simp
  have kp4 := (kp3.alloc (.cells [.int .i64 0, .int .i64 0] 44)).set (r := h3.next) (.cells [.int .i64 vq.1, .int .i64 vq.2] 44) kp3.2
  have gw4 := grow_set (grow_alloc gw3 (.cells [.int .i64 0, .int .i64 0] 44)) (.cells [.int .i64 vq.1, .int .i64 vq.2] 44) ngp
  generalize ((h3.alloc (.cells [.int .i64 0, .int .i64 0] 44)).set h3.next (.cells [.int .i64 vq.1, .int .i64 vq.2] 44)) = h4 at hget hnx hk2 gw4 kp4 ⊢
  have c7 := hk2.1 _ _ b7 (by omega)
  have c8 := hk2.1 _ _ b8 (by omega)
  have c9 := hk2.1 _ _ b9 (by omega)
  have cr := hk2.1 _ _ br (by omega)
  have cb2 := hk2.1 _ _ bb2 (by omega)
  have cb3 := hk2.1 _ _ bb3 (by omega)
  have cd := hk2.1 _ _ bd (by omega)
  have cl := hk2.1 _ _ bl (by omega)
  have cq := hk2.1 _ _ bq (by omega)
  clear hst hkeep hk2 ngp gw3 b7 b8 b9 br bb2 bb3 bd bl bq lm lp lk
  generalize hq2 : h3.next = q2 at hget hnx hn3 ⊢
  clear hq2
  have lp : vOf h4 (aLoad Tryz.prog 44 (.ptr q 0) h4) = some (.ret pp, h4) := by rw [← hpp]; exact ld_agg (n := 2) cq (by kernel_rfl) (by kernel_rfl) (by simp)
  have lq : vOf h4 (aLoad Tryz.prog 44 (.ptr q2 0) h4) = some (.ret qq, h4) := by rw [← hqq]; exact ld_agg (n := 2) hget (by kernel_rfl) (by kernel_rfl) (by simp)
  have lw : vOf h4 (aLoad Tryz.prog 47 (.ptr i9 2) h4) = some (.ret wl, h4) := ld_ptr (n := 1) c9 (by kernel_rfl) (by kernel_rfl) rfl
  -- the end of a round
  have done : ∀ (h5 : AH) (wl' : AV) (W' : List Wr), KeptC n0 gg h5 → addW N W p = W' → h5.get i7 = some (.cells [.map r] 141) → (∃ cs, h5.get i8 = some (.cells cs 49) ∧ cs.length = 3) → h5.get i9 = some (.cells [c, .int .i64 f, wl'] 49) → Grow h5 wl' (W'.map wireV) → h5.get r = some (.map (Lm.map entV) ck) → h5.get b2 = some (.cells [x] 22) → h5.get b3 = some (.cells [c, .int .i64 f, .nilsl] 49) →
      h5.get d = some (.defs true) → h5.get l = some (.loop .busy none 79 tm0 #[21, 22] (rngA (codeOf Tryz.f79) 0) (rngB (codeOf Tryz.f79) 0) d) → l.nat < h5.next.nat → ∀ {tm : List AV}, Q (atRound l .normal ⟨tm, [], h5⟩) := by
    intro h5 wl' W' ek hW e7 e8 e9 eg er eb2 eb3 ed el en tm
    refine atRound_P (y := some (.ret (.bool true), h5.set l (.loop .ready none 79 tm0 #[21, 22] (rngA (codeOf Tryz.f79) 0) (rngB (codeOf Tryz.f79) 0) d))) ?_ ?_
    · simp only [endRoundA]
      rw [setLoop (st' := .ready) (pd' := none) el rfl]
    · have k : ∀ q' o, h5.get q' = some o → q'.nat ≠ l.nat → (h5.set l (.loop .ready none 79 tm0 #[21, 22] (rngA (codeOf Tryz.f79) 0) (rngB (codeOf Tryz.f79) 0) d)).get q' = some o := fun q' o hq hne => by rw [AH.get_set, if_neg (by rintro rfl; exact hne rfl)]; exact hq
      obtain ⟨cs, e8, e8l⟩ := e8
      refine hT _ ⟨ek.set _ (by omega), k _ _ e7 (by omega), ⟨cs, k _ _ e8 (by omega), e8l⟩, ⟨wl', k _ _ e9 (by omega), ?_⟩, ⟨Lm, ck, k _ _ er (by omega), gmv⟩, ⟨k _ _ eb2 (by omega), k _ _ eb3 (by omega)⟩, by rw [AH.get_set, if_pos rfl], k _ _ ed (by omega), en⟩
      rw [hW]
      exact grow_set eg _ (fun n => by rw [el]; simp)
  conv => arg 1; whnf
  refine atCall_P lp ?_
  conv => arg 1; whnf
  refine atCall_P lq ?_
  conv => arg 1; whnf
  refine atCall_P (h35 pp qq p vq h4 hpp.symm hqq.symm) ?_
  conv => arg 1; whnf
  cases e1 : before p vq
  · conv => arg 1; whnf
    exact done h4 wl W kp4 (by unfold addW; rw [hvq, e1]; rfl) c7 ⟨cs8, c8, l8⟩ c9 gw4 cr cb2 cb3 cd cl (by omega)
  · conv => arg 1; whnf
    refine atCall_P lw ?_
    conv => arg 1; whnf
    refine atCall_P lp ?_
    conv => arg 1; whnf
    refine atCall_P lq ?_
    subst hpp
    subst hqq
    obtain ⟨wl', h5, r1, r2, r3, r4⟩ := wires_append (call := call) (t := (p.1, p.2, vq.1, vq.2)) (c := .lit) gw4 (by omega)
    have ng : ∀ q' o, h4.get q' = some o → (∀ n, o ≠ .grp n) → NotGrp h4 q' := fun q' o hq hne n hg => by rw [hq] at hg; exact hne n (Option.some.inj hg)
    have f7 := r4 _ _ c7 (ng _ _ c7 (by simp)) (by omega)
    have f8 := r4 _ _ c8 (ng _ _ c8 (by simp)) (by omega)
    have f9 := r4 _ _ c9 (ng _ _ c9 (by simp)) (by omega)
    have fr := r4 _ _ cr (ng _ _ cr (by simp)) (by omega)
    have fb2 := r4 _ _ cb2 (ng _ _ cb2 (by simp)) (by omega)
    have fb3 := r4 _ _ cb3 (ng _ _ cb3 (by simp)) (by omega)
    have fd := r4 _ _ cd (ng _ _ cd (by simp)) (by omega)
    have fl := r4 _ _ cl (ng _ _ cl (by simp)) (by omega)
    have hws : wl'.scalar = true := isL_scalar (grow_isL r2)
    have hwc : wl'.cells = [wl'] := isL_cells (grow_isL r2)
    have s9 : hOf (aStore Tryz.prog 47 (.ptr i9 2) wl' h5) = some (.ret undefA, h5.set i9 (.cells [c, .int .i64 f, wl'] 49)) := by
      have := st_ptr (P := Tryz.prog) (t := 47) (n := 1) (off := 2) (v := wl') f9 (by kernel_rfl) (by rw [hwc]; rfl) (by simp) (by rw [hwc]; simp [hws])
      rw [this, hwc]; rfl
    conv => arg 1; whnf
    refine atCall_P r1 ?_
    conv => arg 1; whnf
    refine atCall_P s9 ?_
    conv => arg 1; whnf
    have k : ∀ q' o, h5.get q' = some o → q'.nat ≠ i9.nat → (h5.set i9 (.cells [c, .int .i64 f, wl'] 49)).get q' = some o := fun q' o hq hne => by rw [AH.get_set, if_neg (by rintro rfl; exact hne rfl)]; exact hq
    exact done (h5.set i9 (.cells [c, .int .i64 f, wl'] 49)) wl' (W ++ [(p.1, p.2, vq.1, vq.2)]) (KeptC.set ⟨fun q' o hq hn hlt => r4 _ _ (kp4.1 _ _ hq hn hlt) (ng _ _ (kp4.1 _ _ hq hn hlt) hn) (Nat.lt_of_lt_of_le hlt kp4.2), Nat.le_trans kp4.2 r3⟩ _ (by omega)) (by unfold addW; rw [hvq, e1]; rfl) (k _ _ f7 (by omega)) ⟨cs8, k _ _ f8 (by omega), l8⟩ (by rw [AH.get_set, if_pos rfl]) (grow_set r2 _ (fun n => by rw [f9]; simp)) (k _ _ fr (by omega)) (k _ _ fb2 (by omega)) (k _ _ fb3 (by omega)) (k _ _ fd (by omega)) (k _ _ fl (by omega)) (by rw [AH.next_set]; omega)
end
theorem append_lit {call : CallT} {x : AV} {cells : List Int} {h : AH} (hx : IsL x (cells.map intV)) (hb : cells.length ≤ 1000000000) :
    ∃ c' h', aBuiltin ⟨Tryz.prog, mu0, call⟩ false .append #[42, 42] [.vsl [] .lit, x] h = some (.ret (.vsl (cells.map intV) c'), h') ∧ Kept h.next.nat h h' ∧ weakC c' = .unk := by
  have e1 : Tryz.prog.underlying 42 = some (.slice 3) := by kernel_rfl
  have e2 : sizeT Tryz.prog 3 = some 1 := by kernel_rfl
  have e3 : zeroT Tryz.prog 3 = some (.int .i64 0) := by kernel_rfl
  have e4 : Tryz.prog.bytesOf 3 = 8 := by kernel_rfl
  have hel : aElems Tryz.prog 3 x h = some (cells.map intV) := by rcases hx with ⟨rfl, h1⟩ | ⟨c, rfl⟩ <;> simp_all [aElems]
  have hh : headOk 1 (cells.map intV) = true := by cases cells <;> rfl
  have hex : ∃ c' h', aAppend Tryz.prog false #[42, 42] (.vsl [] .lit) x h = some (.vsl (cells.map intV) c', h') ∧ Kept h.next.nat h h' ∧ weakC c' = .unk := by
    by_cases hn : cells = []
    · subst hn
      refine ⟨.lit, h, ?_, Kept.refl h, rfl⟩
      unfold aAppend
      simp [e1, e2, e3, e4, hel, headOk, AV.cells, AV.scalar]
    · refine ⟨.own h.next (cells.map intV).length, h.alloc (.grp (cells.map intV).length), ?_, kept_one h _, rfl⟩
      have hl : ¬ (cells.map intV).length = 0 := by simp [hn]
      unfold aAppend
      simp only [show (#[42, 42] : Array TypeId)[0]? = some 42 from rfl, show (#[42, 42] : Array TypeId)[1]? = some 42 from rfl, e1, e2, e3, e4, hel, hh]
      rw [if_neg (by simp [AV.cells, AV.scalar]), if_neg hl, if_neg (by simp [headOk]; omega)]
      simp
  obtain ⟨c', h', q1, q2⟩ := hex
  refine ⟨c', h', ?_, q2⟩
  show vhOf (aAppend Tryz.prog false #[42, 42] _ _ h) = _
  rw [q1]; rfl
section
variable {n0 : Nat} {gg : AH} {i7 i8 i9 r b2 b3 l d : Sk.Id} {x c : AV} {f : Int}
def wiresN (N : Int × Int → Option (Int × Int)) : List (Int × Int) → List Wr → List Wr
  | [], W => W
  | p :: ps, W => wiresN N ps (addW N W p)
theorem addW_len (N : Int × Int → Option (Int × Int)) (W : List Wr) (p : Int × Int) : (addW N W p).length ≤ W.length + 1 := by
  unfold addW; split <;> simp
theorem run26 {callY : CallT} {N : Int × Int → Option (Int × Int)} {tm0 : List AV}
    (Hy : ∀ (p : Int × Int) (i : Nat) (W : List Wr) (h : AH), W.length ≤ 100000000 → Rnd26 n0 gg i7 i8 i9 r b2 b3 l d x c f N tm0 W h → ∃ h', callY (.yield l) [.int .i64 i, portV p] h = some (.ret (.bool true), h') ∧ Rnd26 n0 gg i7 i8 i9 r b2 b3 l d x c f N tm0 (addW N W p) h') :
    ∀ (ps : List (Int × Int)) (i : Nat) (W : List Wr) (h : AH), W.length + ps.length ≤ 100000000 → Rnd26 n0 gg i7 i8 i9 r b2 b3 l d x c f N tm0 W h → ∃ h', YRun callY l (PortsG b2 b3 x c .nilsl f) i ps h h' ∧ Rnd26 n0 gg i7 i8 i9 r b2 b3 l d x c f N tm0 (wiresN N ps W) h'
  | [], i, W, h, _, hR => ⟨h, .nil _ _, hR⟩
  | p :: ps, i, W, h, hl, hR => by
    simp only [List.length_cons] at hl
    obtain ⟨h', hc, hR'⟩ := Hy p i W h (by omega) hR
    have := addW_len N W p
    obtain ⟨h'', hY, hR''⟩ := run26 Hy ps (i + 1) (addW N W p) h' (by omega) hR'
    exact ⟨h'', .cons hc hR'.pg hY, hR''⟩
end
theorem leaveLoop_ex3 {l d : Sk.Id} {fn : FuncId} {tm : List AV} {ps : Array Tmp} {a b : Code} {h : AH} (hg : h.get l = some (.loop .ready none fn tm ps a b d)) :
    ∃ h2, (∀ tm' df, aLeaveLoop l ⟨tm', df, h⟩ = some (.normal, ⟨tm', df, h2⟩)) ∧ (∀ q o, h.get q = some o → l ≠ q → h2.get q = some o) ∧ h2.next = h.next ∧ ∀ wl xs, Grow h wl xs → Grow h2 wl xs :=
  ⟨_, fun _ _ => leaveLoop_none hg, fun q o hq hne => by rw [AH.get_set, if_neg hne.symm]; exact hq, rfl, fun wl xs hw => grow_set hw _ (fun n => by rw [hg]; simp)⟩
theorem leave26 {d : Sk.Id} {tm : List AV} {h : AH} {v : AV} (rd : h.get d = some (.defs true)) (hr : aResults Tryz.prog tm (h.set d (.defs false)) Tryz.f79.results.toList = some [v]) : leaveA Tryz.prog Tryz.f79 (some (.ret, ⟨tm, [d], h⟩)) = some (.ret v, h.set d (.defs false)) := by
  simp only [leaveA, takeDefs, rd, hr]; rfl
def IsNet1 (u : AV) (n : Nt) : Prop := ∃ cc w, u = .agg [.vsl (n.cells.map intV) cc, .int .i64 n.free, w] ∧ ((w = .nilsl ∧ n.wires = []) ∨ ∃ c, w = .vsl (n.wires.map wireV) c ∧ n.wires ≠ [] ∧ weakC c = .unk) ∧ weakC cc = .unk
theorem grow_nil1 {h : AH} {l : AV} {W : List Wr} (hg : Grow h l (W.map wireV)) : (l = .nilsl ∧ W = []) ∨ ∃ c, l = .vsl (W.map wireV) c ∧ W ≠ [] ∧ weakC c = .unk := by
  rcases hg with ⟨h1, h2⟩ | ⟨g, h1, h2, _⟩
  · exact .inl ⟨h1, by simpa using h2⟩
  · exact .inr ⟨_, h1, by simpa using h2, rfl⟩
structure C26 (call callY : CallT) (x : AV) (s : List Ag) : Prop where
  c32 : ∀ {c w f} h, c.scalar = true → w.scalar = true → call (.func 100) [x, .agg [c, .int .i64 f, w]] h = some (.ret (.fn (.func 116) [] [.ptr (h.alloc (.cells [x] 22)).next 0, .ptr h.next 0]), (h.alloc (.cells [x] 22)).alloc (.cells [c, .int .i64 f, w] 49))
  c37 : ∀ {c f cells l b2 b3 h h'}, IsL c (cells.map intV) → f ≤ 64 → cells.length ≤ 4096 → PortsG b2 b3 x c .nilsl f h → YRun callY l (PortsG b2 b3 x c .nilsl f) 0 (freePorts f ++ cellsPorts s cells 0) h h' →
    call (.func 116) [.fn (.yield l) [] [], .ptr b3 0, .ptr b2 0] h = some (.ret (.tup []), h')
  cy : ∀ {n0 : Nat} {gg : AH} {i7 i8 i9 r b2 b3 l d : Sk.Id} {c : AV} {f : Int} {N : Int × Int → Option (Int × Int)} {g0 g1 g2 g3 g4 g5 g6 g8 aA aB aC aD aE aF aG aH aI aJ aK aL aM aN aO aP aQ aR aS aT aU aV aW aX aY aZ bA bB : AV}, n0 ≤ i7.nat → r.nat < i7.nat → i7.nat < i8.nat → i8.nat < i9.nat → i9.nat < b2.nat → b2.nat < b3.nat → b3.nat < d.nat → d.nat < l.nat →
    ∀ (p : Int × Int) (i : Nat) (W : List Wr) (h : AH), W.length ≤ 100000000 → Rnd26 n0 gg i7 i8 i9 r b2 b3 l d x c f N [g0,g1,g2,g3,g4,g5,g6,.ptr i7 0,g8,.ptr i9 0,aA,aB,aC,aD,aE,aF,aG,aH,aI,aJ,aK,aL,aM,aN,aO,aP,aQ,aR,aS,aT,aU,aV,aW,aX,aY,aZ,bA,bB] W h →
      ∃ h', callY (.yield l) [.int .i64 i, portV p] h = some (.ret (.bool true), h') ∧ Rnd26 n0 gg i7 i8 i9 r b2 b3 l d x c f N [g0,g1,g2,g3,g4,g5,g6,.ptr i7 0,g8,.ptr i9 0,aA,aB,aC,aD,aE,aF,aG,aH,aI,aJ,aK,aL,aM,aN,aO,aP,aQ,aR,aS,aT,aU,aV,aW,aX,aY,aZ,bA,bB] (addW N W p) h'
set_option maxHeartbeats 4000000 in
theorem b26 (call callY rgn n) (x c m : AV) (s : List Ag) (cells : List Int) (f : Int) (r : Sk.Id) (N : Int × Int → Option (Int × Int)) (hm : m = .map r) (hx : IsSig x s) (hc : IsL c (cells.map intV)) (C : C26 call callY x s) (hcl : cells.length ≤ 4096) (hf : f ≤ 64) (hpl : (freePorts f ++ cellsPorts s cells 0).length ≤ 100000000) (h : AH)
    (hM : MapAt h r fun p => (N p).map portV) (hr : r.nat < h.next.nat) :
    ∃ u h', B shT call rgn n 79 Tryz.f79 [x, c, .int .i64 f, m] h = some (.ret u, h') ∧ IsNet1 u ⟨cells, f, wiresN N (freePorts f ++ cellsPorts s cells 0) []⟩ ∧ KeptC h.next.nat h h' := by
  suffices hq : ∀ Q : Option (AOut × AH) → Prop, (∀ u h', IsNet1 u ⟨cells, f, wiresN N (freePorts f ++ cellsPorts s cells 0) []⟩ → KeptC h.next.nat h h' → Q (some (.ret u, h'))) → Q (B shT call rgn n 79 Tryz.f79 [x, c, .int .i64 f, m] h) from
    hq (fun y => ∃ u h', y = some (.ret u, h') ∧ IsNet1 u ⟨cells, f, wiresN N (freePorts f ++ cellsPorts s cells 0) []⟩ ∧ KeptC h.next.nat h h') fun u h' h1 h2 => ⟨u, h', rfl, h1, h2⟩
  intro Q hT
  have hxs := isL_scalar hx
  conv => arg 1; whnf
  refine atCall_P (box_new (cs := [.map r]) (by rw [hm]; rfl) rfl) ?_
  conv => arg 1; whnf
  refine atCall_P (alloc_new (z := .agg [.nilsl, .int .i64 0, .nilsl]) (cs := [.nilsl, .int .i64 0, .nilsl]) (by kernel_rfl) rfl rfl) ?_
  have kp0 : KeptC h.next.nat h h := ⟨fun q o hq _ _ => hq, Nat.le_refl _⟩
  have kp1 := kp0.alloc (.cells [.map r] 141)
  have kp2 := kp1.alloc (.cells [.nilsl, .int .i64 0, .nilsl] 49)
  obtain ⟨Lm, ck, gr, gmv⟩ := hM
  generalize hi7 : h.next = i7 at hr kp0 kp1 kp2 hT ⊢
  generalize hh1 : h.alloc (.cells [.map r] 141) = h1 at kp1 kp2 ⊢
  have n1 : h1.next.nat = i7.nat + 1 := by rw [← hh1, AH.next_alloc, Id.nat_succ, hi7]
  have a7 : h1.get i7 = some (.cells [.map r] 141) := by rw [← hh1, ← hi7, AH.get_alloc, if_pos rfl]
  generalize hi8 : h1.next = i8 at n1 ⊢
  generalize hh2 : h1.alloc (.cells [.nilsl, .int .i64 0, .nilsl] 49) = h2 at kp2 ⊢
  have n2 : h2.next.nat = i8.nat + 1 := by rw [← hh2, AH.next_alloc, Id.nat_succ, hi8]
  have a8 : h2.get i8 = some (.cells [.nilsl, .int .i64 0, .nilsl] 49) := by rw [← hh2, ← hi8, AH.get_alloc, if_pos rfl]
  have a7 : h2.get i7 = some (.cells [.map r] 141) := by rw [← hh2]; exact kept_alloc a7 (by rw [hi8]; omega)
  have ar : h2.get r = some (.map (Lm.map entV) ck) := kp2.1 _ _ gr (by simp) hr
  clear hh1 hh2 hi7 hi8
  obtain ⟨cc, h3, q1, q2, qc⟩ := append_lit (call := call) (h := h2) hc (by omega)
  conv => arg 1; whnf
  refine atCall_P q1 ?_
  have kp3 : KeptC i7.nat h h3 := ⟨fun q o hq hn hlt => q2.1 _ _ (kp2.1 _ _ hq hn hlt) (Nat.lt_of_lt_of_le hlt kp2.2), Nat.le_trans kp2.2 q2.2⟩
  have a7 := q2.1 _ _ a7 (by omega)
  have a8 := q2.1 _ _ a8 (by omega)
  have ar := q2.1 _ _ ar (by omega)
  have n3 : i8.nat + 1 ≤ h3.next.nat := by have := q2.2; omega
  clear q1 q2
  conv => arg 1; whnf
  refine atCall_P (alloc_new (z := .agg [.nilsl, .int .i64 0, .nilsl]) (cs := [.nilsl, .int .i64 0, .nilsl]) (by kernel_rfl) rfl rfl) ?_
  conv => arg 1; whnf
  have hst := st_new (h := h3) (cs0 := [.nilsl, .int .i64 0, .nilsl]) (v := .agg [.vsl (cells.map intV) cc, .int .i64 f, .nilsl]) (cs := [.vsl (cells.map intV) cc, .int .i64 f, .nilsl]) (T := 49) (n := 3) (P := Tryz.prog) (by kernel_rfl) rfl rfl rfl rfl
  refine atCall_P hst ?_
  obtain ⟨hget, hnx, hkeep⟩ := new_obj h3 [.nilsl, .int .i64 0, .nilsl] [.vsl (cells.map intV) cc, .int .i64 f, .nilsl] 49
  have kp4 := (kp3.alloc (.cells [.nilsl, .int .i64 0, .nilsl] 49)).set (r := h3.next) (.cells [.vsl (cells.map intV) cc, .int .i64 f, .nilsl] 49) kp3.2
  generalize ((h3.alloc (.cells [.nilsl, .int .i64 0, .nilsl] 49)).set h3.next (.cells [.vsl (cells.map intV) cc, .int .i64 f, .nilsl] 49)) = h4 at hget hnx hkeep kp4 ⊢
  have a7 := hkeep _ _ a7 (by omega)
  have a8 := hkeep _ _ a8 (by omega)
  have ar := hkeep _ _ ar (by omega)
  clear hst hkeep kp0 kp1 kp2 kp3
  generalize hi9 : h3.next = i9 at hget hnx n3 ⊢
  clear hi9
  have ln : vOf h4 (aLoad Tryz.prog 49 (.ptr i9 0) h4) = some (.ret (.agg [.vsl (cells.map intV) cc, .int .i64 f, .nilsl]), h4) := ld_agg (n := 3) hget (by kernel_rfl) (by kernel_rfl) (by simp)
  conv => arg 1; whnf
  refine atCall_P ln ?_
  conv => arg 1; whnf
  refine atCall_P (C.c32 h4 rfl rfl) ?_
  -- the boxes of the iterator
  generalize hb2 : h4.next = b2
  generalize hh9 : h4.alloc (.cells [x] 22) = h9
  have m9 : h9.next.nat = b2.nat + 1 := by rw [← hh9, AH.next_alloc, Id.nat_succ, hb2]
  have gb2 : h9.get b2 = some (.cells [x] 22) := by rw [← hh9, ← hb2, AH.get_alloc, if_pos rfl]
  have kp9 : KeptC i7.nat h h9 := by rw [← hh9]; exact kp4.alloc _
  generalize hb3 : h9.next = b3 at m9
  generalize hh10 : h9.alloc (.cells [.vsl (cells.map intV) cc, .int .i64 f, .nilsl] 49) = h10
  have m10 : h10.next.nat = b3.nat + 1 := by rw [← hh10, AH.next_alloc, Id.nat_succ, hb3]
  have gb3 : h10.get b3 = some (.cells [.vsl (cells.map intV) cc, .int .i64 f, .nilsl] 49) := by rw [← hh10, ← hb3, AH.get_alloc, if_pos rfl]
  have gb2 : h10.get b2 = some (.cells [x] 22) := by rw [← hh10]; exact kept_alloc gb2 (by rw [hb3]; omega)
  have kp10 : KeptC i7.nat h h10 := by rw [← hh10]; exact kp9.alloc _
  have up : ∀ q o, h4.get q = some o → q.nat < h4.next.nat → h10.get q = some o := fun q o hq hlt => by
    rw [← hh10, ← hh9]
    refine kept_alloc (kept_alloc hq hlt) ?_
    rw [AH.next_alloc, Id.nat_succ]; omega
  rw [hb2] at up
  have e4 : h4.next.nat = b2.nat := by rw [hb2]
  have a7 := up _ _ a7 (by omega)
  have a8 := up _ _ a8 (by omega)
  have ar := up _ _ ar (by omega)
  have a9 := up _ _ hget (by omega)
  clear hh9 hh10 hb3 hb2 up kp9 kp4 hget ln
  generalize hd : h10.next = d at m10
  have hl : (loopId h10).nat = d.nat + 1 := by unfold loopId; rw [AH.next_alloc, Id.nat_succ, hd]
  have key : ∀ {g0 g1 g2 g3 g4 g5 g6 g8 aA aB aC aD aE aF aG aH aI aJ aK aL aM aN aO aP aQ aR aS aT aU aV aW aX aY aZ bA bB : AV}, ∃ h', call (.func 116) ([] ++ [.fn (.yield (loopId h10)) [] []] ++ [.ptr b3 0, .ptr b2 0]) (loopHeap 79 [g0,g1,g2,g3,g4,g5,g6,.ptr i7 0,g8,.ptr i9 0,aA,aB,aC,aD,aE,aF,aG,aH,aI,aJ,aK,aL,aM,aN,aO,aP,aQ,aR,aS,aT,aU,aV,aW,aX,aY,aZ,bA,bB] #[21, 22] (rngA (codeOf Tryz.f79) 0) (rngB (codeOf Tryz.f79) 0) h10) = some (.ret (.tup []), h') ∧
      Rnd26 i7.nat h i7 i8 i9 r b2 b3 (loopId h10) d x (.vsl (cells.map intV) cc) f N [g0,g1,g2,g3,g4,g5,g6,.ptr i7 0,g8,.ptr i9 0,aA,aB,aC,aD,aE,aF,aG,aH,aI,aJ,aK,aL,aM,aN,aO,aP,aQ,aR,aS,aT,aU,aV,aW,aX,aY,aZ,bA,bB] (wiresN N (freePorts f ++ cellsPorts s cells 0) []) h' := by
    intro g0 g1 g2 g3 g4 g5 g6 g8 aA aB aC aD aE aF aG aH aI aJ aK aL aM aN aO aP aQ aR aS aT aU aV aW aX aY aZ bA bB
    have hk : Kept h10.next.nat h10 (loopHeap 79 [g0,g1,g2,g3,g4,g5,g6,.ptr i7 0,g8,.ptr i9 0,aA,aB,aC,aD,aE,aF,aG,aH,aI,aJ,aK,aL,aM,aN,aO,aP,aQ,aR,aS,aT,aU,aV,aW,aX,aY,aZ,bA,bB] #[21, 22] (rngA (codeOf Tryz.f79) 0) (rngB (codeOf Tryz.f79) 0) h10) := (kept_one h10 _).alloc _
    have hR : Rnd26 i7.nat h i7 i8 i9 r b2 b3 (loopId h10) d x (.vsl (cells.map intV) cc) f N [g0,g1,g2,g3,g4,g5,g6,.ptr i7 0,g8,.ptr i9 0,aA,aB,aC,aD,aE,aF,aG,aH,aI,aJ,aK,aL,aM,aN,aO,aP,aQ,aR,aS,aT,aU,aV,aW,aX,aY,aZ,bA,bB] [] (loopHeap 79 [g0,g1,g2,g3,g4,g5,g6,.ptr i7 0,g8,.ptr i9 0,aA,aB,aC,aD,aE,aF,aG,aH,aI,aJ,aK,aL,aM,aN,aO,aP,aQ,aR,aS,aT,aU,aV,aW,aX,aY,aZ,bA,bB] #[21, 22] (rngA (codeOf Tryz.f79) 0) (rngB (codeOf Tryz.f79) 0) h10) := by
      refine ⟨(kp10.alloc _).alloc _, hk.1 _ _ a7 (by rw [hd]; omega), ⟨_, hk.1 _ _ a8 (by rw [hd]; omega), rfl⟩, ⟨.nilsl, hk.1 _ _ a9 (by rw [hd]; omega), .inl ⟨rfl, rfl⟩⟩, ⟨Lm, ck, hk.1 _ _ ar (by rw [hd]; omega), gmv⟩,
        ⟨hk.1 _ _ gb2 (by rw [hd]; omega), hk.1 _ _ gb3 (by rw [hd]; omega)⟩, ?_, ?_, ?_⟩
      · unfold loopHeap loopId; rw [AH.get_alloc, if_pos rfl, hd]
      · unfold loopHeap
        refine kept_alloc (by rw [← hd, AH.get_alloc, if_pos rfl]) ?_
        rw [AH.next_alloc, Id.nat_succ, hd]; omega
      · unfold loopHeap; rw [AH.next_alloc, Id.nat_succ, AH.next_alloc, Id.nat_succ, hd]; omega
    obtain ⟨h', hY, hres⟩ := run26 (C.cy (Nat.le_refl _) (by omega) (by omega) (by omega) (by omega) (by omega) (by omega) (by omega)) (freePorts f ++ cellsPorts s cells 0) 0 [] _ (by simpa using hpl) hR
    exact ⟨h', C.c37 (.inr ⟨_, rfl⟩) hf hcl hR.pg hY, hres⟩
  conv => arg 1; whnf
  refine atRange_ex key ?_
  intro h11 hR
  have hld : d.nat < (loopId h10).nat := by omega
  obtain ⟨wl, g9, gw⟩ := hR.g9
  obtain ⟨cs8, g8, l8⟩ := hR.g8
  obtain ⟨h12, hlv, ks, kn, kg⟩ := leaveLoop_ex3 hR.gl
  have kp12 : KeptC i7.nat h h12 := ⟨fun q o hq hn hlt => ks _ _ (hR.kp.1 _ _ hq hn hlt) (by rintro rfl; omega), by rw [kn]; exact hR.kp.2⟩
  rw [hlv]
  have d8 := ks _ _ g8 (by rintro rfl; omega)
  have d9 := ks _ _ g9 (by rintro rfl; omega)
  have dd := ks _ _ hR.gd (by rintro rfl; omega)
  have lnn : vOf h12 (aLoad Tryz.prog 49 (.ptr i9 0) h12) = some (.ret (.agg [.vsl (cells.map intV) cc, .int .i64 f, wl]), h12) := ld_agg (n := 3) d9 (by kernel_rfl) (by kernel_rfl) (by simp)
  have hws : wl.scalar = true := isL_scalar (grow_isL gw)
  have st8 : hOf (aStore Tryz.prog 49 (.ptr i8 0) (.agg [.vsl (cells.map intV) cc, .int .i64 f, wl]) h12) = some (.ret undefA, h12.set i8 (.cells (setCells cs8 0 [.vsl (cells.map intV) cc, .int .i64 f, wl]) 49)) :=
    st_ptr (n := 3) d8 (by kernel_rfl) rfl (by omega) (by show (_ && (_ && (wl.scalar && true))) = true; rw [hws]; rfl)
  have hsc : setCells cs8 0 [.vsl (cells.map intV) cc, .int .i64 f, wl] = [.vsl (cells.map intV) cc, .int .i64 f, wl] := by
    match cs8, l8 with
    | [a, b, c], _ => rfl
  rw [hsc] at st8
  conv => arg 1; whnf
  refine atCall_P lnn ?_
  conv => arg 1; whnf
  refine atCall_P st8 ?_
  conv => arg 1; whnf
  have hdi8 : d ≠ i8 := by rintro rfl; omega
  have r8 : ((h12.set i8 (.cells [.vsl (cells.map intV) cc, .int .i64 f, wl] 49)).set d (.defs false)).get i8 = some (.cells [.vsl (cells.map intV) cc, .int .i64 f, wl] 49) := by
    rw [AH.get_set, if_neg hdi8.symm, AH.get_set, if_pos rfl]
  have rd : (h12.set i8 (.cells [.vsl (cells.map intV) cc, .int .i64 f, wl] 49)).get d = some (.defs true) := by rw [AH.get_set, if_neg hdi8]; exact dd
  have h8 : aLoad Tryz.prog 49 (.ptr i8 0) ((h12.set i8 (.cells [.vsl (cells.map intV) cc, .int .i64 f, wl] 49)).set d (.defs false)) = some (.agg [.vsl (cells.map intV) cc, .int .i64 f, wl]) := by
    have := ld_agg (P := Tryz.prog) (t := 49) (n := 3) (off := 0) r8 (by kernel_rfl) (by kernel_rfl) (by simp)
    cases hv : aLoad Tryz.prog 49 (.ptr i8 0) ((h12.set i8 (.cells [.vsl (cells.map intV) cc, .int .i64 f, wl] 49)).set d (.defs false)) with
    | none => rw [hv] at this; cases this
    | some v => rw [hv] at this; simp only [vOf, Option.some.injEq, Prod.mk.injEq, AOut.ret.injEq] at this; rw [this.1]; rfl
  subst hd
  refine atLeave_P (leave26 rd (v := .agg [.vsl (cells.map intV) cc, .int .i64 f, wl]) ?_) (hT _ _ ⟨cc, wl, rfl, grow_nil1 gw, qc⟩ ((kp12.set _ (by omega)).set _ (by omega)))
  show (match aLoad Tryz.prog 49 (.ptr i8 0) ((h12.set i8 (.cells [.vsl (cells.map intV) cc, .int .i64 f, wl] 49)).set h10.next (.defs false)), some ([] : List AV) with | some v, some l => some (v :: l) | _, _ => none) = _
  rw [h8]
theorem fitsA26 : tabFits Tryz.prog (mu0 79) shT (rngA (codeOf Tryz.f79) 0) = true := by kernel_rfl
theorem fitsB26 : tabFits Tryz.prog (mu0 79) shT (rngB (codeOf Tryz.f79) 0) = true := by kernel_rfl
theorem nodA26 : noDefs (rngA (codeOf Tryz.f79) 0) = true := by kernel_rfl
theorem set26 {i7 i9 : Sk.Id} {i : Int} {p : Int × Int} {g0 g1 g2 g3 g4 g5 g6 g8 aA aB aC aD aE aF aG aH aI aJ aK aL aM aN aO aP aQ aR aS aT aU aV aW aX aY aZ bA bB : AV} : setTmps [g0,g1,g2,g3,g4,g5,g6,.ptr i7 0,g8,.ptr i9 0,aA,aB,aC,aD,aE,aF,aG,aH,aI,aJ,aK,aL,aM,aN,aO,aP,aQ,aR,aS,aT,aU,aV,aW,aX,aY,aZ,bA,bB] [21, 22] [.int .i64 i, portV p] = [g0,g1,g2,g3,g4,g5,g6,.ptr i7 0,g8,.ptr i9 0,aA,aB,aC,aD,aE,aF,aG,aH,aI,aJ,aK,.int .i64 i,portV p,aN,aO,aP,aQ,aR,aS,aT,aU,aV,aW,aX,aY,aZ,bA,bB] := by
  simp only [setTmps]
  rfl
theorem h35_of {hk : Hooks} {n : Nat} (hk35' : ∀ args h, hk 106 args h = hk35 106 args h) (hn : 0 < n) : h35 (evCall (mkEv Tryz.prog mu0 hk) n) := fun a b p q h ha hb => ev_hk (by
  rw [hk35', ha, hb]
  exact hk_top rfl rfl) hn
theorem c26 {m : Nat} (hm : 5000 < m) (x : AV) (s : List Ag) (hx : IsSig x s) (hP : ∀ a, 0 ≤ portsN s a ∧ portsN s a ≤ 7) :
    C26 (evCall (mkEv Tryz.prog mu0 hk25) (m + 1)) (evCall (mkEv Tryz.prog mu0 hk25) m) x s where
  c32 := fun {c w f} h hc hw => ev_of_cBodyS shT rfl Tryz.func100 rfl (by kernel_rfl) (b32 (evCall (mkEv Tryz.prog mu0 hk25) m) (rg Tryz.prog mu0 hk25 m 100) m x c w f h (isL_scalar hx) hc hw)
  c37 := fun {c f cells l b2 b3 h h'} hc hf hcl hG hY => ev_of_cBodyS shT rfl Tryz.func116 rfl (by kernel_rfl)
    (b37 (evCall (mkEv Tryz.prog mu0 hk25) m) (rg Tryz.prog mu0 hk25 m 116) m l b2 b3 x c .nilsl f s cells hx hc hP (by omega) (by omega) (by omega) (by omega) (by omega) (h31_of (fun _ _ => rfl) (by omega)) h h' hG hY)
  cy := by
    intro n0 gg i7 i8 i9 r b2 b3 l d c f N g0 g1 g2 g3 g4 g5 g6 g8 aA aB aC aD aE aF aG aH aI aJ aK aL aM aN aO aP aQ aR aS aT aU aV aW aX aY aZ bA bB o0 o1 o2 o3 o4 o5 o6 o7 p i W h hW hR
    obtain ⟨k, rfl⟩ : ∃ k, m = k + 1 := ⟨m - 1, by omega⟩
    obtain ⟨h', h1, h2⟩ := y26 (evCall (mkEv Tryz.prog mu0 hk25) k) (rg Tryz.prog mu0 hk25 k 79) k N W hW p (portV p) rfl (.int .i64 i) h _ (h35_of (fun _ _ => rfl) (by omega)) (g0 := g0) (g1 := g1) (g2 := g2) (g3 := g3) (g4 := g4) (g5 := g5) (g6 := g6) (g8 := g8) (aA := aA) (aB := aB) (aC := aC) (aD := aD) (aE := aE) (aF := aF) (aG := aG) (aH := aH) (aI := aI) (aJ := aJ) (aK := aK) (aN := aN) (aO := aO) (aP := aP) (aQ := aQ) (aR := aR) (aS := aS) (aT := aT) (aU := aU) (aV := aV) (aW := aW) (aX := aX) (aY := aY) (aZ := aZ) (bA := bA) (bB := bB) hR o0 o1 o2 o3 o4 o5 o6 o7
    exact ⟨h', ev_yield shT hR.gl rfl fitsA26 fitsB26 nodA26 set26 h1, h2⟩
end Go.Proofs.Nt

/-
  Signatures: the functions of the package sig, run.
-/
import Derived.Test.YtpepjbbbaolheaaGreatSkOpen
import Derived.Test.YtpepjbbbaolheaaGreatSkX2
import Derived.Test.YtpepjbbbaolheaaGreatProg
import Derived.KernelRfl
namespace Go.Proofs.Nt
open Go.Sk
set_option linter.unusedVariables false
set_option linter.unusedSimpArgs false
set_option maxRecDepth 10000

abbrev RgnT := Nat → Array Oper → ASt → Option (AExit × ASt)
abbrev CallT := AFn → List AV → AH → Option (AOut × AH)
/-- Which slices are written in place: none. -/
def mu0 : FuncId → Nat → Bool := fun _ _ => false
/-- Lengths and places of elements are shut. -/
def shT : Nat → Option (List Nat) := fun id => match Nat.beq id 999999 with | true => some [] | false => none
noncomputable abbrev B (tab : Nat → Option (List Nat)) (call : CallT) (rgn : RgnT) (n : Nat) (f : FuncId) (fn : Func) (args : List AV) (h : AH) := cBodyS Tryz.prog mu0 call rgn tab n f fn (codeOf fn) args h
noncomputable abbrev LB (tab : Nat → Option (List Nat)) (call : CallT) (rgn : RgnT) (n : Nat) (f : FuncId) (fn : Func) (i : Nat) : CF (AOut × AH) := cCode ⟨Tryz.prog, mu0, call⟩ rgn f tab none n (loopAt (codeOf fn) i)

/-! ### Values -/

/-- A list as a value: nil, or its elements. -/
def IsL (x : AV) (xs : List AV) : Prop := (x = .nilsl ∧ xs = []) ∨ ∃ c, x = .vsl xs c

theorem len_L {X : Cx} {mu : Bool} {t e : TypeId} {x : AV} {xs : List AV} {h : AH} (ht : X.P.underlying t = some (.slice e)) (hx : IsL x xs) : aBuiltin X mu .len #[t] [x] h = some (.ret (.int .i64 xs.length), h) := by
  have : (#[t] : Array TypeId)[0]? = some t := rfl
  rcases hx with ⟨rfl, rfl⟩ | ⟨c, rfl⟩ <;> simp [aBuiltin, aLen, ht, vOf]

theorem idx_L {P : Program} {t e : TypeId} {x v : AV} {xs : List AV} {h : AH} {k : IntKind} {y : Int} {i n : Nat} (ht : P.underlying t = some (.slice e)) (hn : sizeT P e = some n) (hx : IsL x xs) (hy : y = i) (hv : xs[i]? = some v) (hc : v.cells.length = n) :
    vOf h (aIndexAddr P t x (.int k y)) = some (.ret (.ref v), h) := by
  have hlt : i < xs.length := (List.getElem?_eq_some_iff.1 hv).1
  rcases hx with ⟨rfl, rfl⟩ | ⟨c, rfl⟩
  · simp at hlt
  · subst hy
    have h2 : xs[i].cells.length = n := by rw [← hc, (List.getElem?_eq_some_iff.1 hv).2]
    have h3 : xs[i] = v := (List.getElem?_eq_some_iff.1 hv).2
    simp [aIndexAddr, ht, hn, hlt, h2, vOf]; exact h3

abbrev Ag := List UInt8 × Int
def agV (a : Ag) : AV := .agg [.str a.1, .int .i64 a.2]
abbrev IsSig (x : AV) (s : List Ag) : Prop := IsL x (s.map agV)

theorem wrap_succ {i : Nat} (h : i < 9223372036854775807) : IntKind.i64.wrap ((i : Int) + 1) = ((i + 1 : Nat) : Int) := by
  simp [IntKind.wrap, IntKind.bits, IntKind.signed]
  omega

theorem leave_plain {P : Program} {fn : Func} {x : AExit} {tm : List AV} {h : AH} {l : List AV} (hx : x = .ret ∨ x = .normal) (hr : aResults P tm h fn.results.toList = some l) : leaveA P fn (some (x, ⟨tm, [], h⟩)) = some (.ret (oneOrTup l), h) := by
  rcases hx with rfl | rfl <;> simp [leaveA, takeDefs, hr]

theorem leave_eq {P : Program} {fn : Func} {x : AExit} {tm : List AV} {h : AH} {l : List AV} {y : Option (AOut × AH)} (hx : x = .ret ∨ x = .normal) (hr : aResults P tm h fn.results.toList = some l) (hy : some (.ret (oneOrTup l), h) = y) : atLeave P fn x ⟨tm, [], h⟩ = y := by
  unfold atLeave; rw [leave_plain hx hr]; exact hy

theorem getElem?_nat {α : Type} {l : List α} {i : Nat} {x : Int} (hx : x = i) : l[x.toNat]? = l[i]? := by rw [hx]; rfl

/-- An object is made and written. -/
theorem st_new {P : Program} {T : TypeId} {n : Nat} {h : AH} {cs0 cs : List AV} {v : AV} (hn : sizeT P T = some n) (hcs : v.cells = cs) (hc : cs.length = n) (h0 : cs0.length = n) (hs : cs.all AV.scalar = true) :
    hOf (aStore P T (.ptr h.next 0) v (h.alloc (.cells cs0 T))) = some (.ret undefA, (h.alloc (.cells cs0 T)).set h.next (.cells cs T)) := by
  subst hcs
  rw [st_ptr (n := n) (cs := cs0) (T := T) (by rw [AH.get_alloc, if_pos rfl]) hn hc (by omega) hs]
  have : setCells cs0 0 v.cells = v.cells := by
    have key : ∀ (vs cs pre : List AV), vs.length = cs.length → setCells (pre ++ cs) pre.length vs = pre ++ vs := by
      intro vs
      induction vs with
      | nil => intro cs pre h; have : cs = [] := List.eq_nil_of_length_eq_zero h.symm; subst this; rfl
      | cons a r ih =>
        intro cs pre h
        cases cs with
        | nil => simp at h
        | cons b cs =>
          show setCells ((pre ++ b :: cs).set pre.length a) (pre.length + 1) r = _
          have e : (pre ++ b :: cs).set pre.length a = (pre ++ [a]) ++ cs := by simp
          rw [e, show pre.length + 1 = (pre ++ [a]).length by simp, ih cs (pre ++ [a]) (by simpa using h)]
          simp
    simpa using key v.cells cs0 [] (by omega)
  rw [this]; rfl

theorem new_obj (h : AH) (cs0 cs : List AV) (T : TypeId) :
    ((h.alloc (.cells cs0 T)).set h.next (.cells cs T)).get h.next = some (.cells cs T) ∧ h.next.nat + 1 = ((h.alloc (.cells cs0 T)).set h.next (.cells cs T)).next.nat ∧
    ∀ q o, h.get q = some o → q.nat < h.next.nat → ((h.alloc (.cells cs0 T)).set h.next (.cells cs T)).get q = some o := by
  refine ⟨by rw [AH.get_set, if_pos rfl], by rw [AH.next_set, AH.next_alloc, Id.nat_succ], fun q o hq hlt => ?_⟩
  have : q ≠ h.next := by rintro rfl; omega
  rw [AH.get_set, if_neg this, AH.get_alloc, if_neg this]; exact hq

/-! ### Ports -/

def portsN (s : List Ag) (a : Int) : Int :=
  if a < 0 then 0 else match s[a.toNat]? with
    | none => 0
    | some g => if g.2 < 0 then 0 else IntKind.i64.wrap (g.2 + 1)

theorem b31 (call rgn n) (x : AV) (s : List Ag) (a : Int) (h : AH) (hx : IsSig x s) : B shT call rgn n 118 Tryz.f118 [x, .int .i64 a] h = some (.ret (.int .i64 (portsN s a)), h) := by
  have u : Tryz.prog.underlying 22 = some (.slice 58) := by kernel_rfl
  have hlen := fun h => len_L (X := ⟨Tryz.prog, mu0, call⟩) (mu := false) (h := h) u hx
  rw [List.length_map] at hlen
  conv => lhs; whnf
  split
  · rename_i e1
    conv => lhs; whnf
    refine leave_eq (.inl rfl) rfl ?_
    have : a < 0 := by simpa using e1
    unfold portsN; rw [if_pos this]; rfl
  rename_i e1
  have ha : ¬ a < 0 := by simpa using e1
  conv => lhs; whnf
  refine atCall_ret (hlen _) ?_
  conv => lhs; whnf
  split
  · rename_i e2
    conv => lhs; whnf
    refine leave_eq (.inl rfl) rfl ?_
    have : s[a.toNat]? = none := List.getElem?_eq_none (by simp at e2; omega)
    unfold portsN; rw [if_neg ha, this]; rfl
  rename_i e2
  have hlt : a.toNat < s.length := by simp at e2; omega
  have hat : a = a.toNat := by omega
  have hg : (s.map agV)[a.toNat]? = some (agV s[a.toNat]) := by rw [List.getElem?_map, List.getElem?_eq_getElem hlt]; rfl
  have hidx := fun h => idx_L (P := Tryz.prog) (t := 22) (e := 58) (n := 2) (h := h) (k := .i64) u (by kernel_rfl) hx hat hg rfl
  have hp : portsN s a = if s[a.toNat].2 < 0 then 0 else IntKind.i64.wrap (s[a.toNat].2 + 1) := by
    unfold portsN; rw [if_neg ha, List.getElem?_eq_getElem hlt]
  generalize s[a.toNat] = g at hidx hp
  obtain ⟨nm, ar⟩ := g
  conv => lhs; whnf
  refine atCall_ret (hidx _) ?_
  conv => lhs; whnf
  split
  · rename_i e3
    conv => lhs; whnf
    refine leave_eq (.inl rfl) rfl ?_
    rw [hp, if_pos (by simpa using e3)]; rfl
  · rename_i e3
    conv => lhs; whnf
    refine atCall_ret (hidx _) ?_
    conv => lhs; whnf
    refine leave_eq (.inl rfl) rfl ?_
    rw [hp, if_neg (by simpa using e3)]; rfl

/-! ### Names -/

def smallI (c : Int) : Bool := decide (c ≥ 97) && decide (c ≤ 122)
def greatI (c : Int) : Bool := decide (c ≥ 65) && decide (c ≤ 90)
def insideI (c : Int) : Bool := smallI c || greatI c || (decide (c ≥ 48) && decide (c ≤ 57)) || (c == 95)
def inB (b : UInt8) : Bool := insideI b.toNat

def beginsT (s : List UInt8) (lo hi : Int) : Bool := match s with | [] => false | c :: r => decide (s.length ≤ 16) && decide ((c.toNat : Int) ≥ lo) && decide ((c.toNat : Int) ≤ hi) && r.all inB

theorem l36 (call rgn n) (s : List UInt8) (hs : s.length ≤ 16) {h : AH} {K : KC (AOut × AH)} {y : Option (AOut × AH)} {b : Bool}
    (hK : ∀ {g1 g2 g3 g4 g5 g6 g8 g9 g10 g11 g12 g13 g14 g15 g16 g17 g18 g19 g20 g21 g22 g23 g24 g25 g26 g27 g28 g29 g30 g31 g32 g33 g34 g35 g36 g37 g38 g39 g40 g41 g42 g43 g44 g45 g46 g47 g48 g49 g50 g51 g52 g53 g54 g55 g56 g57 g58 g59 g60 g61 g62 g63 : AV}, K (.exit 0) ⟨(.str s :: g1 :: g2 :: g3 :: g4 :: g5 :: g6 :: .bool b :: g8 :: g9 :: g10 :: g11 :: g12 :: g13 :: g14 :: g15 :: g16 :: g17 :: g18 :: g19 :: g20 :: g21 :: g22 :: g23 :: g24 :: g25 :: g26 :: g27 :: g28 :: g29 :: g30 :: g31 :: g32 :: g33 :: g34 :: g35 :: g36 :: g37 :: g38 :: g39 :: g40 :: g41 :: g42 :: g43 :: g44 :: g45 :: g46 :: g47 :: g48 :: g49 :: g50 :: g51 :: g52 :: g53 :: g54 :: g55 :: g56 :: g57 :: g58 :: g59 :: g60 :: g61 :: g62 :: g63 :: []), [], h⟩ = y) :
    ∀ (m i : Nat) {x : Int} {g1 g2 g3 g4 g5 g6 g9 g10 g11 g12 g13 g14 g15 g16 g17 g18 g19 g20 g21 g22 g23 g24 g25 g26 g27 g28 g29 g30 g31 g32 g33 g34 g35 g36 g37 g38 g39 g40 g41 g42 g43 g44 g45 g46 g47 g48 g49 g50 g51 g52 g53 g54 g55 g56 g57 g58 g59 g60 g61 g62 g63 : AV}, x = i → i ≤ s.length → s.length - i < m → b = (s.drop i).all inB →
    cIter (LB noTab call rgn n 111 Tryz.f111 0) m ⟨(.str s :: g1 :: g2 :: g3 :: g4 :: g5 :: g6 :: .bool true :: .int .i64 x :: g9 :: g10 :: g11 :: g12 :: g13 :: g14 :: g15 :: g16 :: g17 :: g18 :: g19 :: g20 :: g21 :: g22 :: g23 :: g24 :: g25 :: g26 :: g27 :: g28 :: g29 :: g30 :: g31 :: g32 :: g33 :: g34 :: g35 :: g36 :: g37 :: g38 :: g39 :: g40 :: g41 :: g42 :: g43 :: g44 :: g45 :: g46 :: g47 :: g48 :: g49 :: g50 :: g51 :: g52 :: g53 :: g54 :: g55 :: g56 :: g57 :: g58 :: g59 :: g60 :: g61 :: g62 :: g63 :: []), [], h⟩ K = y := by
  intro m
  induction m with
  | zero => intros; omega
  | succ m ih =>
    intro i x g1 g2 g3 g4 g5 g6 g9 g10 g11 g12 g13 g14 g15 g16 g17 g18 g19 g20 g21 g22 g23 g24 g25 g26 g27 g28 g29 g30 g31 g32 g33 g34 g35 g36 g37 g38 g39 g40 g41 g42 g43 g44 g45 g46 g47 g48 g49 g50 g51 g52 g53 g54 g55 g56 g57 g58 g59 g60 g61 g62 g63 hx hi hm hb
    rw [cIter_succ]
    conv => lhs; whnf
    split
    · rename_i hd
      have hlt : i < s.length := by simp at hd; omega
      have h0 : decide (0 ≤ x) = true := by simp; omega
      have hdrop : s.drop i = s[i] :: s.drop (i + 1) := List.drop_eq_getElem_cons hlt
      have w1 : IntKind.i64.wrap (x + 1) = ((i + 1 : Nat) : Int) := by rw [hx]; exact wrap_succ (by omega)
      conv => lhs; whnf
      rw [h0]
      conv => lhs; whnf
      rw [getElem?_nat hx, List.getElem?_eq_getElem hlt]
      rw [hdrop, List.all_cons] at hb
      generalize hc : s[i] = c at hb
      have hb1 : inB c = true → b = (s.drop (i + 1)).all inB := fun h => by rw [hb, h]; rfl
      have hb0 : inB c = false → b = false := fun h => by rw [hb, h]; rfl
      clear hb hc hdrop
      repeat' ((conv => lhs; whnf); split)
      all_goals (conv => lhs; whnf)
      all_goals first
        | (refine ih (i + 1) w1 (by omega) (by omega) (hb1 ?_); clear ih hK hb1 hb0 hm; simp_all [inB, insideI, smallI, greatI]; done)
        | (have h0 := hb0 (by clear ih hK hb1 hm; simp_all [inB, insideI, smallI, greatI] <;> omega); subst h0; exact hK)
    · rename_i hd
      have hlt : ¬ i < s.length := by simp at hd; omega
      have : b = true := by rw [hb, List.drop_eq_nil_of_le (by omega)]; rfl
      subst this; exact hK

theorem l36f (call rgn n) {v0 : AV} {h : AH} {K : KC (AOut × AH)} {y : Option (AOut × AH)}
    (hK : ∀ {g1 g2 g3 g4 g5 g6 g8 g9 g10 g11 g12 g13 g14 g15 g16 g17 g18 g19 g20 g21 g22 g23 g24 g25 g26 g27 g28 g29 g30 g31 g32 g33 g34 g35 g36 g37 g38 g39 g40 g41 g42 g43 g44 g45 g46 g47 g48 g49 g50 g51 g52 g53 g54 g55 g56 g57 g58 g59 g60 g61 g62 g63 : AV}, K (.exit 0) ⟨(v0 :: g1 :: g2 :: g3 :: g4 :: g5 :: g6 :: .bool false :: g8 :: g9 :: g10 :: g11 :: g12 :: g13 :: g14 :: g15 :: g16 :: g17 :: g18 :: g19 :: g20 :: g21 :: g22 :: g23 :: g24 :: g25 :: g26 :: g27 :: g28 :: g29 :: g30 :: g31 :: g32 :: g33 :: g34 :: g35 :: g36 :: g37 :: g38 :: g39 :: g40 :: g41 :: g42 :: g43 :: g44 :: g45 :: g46 :: g47 :: g48 :: g49 :: g50 :: g51 :: g52 :: g53 :: g54 :: g55 :: g56 :: g57 :: g58 :: g59 :: g60 :: g61 :: g62 :: g63 :: []), [], h⟩ = y) :
    ∀ (m : Nat) {g1 g2 g3 g4 g5 g6 g8 g9 g10 g11 g12 g13 g14 g15 g16 g17 g18 g19 g20 g21 g22 g23 g24 g25 g26 g27 g28 g29 g30 g31 g32 g33 g34 g35 g36 g37 g38 g39 g40 g41 g42 g43 g44 g45 g46 g47 g48 g49 g50 g51 g52 g53 g54 g55 g56 g57 g58 g59 g60 g61 g62 g63 : AV}, 0 < m → cIter (LB noTab call rgn n 111 Tryz.f111 0) m ⟨(v0 :: g1 :: g2 :: g3 :: g4 :: g5 :: g6 :: .bool false :: g8 :: g9 :: g10 :: g11 :: g12 :: g13 :: g14 :: g15 :: g16 :: g17 :: g18 :: g19 :: g20 :: g21 :: g22 :: g23 :: g24 :: g25 :: g26 :: g27 :: g28 :: g29 :: g30 :: g31 :: g32 :: g33 :: g34 :: g35 :: g36 :: g37 :: g38 :: g39 :: g40 :: g41 :: g42 :: g43 :: g44 :: g45 :: g46 :: g47 :: g48 :: g49 :: g50 :: g51 :: g52 :: g53 :: g54 :: g55 :: g56 :: g57 :: g58 :: g59 :: g60 :: g61 :: g62 :: g63 :: []), [], h⟩ K = y := by
  intro m
  intros
  obtain ⟨m, rfl⟩ : ∃ m', m = m' + 1 := ⟨m - 1, by omega⟩
  rw [cIter_succ]
  conv => lhs; whnf
  exact hK

theorem b36 (call rgn n) (s : List UInt8) (lo hi : Int) (h : AH) (hn : 16 < n) : B noTab call rgn n 111 Tryz.f111 [.str s, .int .u8 lo, .int .u8 hi] h = some (.ret (.bool (beginsT s lo hi)), h) := by
  cases s with
  | nil =>
    conv => lhs; whnf
    have : decide (((([] : List UInt8).length : Nat) : Int) ≥ 1) = false := by simp
    rw [this]
    conv => lhs; whnf
    refine l36f call rgn n ?_ n (by omega)
    intros
    conv => lhs; whnf
    exact leave_eq (.inl rfl) rfl rfl
  | cons c r =>
    have e0 : decide ((((c :: r).length : Nat) : Int) ≥ 1) = true := by simp; omega
    have e1 : (c :: r)[(0 : Int).toNat]? = some c := rfl
    have fin : ∀ b, b = beginsT (c :: r) lo hi → ∀ {g1 g2 g3 g4 g5 g8 g9 g10 g11 g12 g13 g14 g15 g16 g17 g18 g19 g20 g21 g22 g23 g24 g25 g26 g27 g28 g29 g30 g31 g32 g33 g34 g35 g36 g37 g38 g39 g40 g41 g42 g43 g44 g45 g46 g47 g48 g49 g50 g51 g52 g53 g54 g55 g56 g57 g58 g59 g60 g61 g62 g63 : AV}, atLeave Tryz.prog Tryz.f111 .ret ⟨(.str (c :: r) :: g1 :: g2 :: g3 :: g4 :: g5 :: .bool b :: .bool b :: g8 :: g9 :: g10 :: g11 :: g12 :: g13 :: g14 :: g15 :: g16 :: g17 :: g18 :: g19 :: g20 :: g21 :: g22 :: g23 :: g24 :: g25 :: g26 :: g27 :: g28 :: g29 :: g30 :: g31 :: g32 :: g33 :: g34 :: g35 :: g36 :: g37 :: g38 :: g39 :: g40 :: g41 :: g42 :: g43 :: g44 :: g45 :: g46 :: g47 :: g48 :: g49 :: g50 :: g51 :: g52 :: g53 :: g54 :: g55 :: g56 :: g57 :: g58 :: g59 :: g60 :: g61 :: g62 :: g63 :: []), [], h⟩ = some (.ret (.bool (beginsT (c :: r) lo hi)), h) := by
      intro b hb
      intros
      exact leave_eq (.inl rfl) rfl (by rw [hb]; rfl)
    conv => lhs; whnf
    rw [e0]
    conv => lhs; whnf
    split
    · rename_i e2
      conv => lhs; whnf
      split
      · rename_i e3
        conv => lhs; whnf
        cases e4 : decide ((c.toNat : Int) ≤ hi)
        · refine l36f call rgn n ?_ n (by omega)
          intros
          conv => lhs; whnf
          exact fin _ (by simp only [beginsT, e4, Bool.and_false, Bool.false_and])
        · refine l36 call rgn n (c :: r) (by simp at e2 ⊢; omega) (b := r.all inB) ?_ n 1 rfl (by simp) (by simp at e2 ⊢; omega) rfl
          intros
          conv => lhs; whnf
          exact fin _ (by simp only [beginsT, show decide ((c :: r).length ≤ 16) = true by simp at e2 ⊢; omega, e3, e4, Bool.true_and])
      · rename_i e3
        conv => lhs; whnf
        refine l36f call rgn n ?_ n (by omega)
        intros
        conv => lhs; whnf
        exact fin _ (by simp only [beginsT, e3, Bool.and_false, Bool.false_and])
    · rename_i e2
      conv => lhs; whnf
      refine l36f call rgn n ?_ n (by omega)
      intros
      conv => lhs; whnf
      exact fin _ (by simp only [beginsT, show decide ((c :: r).length ≤ 16) = false by simp at e2 ⊢; omega, Bool.false_and])

def h36 (call : CallT) : Prop := ∀ s lo hi h, call (.func 111) [.str s, .int .u8 lo, .int .u8 hi] h = some (.ret (.bool (beginsT s lo hi)), h)
def wordT (s : List UInt8) : Bool := beginsT s 65 90
theorem b28 (call rgn n) (s : List UInt8) (h : AH) (h36 : h36 call) : B noTab call rgn n 78 Tryz.f78 [.str s] h = some (.ret (.bool (wordT s)), h) := by
  refine atCall_ret (h36 _ _ _ _) ?_
  conv => lhs; whnf
  exact leave_eq (.inl rfl) rfl rfl

/-! ### The first of a name -/

def ofN : List Ag → List UInt8 → Int
  | [], _ => -1
  | a :: r, nm => if a.1 == nm then 0 else (match ofN r nm with | -1 => -1 | k => k + 1)

/-- The same, counted. -/
def ofF : List Ag → List UInt8 → Nat → Int
  | [], _, _ => -1
  | a :: r, nm, i => if a.1 == nm then (i : Int) else ofF r nm (i + 1)

theorem l29 (call rgn n) (x0 : AV) (s : List Ag) (hx0 : IsSig x0 s) (hs : s.length ≤ 3000000000) (nm : List UInt8) (R : Int) {Q : Option (AOut × AH) → Prop} {v0 : AV} {K : KC (AOut × AH)}
    (hR : ∀ {h} {g0 g1 g2 g3 g5 g6 g7 g8 g9 g10 g11 g12 g13 g14 g15 g16 g17 g18 g19 : AV}, Q (K .ret ⟨(g0 :: g1 :: g2 :: g3 :: .int .i64 R :: g5 :: g6 :: g7 :: g8 :: g9 :: g10 :: g11 :: g12 :: g13 :: g14 :: g15 :: g16 :: g17 :: g18 :: g19 :: []), [], h⟩))
    (hK : R = -1 → ∀ {h} {g0 g2 g3 g4 g5 g6 g7 g8 g9 g10 g11 g12 g13 g14 g15 g16 g17 g18 g19 : AV}, Q (K (.exit 0) ⟨(g0 :: .str nm :: g2 :: g3 :: g4 :: g5 :: g6 :: g7 :: g8 :: g9 :: g10 :: g11 :: g12 :: g13 :: g14 :: g15 :: g16 :: g17 :: g18 :: g19 :: []), [], h⟩)) :
    ∀ (m i : Nat) {x : Int} {h : AH} {g2 g3 g4 g5 g6 g10 g11 g12 g13 g14 g15 g16 g17 g18 g19 : AV}, x = i → i ≤ s.length → s.length - i < m → R = ofF (s.drop i) nm i →
    Q (cIter (LB shT call rgn n 34 Tryz.f34 0) m ⟨(v0 :: .str nm :: g2 :: g3 :: g4 :: g5 :: g6 :: x0 :: .int .i64 s.length :: .int .i64 x :: g10 :: g11 :: g12 :: g13 :: g14 :: g15 :: g16 :: g17 :: g18 :: g19 :: []), [], h⟩ K) := by
  have u : Tryz.prog.underlying 22 = some (.slice 58) := by kernel_rfl
  intro m
  induction m with
  | zero => intros; omega
  | succ m ih =>
    intro i x h g2 g3 g4 g5 g6 g10 g11 g12 g13 g14 g15 g16 g17 g18 g19 hx hi hm hF
    rw [cIter_succ]
    conv => arg 1; whnf
    split
    · rename_i hd
      have hlt : i < s.length := by simp at hd; omega
      have hdrop : s.drop i = s[i] :: s.drop (i + 1) := List.drop_eq_getElem_cons hlt
      have hg : (s.map agV)[i]? = some (agV s[i]) := by rw [List.getElem?_map, List.getElem?_eq_getElem hlt]; rfl
      have hidx := fun h => idx_L (P := Tryz.prog) (t := 22) (e := 58) (n := 2) (h := h) (k := .i64) u (by kernel_rfl) hx0 hx hg rfl
      rw [hdrop] at hF
      generalize s[i] = g at hidx hF
      obtain ⟨gn, ga⟩ := g
      conv => arg 1; whnf
      refine atCall_P (hidx _) ?_
      conv => arg 1; whnf
      refine atCall_P (alloc_new (z := .agg [.str [], .int .i64 0]) (cs := [.str [], .int .i64 0]) (by kernel_rfl) rfl rfl) ?_
      conv => arg 1; whnf
      have hst := st_new (h := h) (cs0 := [.str [], .int .i64 0]) (v := .agg [.str gn, .int .i64 ga]) (cs := [.str gn, .int .i64 ga]) (T := 58) (n := 2) (P := Tryz.prog) (by kernel_rfl) rfl rfl rfl rfl
      refine atCall_P hst ?_
      obtain ⟨hget, hnx, hkeep⟩ := new_obj h [.str [], .int .i64 0] [.str gn, .int .i64 ga] 58
      generalize ((h.alloc (.cells [.str [], .int .i64 0] 58)).set h.next (.cells [.str gn, .int .i64 ga] 58)) = h2 at hget hnx hkeep ⊢
      generalize h.next = p at hget ⊢
      have ld0 : vOf h2 (aLoad Tryz.prog 9 (.ptr p 0) h2) = some (.ret (.str gn), h2) := ld_ptr (n := 1) hget (by kernel_rfl) (by kernel_rfl) rfl
      conv => arg 1; whnf
      refine atCall_P ld0 ?_
      conv => arg 1; whnf
      cases e1 : (gn == nm)
      · conv => arg 1; whnf
        refine ih (i + 1) (by rw [hx]; exact wrap_succ (by omega)) (by omega) (by omega) ?_
        rw [hF]; simp only [ofF, e1, Bool.false_eq_true, if_false]
      · conv => arg 1; whnf
        have : R = x := by rw [hF, hx]; simp only [ofF, e1, if_true]
        subst this
        exact hR
    · rename_i hd
      have hlt : ¬ i < s.length := by simp at hd; omega
      refine hK ?_
      rw [hF, List.drop_eq_nil_of_le (by omega)]; rfl

theorem b29 (call rgn n) (x : AV) (s : List Ag) (hx : IsSig x s) (hs : s.length ≤ 3000000000) (nm : List UInt8) (h : AH) (hn : s.length < n) :
    ∃ h', B shT call rgn n 34 Tryz.f34 [x, .str nm] h = some (.ret (.int .i64 (ofF s nm 0)), h') := by
  have u : Tryz.prog.underlying 22 = some (.slice 58) := by kernel_rfl
  have hlen := fun h => len_L (X := ⟨Tryz.prog, mu0, call⟩) (mu := false) (h := h) u hx
  rw [List.length_map] at hlen
  suffices hq : (fun r : Option (AOut × AH) => ∃ h', r = some (.ret (.int .i64 (ofF s nm 0)), h')) (B shT call rgn n 34 Tryz.f34 [x, .str nm] h) from hq
  generalize hQ : (fun r : Option (AOut × AH) => ∃ h', r = some (.ret (.int .i64 (ofF s nm 0)), h')) = Q
  have hQ' : ∀ h', Q (some (.ret (.int .i64 (ofF s nm 0)), h')) := fun h' => by rw [← hQ]; exact ⟨h', rfl⟩
  conv => arg 1; whnf
  refine atCall_P (hlen _) ?_
  conv => arg 1; whnf
  refine l29 call rgn n x s hx hs nm _ ?_ ?_ n 0 rfl (Nat.zero_le _) (by omega) (by rw [List.drop_zero])
  · intro h
    intros
    exact atLeave_P (leave_plain (.inl rfl) rfl) (hQ' _)
  · intro hR h
    intros
    conv => arg 1; whnf
    refine atLeave_P (leave_plain (.inl rfl) rfl) ?_
    have := hQ' h
    rw [hR] at this
    exact this
end Go.Proofs.Nt

/-
  Signatures: Check; contracts.
-/
namespace Go.Proofs.Nt
open Go.Sk
set_option linter.unusedVariables false
set_option linter.unusedSimpArgs false
set_option maxRecDepth 10000

/-! ### Lists, read -/

def decAll {α : Type} (dec : AV → Option α) : List AV → Option (List α)
  | [] => some []
  | v :: r => match dec v, decAll dec r with | some a, some l => some (a :: l) | _, _ => none

def decL {α : Type} (dec : AV → Option α) (enc : α → AV) : AV → Option (List α)
  | .nilsl => some []
  | .vsl xs _ => match decAll dec xs with | some l => if AV.beqL xs (l.map enc) then some l else none | none => none
  | _ => none

theorem decL_inv {α : Type} {dec : AV → Option α} {enc : α → AV} {x : AV} {l : List α} (h : decL dec enc x = some l) : IsL x (l.map enc) := by
  unfold decL at h
  split at h
  · simp only [Option.some.injEq] at h; subst h; exact .inl ⟨rfl, rfl⟩
  · split at h
    · split at h
      · rename_i hb
        simp only [Option.some.injEq] at h; subst h
        exact .inr ⟨_, by rw [AV.beqL_eq hb]⟩
      · cases h
    · cases h
  · cases h

theorem decAll_enc {α : Type} {dec : AV → Option α} {enc : α → AV} (hd : ∀ a, dec (enc a) = some a) : ∀ l : List α, decAll dec (l.map enc) = some l
  | [] => rfl
  | a :: l => by simp only [List.map_cons, decAll, hd, decAll_enc hd l]

theorem weakL_enc {α : Type} {enc : α → AV} (hw : ∀ a, weakV (enc a) = enc a) : ∀ l : List α, weakL (l.map enc) = l.map enc
  | [] => rfl
  | a :: l => by simp only [List.map_cons, weakL, hw, weakL_enc hw l]

theorem freeL_enc {α : Type} {enc : α → AV} (hf : ∀ a, freeV (enc a) = true) : ∀ l : List α, freeL (l.map enc) = true
  | [] => rfl
  | a :: l => by simp only [List.map_cons, freeL, hf, freeL_enc hf l, Bool.and_self]

theorem decL_of {α : Type} {dec : AV → Option α} {enc : α → AV} (hd : ∀ a, dec (enc a) = some a) (hw : ∀ a, weakV (enc a) = enc a) {x : AV} {l : List α} (h : IsL x (l.map enc)) : decL dec enc (weakV x) = some l := by
  rcases h with ⟨rfl, h⟩ | ⟨c, rfl⟩
  · have : l = [] := by simpa using h
    subst this; rfl
  · show decL dec enc (.vsl (weakL (l.map enc)) .unk) = _
    simp only [weakL_enc hw, decL, decAll_enc hd, AV.beqL_refl, if_true]

theorem freeL_of {α : Type} {enc : α → AV} (hf : ∀ a, freeV (enc a) = true) {x : AV} {l : List α} (h : IsL x (l.map enc)) : freeV x = true := by
  rcases h with ⟨rfl, h⟩ | ⟨c, rfl⟩
  · rfl
  · exact freeL_enc hf l

def decAg : AV → Option Ag
  | .agg [.str n, .int .i64 a] => some (n, a)
  | _ => none
def sigOf : AV → Option (List Ag) := decL decAg agV
theorem sigOf_of {x : AV} {s : List Ag} (h : IsSig x s) : sigOf (weakV x) = some s := decL_of (dec := decAg) (enc := agV) (fun _ => rfl) (fun _ => rfl) h
theorem sig_free {x : AV} {s : List Ag} (h : IsSig x s) : freeV x = true := freeL_of (enc := agV) (fun _ => rfl) h

/-! ### Check -/

def sigF (all : List Ag) : List Ag → Nat → Int × Int
  | [], _ => (0, 0)
  | a :: r, i => if wordT a.1 = false then (12, i) else if ofF (all.take i) a.1 0 ≥ 0 then (21, i) else if a.2 < 0 ∨ a.2 > 6 then (22, i) else sigF all r (i + 1)
def sigChk (s : List Ag) : Int × Int := if s.length = 0 then (20, 0) else if s.length > 32 then (15, 32) else sigF s s 0

def h28 (call : CallT) : Prop := ∀ s h, call (.func 78) [.str s] h = some (.ret (.bool (wordT s)), h)
def h29 (call : CallT) : Prop := ∀ x s nm h, IsSig x s → s.length ≤ 3000000000 → call (.func 34) [x, .str nm] h = some (.ret (.int .i64 (ofF s nm 0)), h)

def tab14 : Nat → Option (List Nat) := fun id => match Nat.beq id 999999 with | true => some [] | false => match Nat.beq id 10 with | true => some [0, 1, 2, 3, 4, 5, 6, 7] | false => none

theorem sl_L {P : Program} {t e : TypeId} {x : AV} {xs : List AV} {k : IntKind} {y : Int} {i n : Nat} {h : AH} (ht : P.underlying t = some (.slice e)) (hn : sizeT P e = some n) (hx : IsL x xs) (hy : y = i) (hi : i ≤ xs.length) (hh : headOk n xs = true) :
    ∃ x', vOf h (aSlice P t x none (some (.int k y)) none) = some (.ret x', h) ∧ IsL x' (xs.take i) := by
  subst hy
  rcases hx with ⟨rfl, rfl⟩ | ⟨c, rfl⟩
  · have : i = 0 := by simpa using hi
    subst this
    exact ⟨.nilsl, by simp [aSlice, ht, hn, aBounds, aOptBound, aBound, vOf], .inl ⟨rfl, rfl⟩⟩
  · have hb : aBounds xs.length xs.length none (some (.int k (i : Int))) none = some (0, i, xs.length) := by simp [aBounds, aOptBound, aBound, hi]
    unfold aSlice
    simp only [ht, hb, hn]
    cases c <;> simp [vOf] <;> exact .inr ⟨_, rfl⟩

theorem headOk_sig {s : List Ag} : headOk 2 (s.map agV) = true := by cases s <;> rfl

theorem l14 (call rgn n) (x0 : AV) (s : List Ag) (hx0 : IsSig x0 s) (hs : s.length ≤ 32) (h28 : h28 call) (h29 : h29 call) {Q : Option (AOut × AH) → Prop} {K : KC (AOut × AH)}
    (hR : ∀ {h} {g0 g1 g4 g5 g6 g7 g8 g9 g10 g11 g12 g13 g14 g15 g16 g17 g18 g19 g20 g21 g22 g23 g24 g25 g26 g27 g28 g29 g30 g31 g32 g33 g34 g35 g36 g37 g38 g39 g40 g41 g42 g43 g44 : AV}, Q (K .ret ⟨(g0 :: g1 :: .int .i64 (sigF s s 0).1 :: .int .i64 (sigF s s 0).2 :: g4 :: g5 :: g6 :: g7 :: g8 :: g9 :: g10 :: g11 :: g12 :: g13 :: g14 :: g15 :: g16 :: g17 :: g18 :: g19 :: g20 :: g21 :: g22 :: g23 :: g24 :: g25 :: g26 :: g27 :: g28 :: g29 :: g30 :: g31 :: g32 :: g33 :: g34 :: g35 :: g36 :: g37 :: g38 :: g39 :: g40 :: g41 :: g42 :: g43 :: g44 :: []), [], h⟩))
    (hK : sigF s s 0 = (0, 0) → ∀ {h} {g0 g1 g4 g5 g6 g7 g8 g9 g10 g11 g12 g13 g14 g15 g16 g17 g18 g19 g20 g21 g22 g23 g24 g25 g26 g27 g28 g29 g30 g31 g32 g33 g34 g35 g36 g37 g38 g39 g40 g41 g42 g43 g44 : AV}, Q (K (.exit 0) ⟨(g0 :: g1 :: .int .i64 0 :: .int .i64 0 :: g4 :: g5 :: g6 :: g7 :: g8 :: g9 :: g10 :: g11 :: g12 :: g13 :: g14 :: g15 :: g16 :: g17 :: g18 :: g19 :: g20 :: g21 :: g22 :: g23 :: g24 :: g25 :: g26 :: g27 :: g28 :: g29 :: g30 :: g31 :: g32 :: g33 :: g34 :: g35 :: g36 :: g37 :: g38 :: g39 :: g40 :: g41 :: g42 :: g43 :: g44 :: []), [], h⟩)) :
    ∀ (m i : Nat) {x : Int} {h : AH} {g1 g4 g5 g6 g7 g8 g9 g10 g11 g15 g16 g17 g18 g19 g20 g21 g22 g23 g24 g25 g26 g27 g28 g29 g30 g31 g32 g33 g34 g35 g36 g37 g38 g39 g40 g41 g42 g43 g44 : AV}, x = i → i ≤ s.length → s.length - i < m → sigF s s 0 = sigF s (s.drop i) i →
    Q (cIter (LB tab14 call rgn n 33 Tryz.f33 0) m ⟨(x0 :: g1 :: .int .i64 0 :: .int .i64 0 :: g4 :: g5 :: g6 :: g7 :: g8 :: g9 :: g10 :: g11 :: x0 :: .int .i64 s.length :: .int .i64 x :: g15 :: g16 :: g17 :: g18 :: g19 :: g20 :: g21 :: g22 :: g23 :: g24 :: g25 :: g26 :: g27 :: g28 :: g29 :: g30 :: g31 :: g32 :: g33 :: g34 :: g35 :: g36 :: g37 :: g38 :: g39 :: g40 :: g41 :: g42 :: g43 :: g44 :: []), [], h⟩ K) := by
  have u : Tryz.prog.underlying 22 = some (.slice 58) := by kernel_rfl
  intro m
  induction m with
  | zero => intros; omega
  | succ m ih =>
    intro i x h g1 g4 g5 g6 g7 g8 g9 g10 g11 g15 g16 g17 g18 g19 g20 g21 g22 g23 g24 g25 g26 g27 g28 g29 g30 g31 g32 g33 g34 g35 g36 g37 g38 g39 g40 g41 g42 g43 g44 hx hi hm hF
    rw [cIter_succ]
    conv => arg 1; whnf
    split
    · rename_i hd
      have hlt : i < s.length := by simp at hd; omega
      have hdrop : s.drop i = s[i] :: s.drop (i + 1) := List.drop_eq_getElem_cons hlt
      have hg : (s.map agV)[i]? = some (agV s[i]) := by rw [List.getElem?_map, List.getElem?_eq_getElem hlt]; rfl
      have hidx := fun h => idx_L (P := Tryz.prog) (t := 22) (e := 58) (n := 2) (h := h) (k := .i64) u (by kernel_rfl) hx0 hx hg rfl
      rw [hdrop] at hF
      generalize s[i] = g at hidx hF
      obtain ⟨gn, ga⟩ := g
      conv => arg 1; whnf
      refine atCall_P (hidx _) ?_
      conv => arg 1; whnf
      refine atCall_P (alloc_new (z := .agg [.str [], .int .i64 0]) (cs := [.str [], .int .i64 0]) (by kernel_rfl) rfl rfl) ?_
      conv => arg 1; whnf
      have hst := st_new (h := h) (cs0 := [.str [], .int .i64 0]) (v := .agg [.str gn, .int .i64 ga]) (cs := [.str gn, .int .i64 ga]) (T := 58) (n := 2) (P := Tryz.prog) (by kernel_rfl) rfl rfl rfl rfl
      refine atCall_P hst ?_
      obtain ⟨hget, hnx, hkeep⟩ := new_obj h [.str [], .int .i64 0] [.str gn, .int .i64 ga] 58
      generalize ((h.alloc (.cells [.str [], .int .i64 0] 58)).set h.next (.cells [.str gn, .int .i64 ga] 58)) = h2 at hget hnx hkeep ⊢
      generalize h.next = p at hget ⊢
      have ld0 : vOf h2 (aLoad Tryz.prog 9 (.ptr p 0) h2) = some (.ret (.str gn), h2) := ld_ptr (n := 1) hget (by kernel_rfl) (by kernel_rfl) rfl
      have ld1 : vOf h2 (aLoad Tryz.prog 3 (.ptr p 1) h2) = some (.ret (.int .i64 ga), h2) := ld_ptr (n := 1) hget (by kernel_rfl) (by kernel_rfl) rfl
      conv => arg 1; whnf
      refine atCall_P ld0 ?_
      conv => arg 1; whnf
      refine atCall_P (h28 _ _) ?_
      conv => arg 1; whnf
      cases e1 : wordT gn
      · conv => arg 1; whnf
        rw [hF] at hR
        simp only [sigF, e1, if_true, ← hx] at hR
        exact hR
      conv => arg 1; whnf
      obtain ⟨x', hsl, hx'⟩ := sl_L (P := Tryz.prog) (t := 22) (e := 58) (n := 2) (k := .i64) (h := h2) u (by kernel_rfl) hx0 hx (by rw [List.length_map]; omega) headOk_sig
      rw [← List.map_take] at hx'
      refine atCall_P hsl ?_
      conv => arg 1; whnf
      refine atCall_P ld0 ?_
      conv => arg 1; whnf
      refine atQuiet_P (h29 x' (s.take i) gn h2 hx' (by rw [List.length_take]; omega)) ?_
      conv => arg 1; whnf
      cases e2 : decide (ofF (s.take i) gn 0 ≥ 0)
      · have e2' : ¬ ofF (s.take i) gn 0 ≥ 0 := by simpa using e2
        have hF2 : sigF s s 0 = if ga < 0 ∨ ga > 6 then (22, (i : Int)) else sigF s (s.drop (i + 1)) (i + 1) := by
          rw [hF]; simp only [sigF, e1, if_neg (show ¬ (true = false) by simp), if_neg e2']
        conv => arg 1; whnf
        refine atCall_P ld1 ?_
        conv => arg 1; whnf
        cases e3 : decide (ga < 0)
        · conv => arg 1; whnf
          refine atCall_P ld1 ?_
          conv => arg 1; whnf
          cases e4 : decide (ga > 6)
          · conv => arg 1; whnf
            refine ih (i + 1) (by rw [hx]; exact wrap_succ (by omega)) (by omega) (by omega) ?_
            rw [hF2, if_neg (by simp at e3 e4; omega)]
          · conv => arg 1; whnf
            rw [hF2, if_pos (.inr (by simpa using e4)), ← hx] at hR
            exact hR
        · conv => arg 1; whnf
          rw [hF2, if_pos (.inl (by simpa using e3)), ← hx] at hR
          exact hR
      · conv => arg 1; whnf
        rw [hF] at hR
        simp only [sigF, e1, if_neg (show ¬ (true = false) by simp), if_pos (show ofF (s.take i) gn 0 ≥ 0 by simpa using e2), ← hx] at hR
        exact hR
    · rename_i hd
      have hlt : ¬ i < s.length := by simp at hd; omega
      refine hK ?_
      rw [hF, List.drop_eq_nil_of_le (by omega)]; rfl

theorem b14 (call rgn n) (x : AV) (s : List Ag) (hx : IsSig x s) (h28 : h28 call) (h29 : h29 call) (h : AH) (hn : 33 < n) :
    ∃ h', B tab14 call rgn n 33 Tryz.f33 [x] h = some (.ret (.tup [.int .i64 (sigChk s).1, .int .i64 (sigChk s).2]), h') := by
  have u : Tryz.prog.underlying 22 = some (.slice 58) := by kernel_rfl
  have hlen := fun h => len_L (X := ⟨Tryz.prog, mu0, call⟩) (mu := false) (h := h) u hx
  rw [List.length_map] at hlen
  suffices hq : (fun r : Option (AOut × AH) => ∃ h', r = some (.ret (.tup [.int .i64 (sigChk s).1, .int .i64 (sigChk s).2]), h')) (B tab14 call rgn n 33 Tryz.f33 [x] h) from hq
  generalize hQ : (fun r : Option (AOut × AH) => ∃ h', r = some (.ret (.tup [.int .i64 (sigChk s).1, .int .i64 (sigChk s).2]), h')) = Q
  have hQ' : ∀ a b h', (a, b) = sigChk s → Q (some (.ret (.tup [.int .i64 a, .int .i64 b]), h')) := fun a b h' e => by rw [← hQ, ← e]; exact ⟨h', rfl⟩
  conv => arg 1; whnf
  refine atCall_P (hlen _) ?_
  conv => arg 1; whnf
  split
  · rename_i e1
    conv => arg 1; whnf
    refine atLeave_P (leave_plain (.inl rfl) rfl) (hQ' 20 0 _ ?_)
    unfold sigChk; rw [if_pos (by simpa using e1)]
  rename_i e1
  conv => arg 1; whnf
  refine atCall_P (hlen _) ?_
  conv => arg 1; whnf
  split
  · rename_i e2
    conv => arg 1; whnf
    refine atLeave_P (leave_plain (.inl rfl) rfl) (hQ' 15 32 _ ?_)
    unfold sigChk; rw [if_neg (by simpa using e1), if_pos (by simp at e2; omega)]
  rename_i e2
  have hs : s.length ≤ 32 := by simp at e2; omega
  have hc : sigChk s = sigF s s 0 := by unfold sigChk; rw [if_neg (by simpa using e1), if_neg (by omega)]
  conv => arg 1; whnf
  refine atCall_P (hlen _) ?_
  conv => arg 1; whnf
  refine l14 call rgn n x s hx hs h28 h29 ?_ ?_ n 0 rfl (Nat.zero_le _) (by omega) (by rw [List.drop_zero])
  · intro h
    intros
    exact atLeave_P (leave_plain (.inl rfl) rfl) (hQ' _ _ _ hc.symm)
  · intro h0 h
    intros
    conv => arg 1; whnf
    exact atLeave_P (leave_plain (.inl rfl) rfl) (hQ' _ _ _ (by rw [hc, h0]))

/-! ### Contracts -/

/-- An answer of a function on a heap that does not matter. -/
theorem E0 : EvOK (mkEv Tryz.prog mu0 noHooks) := mkEv_ok (by kernel_rfl) (by kernel_rfl)

def s31 : List AV → Option AV | [x, .int .i64 a] => (match sigOf x with | some s => some (.int .i64 (portsN s a)) | none => none) | _ => none
def s36 : List AV → Option AV | [.str s, .int .u8 lo, .int .u8 hi] => some (.bool (beginsT s lo hi)) | _ => none
def s28 : List AV → Option AV | [.str s] => some (.bool (wordT s)) | _ => none
def s29 : List AV → Option AV | [x, .str nm] => (match sigOf x with | some s => if s.length ≤ 3000000000 then some (.int .i64 (ofF s nm 0)) else none | none => none) | _ => none
def s14 : List AV → Option AV | [x] => (match sigOf x with | some s => some (.tup [.int .i64 (sigChk s).1, .int .i64 (sigChk s).2]) | none => none) | _ => none
def hk31 := addHk noHooks 118 s31
def hk36 := addHk hk31 111 s36
def hk28 := addHk hk36 78 s28
def hk29 := addHk hk28 34 s29
def hk14 := addHk hk29 33 s14

/-- A contract out of a body's answer. -/
theorem ev_ofS {hk : Hooks} (tab : Nat → Option (List Nat)) {n : Nat} {f : FuncId} {fn : Func} {args : List AV} {v : AV} {h' : AH} (hh : hk f args .empty = none) (hf : Tryz.prog.funcs[f]? = some fn) (hc : fn.body = some (codeOf fn))
    (ht : tabFits Tryz.prog (mu0 f) tab (codeOf fn) = true) (hv : B tab (evCall (mkEv Tryz.prog mu0 hk) n) (rg Tryz.prog mu0 hk n f) n f fn args .empty = some (.ret v, h')) : ∃ n h', evCall (mkEv Tryz.prog mu0 hk) n (.func f) args .empty = some (.ret v, h') :=
  ⟨n + 1, h', ev_of_cBodyS tab hh hf hc ht hv⟩

theorem E31 : EvOK (mkEv Tryz.prog mu0 hk31) := mkEv_add E0 fun args v hs => by
  unfold s31 at hs; split at hs
  · split at hs
    · rename_i x a _ s hb
      cases hs
      exact ⟨rfl, ev_ofS shT (n := 1) rfl Tryz.func118 rfl (by kernel_rfl) (b31 _ _ _ x s a _ (decL_inv hb))⟩
    · cases hs
  · cases hs
theorem E36 : EvOK (mkEv Tryz.prog mu0 hk36) := mkEv_add E31 fun args v hs => by
  unfold s36 at hs; split at hs <;> cases hs
  exact ⟨rfl, ev_ofS noTab (n := 17) rfl Tryz.func111 rfl (by kernel_rfl) (b36 _ _ _ _ _ _ _ (by omega))⟩
theorem E28 : EvOK (mkEv Tryz.prog mu0 hk28) := mkEv_add E36 fun args v hs => by
  unfold s28 at hs; split at hs <;> cases hs
  exact ⟨rfl, ev_ofS noTab (n := 1) rfl Tryz.func78 rfl (by kernel_rfl) (b28 _ _ _ _ _ (fun s lo hi h => ev_hk rfl (by omega)))⟩
theorem E29 : EvOK (mkEv Tryz.prog mu0 hk29) := mkEv_add E28 fun args v hs => by
  unfold s29 at hs; split at hs
  · split at hs
    · rename_i x nm _ s hb
      split at hs
      · rename_i hl
        cases hs
        obtain ⟨h', hb'⟩ := b29 (evCall (mkEv Tryz.prog mu0 hk28) (s.length + 1)) (rg Tryz.prog mu0 hk28 (s.length + 1) 34) (s.length + 1) x s (decL_inv hb) hl nm .empty (by omega)
        exact ⟨rfl, ev_ofS shT rfl Tryz.func34 rfl (by kernel_rfl) hb'⟩
      · cases hs
    · cases hs
  · cases hs

/-- A contract that stands first. -/
theorem hk_top {hk : Hooks} {f : FuncId} {sp : List AV → Option AV} {args : List AV} {h : AH} {v : AV} (hf : freeL args = true) (hs : sp (weakL args) = some v) : addHk hk f sp f args h = some (v, h) := by
  rw [addHk_same hk f sp hf, hs]

theorem h29_of {hk : Hooks} {n : Nat} (hk29' : ∀ args h, hk 34 args h = hk29 34 args h) (hn : 0 < n) : h29 (evCall (mkEv Tryz.prog mu0 hk) n) := fun x s nm h hx hl => ev_hk (by
  rw [hk29']
  refine hk_top (by simp [freeL, freeV, sig_free hx]) ?_
  show (match sigOf (weakV x) with | some s => if s.length ≤ 3000000000 then some (AV.int .i64 (ofF s nm 0)) else none | none => none) = _
  rw [sigOf_of hx]; simp only [if_pos hl]) hn

theorem E14 : EvOK (mkEv Tryz.prog mu0 hk14) := mkEv_add E29 fun args v hs => by
  unfold s14 at hs; split at hs
  · split at hs
    · rename_i x _ s hb
      cases hs
      obtain ⟨h', hb'⟩ := b14 (evCall (mkEv Tryz.prog mu0 hk29) 34) (rg Tryz.prog mu0 hk29 34 33) 34 x s (decL_inv hb) (fun s h => ev_hk rfl (by omega)) (h29_of (fun _ _ => rfl) (by omega)) .empty (by omega)
      exact ⟨rfl, ev_ofS tab14 rfl Tryz.func33 rfl (by kernel_rfl) hb'⟩
    · cases hs
  · cases hs
end Go.Proofs.Nt

/-
  The ports of a net, one after the other.
-/
namespace Go.Proofs.Nt
open Go.Sk
set_option linter.unusedVariables false
set_option linter.unusedSimpArgs false
set_option maxRecDepth 10000

structure Nt where
  cells : List Int
  free : Int
  wires : List (Int × Int × Int × Int)

def intV (a : Int) : AV := .int .i64 a
def portV (p : Int × Int) : AV := .agg [.int .i64 p.1, .int .i64 p.2]
def wireV (w : Int × Int × Int × Int) : AV := .agg [.int .i64 w.1, .int .i64 w.2.1, .int .i64 w.2.2.1, .int .i64 w.2.2.2]

/-- The ports of a cell. -/
def cellPorts (s : List Ag) (c : Nat) (a : Int) : List (Int × Int) := (List.range' 0 (portsN s a).toNat).map fun (k : Nat) => ((c : Int), (k : Int))
def cellsPorts (s : List Ag) : List Int → Nat → List (Int × Int)
  | [], _ => []
  | a :: r, c => cellPorts s c a ++ cellsPorts s r (c + 1)
def freePorts (f : Int) : List (Int × Int) := (List.range' 0 f.toNat).map fun (k : Nat) => ((-1 : Int), (k : Int))
def portsL (s : List Ag) (n : Nt) : List (Int × Int) := freePorts n.free ++ cellsPorts s n.cells 0

/-- Rounds of a range over ports. -/
inductive YRun (call : CallT) (l : Sk.Id) (G : AH → Prop) : Nat → List (Int × Int) → AH → AH → Prop
  | nil (i : Nat) (h : AH) : YRun call l G i [] h h
  | cons {i : Nat} {p : Int × Int} {ps : List (Int × Int)} {h h1 h2 : AH} (hc : call (.yield l) [.int .i64 i, portV p] h = some (.ret (.bool true), h1)) (hg : G h1) (hr : YRun call l G (i + 1) ps h1 h2) : YRun call l G i (p :: ps) h h2
  | stop {i : Nat} {p : Int × Int} {ps : List (Int × Int)} {h h1 : AH} (hc : call (.yield l) [.int .i64 i, portV p] h = some (.ret (.bool false), h1)) : YRun call l G i (p :: ps) h h1

structure PortsG (b2 b3 : Sk.Id) (x c w : AV) (f : Int) (h : AH) : Prop where
  g2 : h.get b2 = some (.cells [x] 22)
  g3 : h.get b3 = some (.cells [c, .int .i64 f, w] 43)

/-- The free ones. -/
theorem l37a (call rgn n) (l b2 b3 : Sk.Id) (x c w : AV) (f : Int) (hf : f ≤ 1000000) (h' : AH) (rest : List (Int × Int)) {K : KC (AOut × AH)} {y : Option (AOut × AH)}
    (hR : ∀ {g0 g1 g2 g3 g4 g5 g6 g7 g8 g9 g10 g11 g12 g13 g14 g15 g16 g17 g18 g19 g20 g21 g22 g23 g24 g25 g26 g27 g28 g29 g30 g31 g32 g33 g34 g35 g36 g37 g38 g39 g40 g41 g42 g43 g44 g45 g46 g47 : AV}, K .ret ⟨(g0 :: g1 :: g2 :: g3 :: g4 :: g5 :: g6 :: g7 :: g8 :: g9 :: g10 :: g11 :: g12 :: g13 :: g14 :: g15 :: g16 :: g17 :: g18 :: g19 :: g20 :: g21 :: g22 :: g23 :: g24 :: g25 :: g26 :: g27 :: g28 :: g29 :: g30 :: g31 :: g32 :: g33 :: g34 :: g35 :: g36 :: g37 :: g38 :: g39 :: g40 :: g41 :: g42 :: g43 :: g44 :: g45 :: g46 :: g47 :: []), [], h'⟩ = y)
    (hK : ∀ {h : AH} {g3 g5 g6 g7 g8 g9 g10 g11 g12 g13 g14 g15 g16 g17 g18 g19 g20 g21 g22 g23 g24 g25 g26 g27 g28 g29 g30 g31 g32 g33 g34 g35 g36 g37 g38 g39 g40 g41 g42 g43 g44 g45 g46 g47 : AV}, PortsG b2 b3 x c w f h → YRun call l (PortsG b2 b3 x c w f) f.toNat rest h h' → K (.exit 0) ⟨(.fn (.yield l) [] [] :: .ptr b3 0 :: .ptr b2 0 :: g3 :: .int .i64 (f.toNat : Int) :: g5 :: g6 :: g7 :: g8 :: g9 :: g10 :: g11 :: g12 :: g13 :: g14 :: g15 :: g16 :: g17 :: g18 :: g19 :: g20 :: g21 :: g22 :: g23 :: g24 :: g25 :: g26 :: g27 :: g28 :: g29 :: g30 :: g31 :: g32 :: g33 :: g34 :: g35 :: g36 :: g37 :: g38 :: g39 :: g40 :: g41 :: g42 :: g43 :: g44 :: g45 :: g46 :: g47 :: []), [], h⟩ = y) :
    ∀ (m i : Nat) {z a : Int} {h : AH} {g3 g5 g6 g7 g8 g9 g12 g13 g14 g15 g16 g17 g18 g19 g20 g21 g22 g23 g24 g25 g26 g27 g28 g29 g30 g31 g32 g33 g34 g35 g36 g37 g38 g39 g40 g41 g42 g43 g44 g45 g46 g47 : AV}, z = i → a = i → i ≤ f.toNat → f.toNat - i < m → PortsG b2 b3 x c w f h → YRun call l (PortsG b2 b3 x c w f) i ((List.range' i (f.toNat - i)).map (fun (k : Nat) => ((-1 : Int), (k : Int))) ++ rest) h h' →
    cIter (LB shT call rgn n 117 Tryz.f117 0) m ⟨(.fn (.yield l) [] [] :: .ptr b3 0 :: .ptr b2 0 :: g3 :: .int .i64 a :: g5 :: g6 :: g7 :: g8 :: g9 :: .int .i64 f :: .int .i64 z :: g12 :: g13 :: g14 :: g15 :: g16 :: g17 :: g18 :: g19 :: g20 :: g21 :: g22 :: g23 :: g24 :: g25 :: g26 :: g27 :: g28 :: g29 :: g30 :: g31 :: g32 :: g33 :: g34 :: g35 :: g36 :: g37 :: g38 :: g39 :: g40 :: g41 :: g42 :: g43 :: g44 :: g45 :: g46 :: g47 :: []), [], h⟩ K = y := by
  intro m
  induction m with
  | zero => intros; omega
  | succ m ih =>
    intro i z a h g3 g5 g6 g7 g8 g9 g12 g13 g14 g15 g16 g17 g18 g19 g20 g21 g22 g23 g24 g25 g26 g27 g28 g29 g30 g31 g32 g33 g34 g35 g36 g37 g38 g39 g40 g41 g42 g43 g44 g45 g46 g47 hz ha hi hm hG hY
    rw [cIter_succ]
    conv => lhs; whnf
    split
    · rename_i hd
      have hlt : i < f.toNat := by simp at hd; omega
      have hr : List.range' i (f.toNat - i) = i :: List.range' (i + 1) (f.toNat - (i + 1)) := by
        rw [show f.toNat - i = (f.toNat - (i + 1)) + 1 by omega, List.range'_succ]
      rw [hr, List.map_cons, List.cons_append] at hY
      rw [hz, ha]
      conv => lhs; whnf
      cases hY with
      | cons hc hg hr' =>
        refine atCall_ret hc ?_
        conv => lhs; whnf
        exact ih (i + 1) (wrap_succ (by omega)) (wrap_succ (by omega)) (by omega) (by omega) hg hr'
      | stop hc =>
        refine atCall_ret hc ?_
        conv => lhs; whnf
        exact hR
    · rename_i hd
      have hlt : ¬ i < f.toNat := by simp at hd; omega
      have he : i = f.toNat := by omega
      rw [show f.toNat - i = 0 by omega] at hY
      subst ha
      rw [he] at hY ⊢
      exact hK hG hY

/-- Those of a cell. -/
theorem l37c (call rgn n) (l b2 b3 : Sk.Id) (x c w : AV) (f : Int) (cc : Nat) (M j0 : Nat) (hj : j0 + M ≤ 1000000000) {v24 v25 v26 : AV} (h' : AH) (rest : List (Int × Int)) {K : KC (AOut × AH)} {y : Option (AOut × AH)}
    (hR : ∀ {g0 g1 g2 g3 g4 g5 g6 g7 g8 g9 g10 g11 g12 g13 g14 g15 g16 g17 g18 g19 g20 g21 g22 g23 g24 g25 g26 g27 g28 g29 g30 g31 g32 g33 g34 g35 g36 g37 g38 g39 g40 g41 g42 g43 g44 g45 g46 g47 : AV}, K .ret ⟨(g0 :: g1 :: g2 :: g3 :: g4 :: g5 :: g6 :: g7 :: g8 :: g9 :: g10 :: g11 :: g12 :: g13 :: g14 :: g15 :: g16 :: g17 :: g18 :: g19 :: g20 :: g21 :: g22 :: g23 :: g24 :: g25 :: g26 :: g27 :: g28 :: g29 :: g30 :: g31 :: g32 :: g33 :: g34 :: g35 :: g36 :: g37 :: g38 :: g39 :: g40 :: g41 :: g42 :: g43 :: g44 :: g45 :: g46 :: g47 :: []), [], h'⟩ = y)
    (hK : ∀ {h : AH} {z : Int} {g3 g5 g7 g8 g9 g10 g11 g12 g13 g14 g15 g16 g17 g18 g19 g20 g21 g22 g23 g27 g28 g29 g30 g31 g32 g33 g34 g35 g36 g37 g38 g39 g40 g41 g42 g43 g44 g45 g46 g47 : AV}, z = ((j0 + M : Nat) : Int) → PortsG b2 b3 x c w f h → YRun call l (PortsG b2 b3 x c w f) (j0 + M) rest h h' → K (.exit 4) ⟨(.fn (.yield l) [] [] :: .ptr b3 0 :: .ptr b2 0 :: g3 :: .int .i64 z :: g5 :: .int .i64 cc :: g7 :: g8 :: g9 :: g10 :: g11 :: g12 :: g13 :: g14 :: g15 :: g16 :: g17 :: g18 :: g19 :: g20 :: g21 :: g22 :: g23 :: v24 :: v25 :: v26 :: g27 :: g28 :: g29 :: g30 :: g31 :: g32 :: g33 :: g34 :: g35 :: g36 :: g37 :: g38 :: g39 :: g40 :: g41 :: g42 :: g43 :: g44 :: g45 :: g46 :: g47 :: []), [], h⟩ = y) :
    ∀ (m i : Nat) {z a : Int} {h : AH} {g3 g5 g7 g8 g9 g10 g11 g12 g13 g14 g15 g16 g17 g18 g19 g20 g21 g22 g23 g27 g28 g29 g30 g31 g32 g35 g36 g37 g38 g39 g40 g41 g42 g43 g44 g45 g46 g47 : AV}, z = i → a = ((j0 + i : Nat) : Int) → i ≤ M → M - i < m → PortsG b2 b3 x c w f h → YRun call l (PortsG b2 b3 x c w f) (j0 + i) ((List.range' i (M - i)).map (fun (k : Nat) => ((cc : Int), (k : Int))) ++ rest) h h' →
    cIter (LB shT call rgn n 117 Tryz.f117 2) m ⟨(.fn (.yield l) [] [] :: .ptr b3 0 :: .ptr b2 0 :: g3 :: .int .i64 a :: g5 :: .int .i64 cc :: g7 :: g8 :: g9 :: g10 :: g11 :: g12 :: g13 :: g14 :: g15 :: g16 :: g17 :: g18 :: g19 :: g20 :: g21 :: g22 :: g23 :: v24 :: v25 :: v26 :: g27 :: g28 :: g29 :: g30 :: g31 :: g32 :: .int .i64 (M : Int) :: .int .i64 z :: g35 :: g36 :: g37 :: g38 :: g39 :: g40 :: g41 :: g42 :: g43 :: g44 :: g45 :: g46 :: g47 :: []), [], h⟩ K = y := by
  intro m
  induction m with
  | zero => intros; omega
  | succ m ih =>
    intro i z a h g3 g5 g7 g8 g9 g10 g11 g12 g13 g14 g15 g16 g17 g18 g19 g20 g21 g22 g23 g27 g28 g29 g30 g31 g32 g35 g36 g37 g38 g39 g40 g41 g42 g43 g44 g45 g46 g47 hz ha hi hm hG hY
    rw [cIter_succ]
    conv => lhs; whnf
    split
    · rename_i hd
      have hlt : i < M := by simp at hd; omega
      have hr : List.range' i (M - i) = i :: List.range' (i + 1) (M - (i + 1)) := by
        rw [show M - i = (M - (i + 1)) + 1 by omega, List.range'_succ]
      rw [hr, List.map_cons, List.cons_append] at hY
      rw [hz, ha]
      conv => lhs; whnf
      cases hY with
      | cons hc hg hr' =>
        refine atCall_ret hc ?_
        conv => lhs; whnf
        exact ih (i + 1) (wrap_succ (by omega)) (wrap_succ (by omega)) (by omega) (by omega) hg hr'
      | stop hc =>
        refine atCall_ret hc ?_
        conv => lhs; whnf
        exact hR
    · rename_i hd
      have hlt : ¬ i < M := by simp at hd; omega
      have he : i = M := by omega
      rw [show M - i = 0 by omega] at hY
      subst he
      exact hK ha hG hY

def h31 (call : CallT) : Prop := ∀ x s a h, IsSig x s → call (.func 118) [x, .int .i64 a] h = some (.ret (.int .i64 (portsN s a)), h)

/-- All cells. -/
theorem l37b (call rgn n) (l b2 b3 : Sk.Id) (x c w : AV) (f : Int) (s : List Ag) (cells : List Int) (hx : IsSig x s) (hc : IsL c (cells.map intV)) (hP : ∀ a, 0 ≤ portsN s a ∧ portsN s a ≤ 7) (hn : 7 < n) (hlen : cells.length ≤ 10000000) (h31 : h31 call) (h' : AH) {K : KC (AOut × AH)} {y : Option (AOut × AH)}
    (hR : ∀ {g0 g1 g2 g3 g4 g5 g6 g7 g8 g9 g10 g11 g12 g13 g14 g15 g16 g17 g18 g19 g20 g21 g22 g23 g24 g25 g26 g27 g28 g29 g30 g31 g32 g33 g34 g35 g36 g37 g38 g39 g40 g41 g42 g43 g44 g45 g46 g47 : AV}, K .ret ⟨(g0 :: g1 :: g2 :: g3 :: g4 :: g5 :: g6 :: g7 :: g8 :: g9 :: g10 :: g11 :: g12 :: g13 :: g14 :: g15 :: g16 :: g17 :: g18 :: g19 :: g20 :: g21 :: g22 :: g23 :: g24 :: g25 :: g26 :: g27 :: g28 :: g29 :: g30 :: g31 :: g32 :: g33 :: g34 :: g35 :: g36 :: g37 :: g38 :: g39 :: g40 :: g41 :: g42 :: g43 :: g44 :: g45 :: g46 :: g47 :: []), [], h'⟩ = y)
    (hK : ∀ {g0 g1 g2 g3 g4 g5 g6 g7 g8 g9 g10 g11 g12 g13 g14 g15 g16 g17 g18 g19 g20 g21 g22 g23 g24 g25 g26 g27 g28 g29 g30 g31 g32 g33 g34 g35 g36 g37 g38 g39 g40 g41 g42 g43 g44 g45 g46 g47 : AV}, K (.exit 2) ⟨(g0 :: g1 :: g2 :: g3 :: g4 :: g5 :: g6 :: g7 :: g8 :: g9 :: g10 :: g11 :: g12 :: g13 :: g14 :: g15 :: g16 :: g17 :: g18 :: g19 :: g20 :: g21 :: g22 :: g23 :: g24 :: g25 :: g26 :: g27 :: g28 :: g29 :: g30 :: g31 :: g32 :: g33 :: g34 :: g35 :: g36 :: g37 :: g38 :: g39 :: g40 :: g41 :: g42 :: g43 :: g44 :: g45 :: g46 :: g47 :: []), [], h'⟩ = y) :
    ∀ (m i j : Nat) {z a : Int} {h : AH} {g3 g5 g6 g7 g8 g9 g10 g11 g12 g13 g14 g15 g16 g17 g18 g19 g20 g21 g22 g23 g27 g28 g29 g30 g31 g32 g33 g34 g35 g36 g37 g38 g39 g40 g41 g42 g43 g44 g45 g46 g47 : AV}, z = i → a = j → i ≤ cells.length → cells.length - i < m → j ≤ 1000000 + 7 * i → PortsG b2 b3 x c w f h → YRun call l (PortsG b2 b3 x c w f) j (cellsPorts s (cells.drop i) i) h h' →
    cIter (LB shT call rgn n 117 Tryz.f117 1) m ⟨(.fn (.yield l) [] [] :: .ptr b3 0 :: .ptr b2 0 :: g3 :: .int .i64 a :: g5 :: g6 :: g7 :: g8 :: g9 :: g10 :: g11 :: g12 :: g13 :: g14 :: g15 :: g16 :: g17 :: g18 :: g19 :: g20 :: g21 :: g22 :: g23 :: c :: .int .i64 cells.length :: .int .i64 z :: g27 :: g28 :: g29 :: g30 :: g31 :: g32 :: g33 :: g34 :: g35 :: g36 :: g37 :: g38 :: g39 :: g40 :: g41 :: g42 :: g43 :: g44 :: g45 :: g46 :: g47 :: []), [], h⟩ K = y := by
  have u : Tryz.prog.underlying 40 = some (.slice 3) := by kernel_rfl
  intro m
  induction m with
  | zero => intros; omega
  | succ m ih =>
    intro i j z a h g3 g5 g6 g7 g8 g9 g10 g11 g12 g13 g14 g15 g16 g17 g18 g19 g20 g21 g22 g23 g27 g28 g29 g30 g31 g32 g33 g34 g35 g36 g37 g38 g39 g40 g41 g42 g43 g44 g45 g46 g47 hz ha hi hm hj hG hY
    rw [cIter_succ]
    conv => lhs; whnf
    split
    · rename_i hd
      have hlt : i < cells.length := by simp at hd; omega
      have hdrop : cells.drop i = cells[i] :: cells.drop (i + 1) := List.drop_eq_getElem_cons hlt
      have hg : (cells.map intV)[i]? = some (intV cells[i]) := by rw [List.getElem?_map, List.getElem?_eq_getElem hlt]; rfl
      have hidx := fun h => idx_L (P := Tryz.prog) (t := 40) (e := 3) (n := 1) (h := h) (k := .i64) u (by kernel_rfl) hc hz hg rfl
      rw [hdrop] at hY
      generalize cells[i] = g at hidx hY
      simp only [cellsPorts, cellPorts] at hY
      have ld2 : vOf h (aLoad Tryz.prog 22 (.ptr b2 0) h) = some (.ret x, h) := ld_ptr (n := 1) hG.g2 (by kernel_rfl) (by kernel_rfl) rfl
      conv => lhs; whnf
      refine atCall_ret (hidx _) ?_
      conv => lhs; whnf
      refine atCall_ret ld2 ?_
      conv => lhs; whnf
      refine atCall_ret (h31 x s g h hx) ?_
      obtain ⟨p0, p7⟩ := hP g
      generalize portsN s g = M at hY p0 p7
      obtain ⟨M, rfl⟩ : ∃ M' : Nat, M = M' := ⟨M.toNat, by omega⟩
      simp only [Int.toNat_natCast] at hY
      conv => lhs; whnf
      rw [hz]
      refine l37c call rgn n l b2 b3 x c w f i M j (by omega) h' (cellsPorts s (cells.drop (i + 1)) (i + 1)) ?_ ?_ n 0 (z := 0) rfl ha (Nat.zero_le _) (by omega) hG hY
      · intros
        exact hR
      intro h1 z1
      intros
      rename_i hz1 hG1 hY1
      conv => lhs; whnf
      exact ih (i + 1) (j + M) (wrap_succ (by omega)) hz1 (by omega) (by omega) (by omega) hG1 hY1
    · rename_i hd
      have hlt : ¬ i < cells.length := by simp at hd; omega
      rw [List.drop_eq_nil_of_le (by omega)] at hY
      cases hY
      exact hK

/-- The iterator's rounds. -/
theorem b37 (call rgn n) (l b2 b3 : Sk.Id) (x c w : AV) (f : Int) (s : List Ag) (cells : List Int) (hx : IsSig x s) (hc : IsL c (cells.map intV)) (hP : ∀ a, 0 ≤ portsN s a ∧ portsN s a ≤ 7) (hn : 7 < n) (hn2 : cells.length < n) (hn3 : f.toNat < n) (hlen : cells.length ≤ 10000000) (hf : f ≤ 1000000) (h31 : h31 call) (h h' : AH)
    (hG : PortsG b2 b3 x c w f h) (hY : YRun call l (PortsG b2 b3 x c w f) 0 (freePorts f ++ cellsPorts s cells 0) h h') :
    B shT call rgn n 117 Tryz.f117 [.fn (.yield l) [] [], .ptr b3 0, .ptr b2 0] h = some (.ret (.tup []), h') := by
  have u : Tryz.prog.underlying 40 = some (.slice 3) := by kernel_rfl
  have hl := fun h => len_L (X := ⟨Tryz.prog, mu0, call⟩) (mu := false) (h := h) u hc
  rw [List.length_map] at hl
  have ldf : vOf h (aLoad Tryz.prog 3 (.ptr b3 1) h) = some (.ret (.int .i64 f), h) := ld_ptr (n := 1) hG.g3 (by kernel_rfl) (by kernel_rfl) rfl
  conv => lhs; whnf
  refine atCall_ret ldf ?_
  conv => lhs; whnf
  have hR : ∀ {g0 g1 g2 g3 g4 g5 g6 g7 g8 g9 g10 g11 g12 g13 g14 g15 g16 g17 g18 g19 g20 g21 g22 g23 g24 g25 g26 g27 g28 g29 g30 g31 g32 g33 g34 g35 g36 g37 g38 g39 g40 g41 g42 g43 g44 g45 g46 g47 : AV}, atLeave Tryz.prog Tryz.f117 .ret ⟨(g0 :: g1 :: g2 :: g3 :: g4 :: g5 :: g6 :: g7 :: g8 :: g9 :: g10 :: g11 :: g12 :: g13 :: g14 :: g15 :: g16 :: g17 :: g18 :: g19 :: g20 :: g21 :: g22 :: g23 :: g24 :: g25 :: g26 :: g27 :: g28 :: g29 :: g30 :: g31 :: g32 :: g33 :: g34 :: g35 :: g36 :: g37 :: g38 :: g39 :: g40 :: g41 :: g42 :: g43 :: g44 :: g45 :: g46 :: g47 :: []), [], h'⟩ = some (.ret (.tup []), h') := by
    intros
    exact leave_eq (.inl rfl) rfl rfl
  refine l37a call rgn n l b2 b3 x c w f hf h' (cellsPorts s cells 0) ?_ ?_ n 0 (z := 0) (a := 0) rfl rfl (Nat.zero_le _) (by omega) hG hY
  · intros
    exact hR
  intro h1
  intros
  rename_i hG1 hY1
  have ldc : vOf h1 (aLoad Tryz.prog 40 (.ptr b3 0) h1) = some (.ret c, h1) := ld_ptr (n := 1) hG1.g3 (by kernel_rfl) (by kernel_rfl) rfl
  conv => lhs; whnf
  refine atCall_ret ldc ?_
  conv => lhs; whnf
  refine atCall_ret (hl _) ?_
  conv => lhs; whnf
  refine l37b call rgn n l b2 b3 x c w f s cells hx hc hP hn hlen h31 h' ?_ ?_ n 0 f.toNat (z := 0) rfl rfl (Nat.zero_le _) (by omega) (by omega) hG1 hY1
  · intros
    exact hR
  intros
  conv => lhs; whnf
  exact leave_eq (.inr rfl) rfl rfl
end Go.Proofs.Nt

/-
  Is it a port of the net?
-/
namespace Go.Proofs.Nt
open Go.Sk
set_option linter.unusedVariables false
set_option linter.unusedSimpArgs false
set_option maxRecDepth 10000

def isPort (s : List Ag) (cells : List Int) (f : Int) (p : Int × Int) : Bool :=
  if p.1 == -1 then decide (p.2 ≥ 0) && decide (p.2 < f)
  else decide (p.1 ≥ 0) && decide (p.1 < cells.length) && decide (p.2 ≥ 0) && (match cells[p.1.toNat]? with | some a => decide (p.2 < portsN s a) | none => false)

def tab30 : Nat → Option (List Nat) := fun id => match Nat.beq id 999999 with | true => some [] | false => match Nat.beq id 3 with | true => some [0, 1, 2, 3, 4, 5, 6, 7, 8, 9, 10, 11, 12, 13, 14, 15, 16, 17, 18, 19, 20, 21, 22, 23, 24, 25, 26, 27, 28, 29] | false => none

theorem kept_alloc {h : AH} {q : Sk.Id} {o o' : AO} (hq : h.get q = some o) (hlt : q.nat < h.next.nat) : (h.alloc o').get q = some o := by
  rw [AH.get_alloc, if_neg (by rintro rfl; omega)]; exact hq

theorem b30 (call rgn n) (i2 i3 : Sk.Id) (x c w : AV) (s : List Ag) (cells : List Int) (f : Int) (p : Int × Int) (h : AH) (hx : IsSig x s) (hc : IsL c (cells.map intV))
    (g2 : h.get i2 = some (.cells [x] 22)) (g3 : h.get i3 = some (.cells [c, .int .i64 f, w] 43)) (l2 : i2.nat < h.next.nat) (l3 : i3.nat < h.next.nat) (h31 : h31 call) :
    B tab30 call rgn n 130 Tryz.f130 [portV p, .ptr i3 0, .ptr i2 0] h = some (.ret (.bool (isPort s cells f p)), h.alloc (.cells [.int .i64 p.1, .int .i64 p.2] 60)) := by
  obtain ⟨p1, p2⟩ := p
  have u : Tryz.prog.underlying 40 = some (.slice 3) := by kernel_rfl
  have hl := fun h => len_L (X := ⟨Tryz.prog, mu0, call⟩) (mu := false) (h := h) u hc
  rw [List.length_map] at hl
  conv => lhs; whnf
  refine atCall_ret (box_new (cs := [.int .i64 p1, .int .i64 p2]) rfl rfl) ?_
  conv => lhs; whnf
  have gp : (h.alloc (.cells [.int .i64 p1, .int .i64 p2] 60)).get h.next = some (.cells [.int .i64 p1, .int .i64 p2] 60) := by rw [AH.get_alloc, if_pos rfl]
  have k2 := kept_alloc (o' := .cells [.int .i64 p1, .int .i64 p2] 60) g2 l2
  have k3 := kept_alloc (o' := .cells [.int .i64 p1, .int .i64 p2] 60) g3 l3
  generalize (h.alloc (.cells [.int .i64 p1, .int .i64 p2] 60)) = h1 at gp k2 k3 ⊢
  generalize h.next = q at gp ⊢
  have lp0 : vOf h1 (aLoad Tryz.prog 3 (.ptr q 0) h1) = some (.ret (.int .i64 p1), h1) := ld_ptr (n := 1) gp (by kernel_rfl) (by kernel_rfl) rfl
  have lp1 : vOf h1 (aLoad Tryz.prog 3 (.ptr q 1) h1) = some (.ret (.int .i64 p2), h1) := ld_ptr (n := 1) gp (by kernel_rfl) (by kernel_rfl) rfl
  have lf : vOf h1 (aLoad Tryz.prog 3 (.ptr i3 1) h1) = some (.ret (.int .i64 f), h1) := ld_ptr (n := 1) k3 (by kernel_rfl) (by kernel_rfl) rfl
  have lc : vOf h1 (aLoad Tryz.prog 40 (.ptr i3 0) h1) = some (.ret c, h1) := ld_ptr (n := 1) k3 (by kernel_rfl) (by kernel_rfl) rfl
  have lx : vOf h1 (aLoad Tryz.prog 22 (.ptr i2 0) h1) = some (.ret x, h1) := ld_ptr (n := 1) k2 (by kernel_rfl) (by kernel_rfl) rfl
  refine atCall_ret lp0 ?_
  conv => lhs; whnf
  cases e0 : (p1 == -1)
  · conv => lhs; whnf
    refine atCall_ret lp0 ?_
    conv => lhs; whnf
    cases e1 : decide (p1 ≥ 0)
    · conv => lhs; whnf
      refine leave_eq (.inl rfl) rfl ?_
      simp only [isPort, e0, e1, Bool.false_and, Bool.false_eq_true, if_false]; rfl
    conv => lhs; whnf
    refine atCall_ret lp0 ?_
    conv => lhs; whnf
    refine atCall_ret lc ?_
    conv => lhs; whnf
    refine atCall_ret (hl _) ?_
    conv => lhs; whnf
    cases e2 : decide (p1 < (cells.length : Int))
    · conv => lhs; whnf
      refine leave_eq (.inl rfl) rfl ?_
      simp only [isPort, e0, e1, e2, Bool.false_and, Bool.and_false, Bool.false_eq_true, if_false]; rfl
    conv => lhs; whnf
    refine atCall_ret lp1 ?_
    conv => lhs; whnf
    cases e3 : decide (p2 ≥ 0)
    · conv => lhs; whnf
      refine leave_eq (.inl rfl) rfl ?_
      simp only [isPort, e0, e1, e2, e3, Bool.false_and, Bool.and_false, Bool.false_eq_true, if_false]; rfl
    have hlt : p1.toNat < cells.length := by simp at e1 e2; omega
    have hpn : p1 = p1.toNat := by simp at e1; omega
    have hg : (cells.map intV)[p1.toNat]? = some (intV cells[p1.toNat]) := by rw [List.getElem?_map, List.getElem?_eq_getElem hlt]; rfl
    have hidx := fun h => idx_L (P := Tryz.prog) (t := 40) (e := 3) (n := 1) (h := h) (k := .i64) u (by kernel_rfl) hc hpn hg rfl
    conv => lhs; whnf
    refine atCall_ret lp1 ?_
    conv => lhs; whnf
    refine atCall_ret lx ?_
    conv => lhs; whnf
    refine atCall_ret lc ?_
    conv => lhs; whnf
    refine atCall_ret lp0 ?_
    conv => lhs; whnf
    refine atCall_ret (hidx _) ?_
    conv => lhs; whnf
    refine atQuiet_ret (h31 x s _ _ hx) ?_
    conv => lhs; whnf
    refine leave_eq (.inl rfl) rfl ?_
    simp only [isPort, e0, e1, e2, e3, Bool.true_and, Bool.false_eq_true, if_false, List.getElem?_eq_getElem hlt]; rfl
  · conv => lhs; whnf
    refine atCall_ret lp1 ?_
    conv => lhs; whnf
    cases e1 : decide (p2 ≥ 0)
    · conv => lhs; whnf
      refine leave_eq (.inl rfl) rfl ?_
      simp only [isPort, e0, e1, Bool.false_and, if_true]; rfl
    conv => lhs; whnf
    refine atCall_ret lp1 ?_
    conv => lhs; whnf
    refine atCall_ret lf ?_
    conv => lhs; whnf
    refine leave_eq (.inl rfl) rfl ?_
    simp only [isPort, e0, e1, Bool.true_and, if_true]; rfl
end Go.Proofs.Nt

/-
  Maps from ports.
-/
namespace Go.Proofs.Nt
open Go.Sk
set_option linter.unusedVariables false
set_option linter.unusedSimpArgs false
set_option maxRecDepth 10000

theorem eqIn_int {d : Nat} {t : TypeId} {k : IntKind} (ht : Tryz.prog.underlying t = some (.int k)) (a b : Int) : aEqIn Tryz.prog (d + 1) t (.int .i64 a) (.int .i64 b) = some (a == b) := by
  simp [aEqIn, ht]

theorem eq_port (p q : Int × Int) : aEq Tryz.prog 60 (portV p) (portV q) = some (p.1 == q.1 && p.2 == q.2) := by
  obtain ⟨a, b⟩ := p
  obtain ⟨c, d⟩ := q
  have e : aEq Tryz.prog 60 (portV (a, b)) (portV (c, d)) = (match aEqIn Tryz.prog 9999 3 (.int .i64 a) (.int .i64 c) with
    | some true => (match aEqIn Tryz.prog 9999 3 (.int .i64 b) (.int .i64 d) with | some true => some true | some false => some false | none => none)
    | some false => some false
    | none => none) := by kernel_rfl
  rw [e, eqIn_int (d := 9998) (k := .i64) (by kernel_rfl), eqIn_int (d := 9998) (k := .i64) (by kernel_rfl)]
  cases a == c <;> cases b == d <;> rfl

theorem key_port (p : Int × Int) : aKeyOk Tryz.prog 10000 60 (portV p) = true := by
  obtain ⟨a, b⟩ := p
  kernel_rfl

theorem beq_port (p : Int × Int) : plainBeq (portV p) (portV p) = true := by
  obtain ⟨a, b⟩ := p
  simp [plainBeq, portV, plainCellsEq, plainCellEq]

/-- A map's entries, their keys being ports. -/
abbrev Ent := (Int × Int) × AV × Nat
def entV (e : Ent) : AV × AV × Nat := (portV e.1, e.2.1, e.2.2)

def findE (p : Int × Int) : List Ent → Nat → Option (Nat × AV × Nat)
  | [], _ => none
  | e :: r, i => if p = e.1 then some (i, e.2.1, e.2.2) else findE p r (i + 1)

theorem find_port (p : Int × Int) : ∀ (L : List Ent) (i : Nat), aFind (fun e => aEq Tryz.prog 60 (portV p) e) (portV p) (L.map entV) i = some (findE p L i)
  | [], i => rfl
  | e :: r, i => by
    simp only [List.map_cons, entV, aFind, eq_port, findE]
    by_cases h : p = e.1
    · have : (p.1 == e.1.1 && p.2 == e.1.2) = true := by rw [h]; simp
      rw [this, if_pos h]
      simp only [h, beq_port, if_true]
    · have : (p.1 == e.1.1 && p.2 == e.1.2) = false := by
        cases hh : (p.1 == e.1.1 && p.2 == e.1.2) with
        | false => rfl
        | true =>
          simp only [Bool.and_eq_true, beq_iff_eq] at hh
          exact absurd (Prod.ext hh.1 hh.2) h
      rw [this, if_neg h]
      exact find_port p r (i + 1)

theorem findKey_port (p : Int × Int) (L : List Ent) : aFindKey Tryz.prog 60 (portV p) (L.map entV) = some (findE p L 0) := by
  simp only [aFindKey, key_port, if_true, find_port]

/-- What a map holds for a port. -/
def valE (p : Int × Int) (L : List Ent) : Option AV := (findE p L 0).map (·.2.1)

theorem findE_shift (p : Int × Int) : ∀ (L : List Ent) (i : Nat), (findE p L i).map (·.2.1) = (findE p L 0).map (·.2.1) ∧ (∀ k v b, findE p L i = some (k, v, b) → i ≤ k ∧ k - i < L.length ∧ findE p L 0 = some (k - i, v, b))
  | [], i => ⟨rfl, fun k v b h => by cases h⟩
  | e :: r, i => by
    simp only [findE]
    by_cases h : p = e.1
    · simp only [if_pos h]
      refine ⟨rfl, fun k v b h => ?_⟩
      simp only [Option.some.injEq, Prod.mk.injEq] at h
      obtain ⟨rfl, rfl, rfl⟩ := h
      exact ⟨Nat.le_refl _, by simp, by simp⟩
    · simp only [if_neg h]
      obtain ⟨h1, h2⟩ := findE_shift p r (i + 1)
      obtain ⟨h3, h4⟩ := findE_shift p r 1
      refine ⟨h1.trans h3.symm, fun k v b hk => ?_⟩
      obtain ⟨q1, q2, q3⟩ := h2 k v b hk
      refine ⟨by omega, by simp; omega, ?_⟩
      have : ∀ (L : List Ent) (i j : Nat) k v b, findE p L i = some (k, v, b) → findE p L (i + j) = some (k + j, v, b) := by
        intro L
        induction L with
        | nil => intro i j k v b h; cases h
        | cons e r ih =>
          intro i j k v b h
          simp only [findE] at h ⊢
          split
          · rename_i he
            rw [if_pos he] at h
            simp only [Option.some.injEq, Prod.mk.injEq] at h
            obtain ⟨rfl, rfl, rfl⟩ := h; rfl
          · rename_i he
            rw [if_neg he] at h
            have := ih (i + 1) j k v b h
            rw [show i + j + 1 = i + 1 + j by omega]; exact this
      have := this r 0 1 _ _ _ q3
      rw [this]; simp; omega

theorem valE_set {p q : Int × Int} {v : AV} : ∀ {L : List Ent} {k : Nat} {u : AV} {b : Nat}, findE p L 0 = some (k, u, b) → valE q (setNth L k fun e => (p, v, e.2.2)) = if q = p then some v else valE q L
  | [], k, u, b, h => by cases h
  | e :: r, k, u, b, h => by
    simp only [findE] at h
    split at h
    · rename_i he
      simp only [Option.some.injEq, Prod.mk.injEq] at h
      obtain ⟨rfl, rfl, rfl⟩ := h
      show valE q ((p, v, e.2.2) :: r) = _
      simp only [valE, findE]
      by_cases hq : q = p
      · simp only [if_pos hq]; rfl
      · rw [if_neg hq, if_neg hq, if_neg (by rw [← he]; exact hq)]
    · rename_i he
      obtain ⟨h1, h2, h3⟩ := (findE_shift p r 1).2 k u b h
      obtain ⟨k, rfl⟩ : ∃ k', k = k' + 1 := ⟨k - 1, by omega⟩
      have ih := valE_set (q := q) (v := v) h3
      show valE q (e :: setNth r k fun e => (p, v, e.2.2)) = _
      simp only [Nat.add_sub_cancel] at ih
      simp only [valE, findE] at ih ⊢
      by_cases hq : q = e.1
      · have hne : q ≠ p := fun h => he (h ▸ hq)
        simp only [if_pos hq, if_neg hne]
      · simp only [if_neg hq]
        rw [(findE_shift q _ 1).1, (findE_shift q _ 1).1]; exact ih

theorem valE_add {p q : Int × Int} {v : AV} {c : Nat} : ∀ {L : List Ent} {i : Nat}, findE p L i = none → valE q (L ++ [(p, v, c)]) = if q = p then some v else valE q L
  | [], i, h => by
    simp only [List.nil_append, valE, findE]
    by_cases hq : q = p
    · simp [hq]
    · simp [hq]
  | e :: r, i, h => by
    simp only [findE] at h
    split at h
    · cases h
    · rename_i he
      have ih := valE_add (q := q) (v := v) (c := c) h
      simp only [List.cons_append, valE, findE] at ih ⊢
      by_cases hq : q = e.1
      · have hne : q ≠ p := fun h => he (h ▸ hq)
        simp only [if_pos hq, if_neg hne]
      · simp only [if_neg hq]
        rw [(findE_shift q _ 1).1, (findE_shift q _ 1).1]; exact ih

/-- A map in the heap. -/
def MapAt (h : AH) (r : Sk.Id) (M : Int × Int → Option AV) : Prop := ∃ (L : List Ent) (clock : Nat), h.get r = some (.map (L.map entV) clock) ∧ ∀ p, valE p L = M p

theorem setNth_map (f : Ent → Ent) (g : AV × AV × Nat → AV × AV × Nat) (hfg : ∀ e, entV (f e) = g (entV e)) : ∀ (L : List Ent) (k : Nat), setNth (L.map entV) k g = (setNth L k f).map entV
  | [], k => rfl
  | e :: r, 0 => by simp only [List.map_cons, setNth, hfg]
  | e :: r, k + 1 => by simp only [List.map_cons, setNth, setNth_map f g hfg r k]

theorem lookup_M {t et : TypeId} {h : AH} {r : Sk.Id} {M : Int × Int → Option AV} {z : AV} (ht : Tryz.prog.underlying t = some (.map 60 et)) (hz : zeroT Tryz.prog et = some z) (hM : MapAt h r M) (p : Int × Int) :
    vOf h (aLookup Tryz.prog t (.map r) (portV p) false h) = some (.ret ((M p).getD z), h) := by
  obtain ⟨L, clock, hg, hv⟩ := hM
  have := hv p
  unfold valE at this
  simp only [aLookup, ht, aEntries, hg, findKey_port]
  cases hf : findE p L 0 with
  | none => rw [hf] at this; rw [← this]; simp [hz, vOf]
  | some e => obtain ⟨k, v, b⟩ := e; rw [hf] at this; rw [← this]; simp [vOf]

theorem update_M {t et : TypeId} {h : AH} {r : Sk.Id} {M : Int × Int → Option AV} (ht : Tryz.prog.underlying t = some (.map 60 et)) (hM : MapAt h r M) (p : Int × Int) (v : AV) :
    ∃ o, hOf (aMapUpdate Tryz.prog t (.map r) (portV p) v h) = some (.ret undefA, h.set r o) ∧ MapAt (h.set r o) r (fun q => if q = p then some v else M q) := by
  obtain ⟨L, clock, hg, hv⟩ := hM
  simp only [aMapUpdate, ht, hg, findKey_port]
  cases hf : findE p L 0 with
  | none =>
    refine ⟨.map ((L ++ [(p, v, clock)]).map entV) (clock + 1), ?_, L ++ [(p, v, clock)], clock + 1, by rw [AH.get_set, if_pos rfl], fun q => ?_⟩
    · simp [hOf, entV]
    · rw [valE_add hf]; simp only [hv]
  | some e =>
    obtain ⟨k, u, b⟩ := e
    refine ⟨.map ((setNth L k fun e => (p, v, e.2.2)).map entV) clock, ?_, setNth L k fun e => (p, v, e.2.2), clock, by rw [AH.get_set, if_pos rfl], fun q => ?_⟩
    · simp only [hOf]
      rw [setNth_map (fun e => (p, v, e.2.2)) (fun e => (portV p, v, e.2.2)) (fun e => rfl)]
    · rw [valE_set hf]; simp only [hv]
end Go.Proofs.Nt

/-
  What each port is linked to.
-/
namespace Go.Proofs.Nt
open Go.Sk
set_option linter.unusedVariables false
set_option linter.unusedSimpArgs false
set_option maxRecDepth 10000

abbrev Wr := Int × Int × Int × Int
def wA (w : Wr) : Int × Int := (w.1, w.2.1)
def wB (w : Wr) : Int × Int := (w.2.2.1, w.2.2.2)

abbrev Mp := Int × Int → Option AV
def updM (M : Mp) (p : Int × Int) (v : AV) : Mp := fun q => if q = p then some v else M q
def linkM : List Wr → Mp → Mp
  | [], M => M
  | w :: r, M => linkM r (updM (updM M (wA w) (portV (wB w))) (wB w) (portV (wA w)))

def tab27 : Nat → Option (List Nat) := fun id => match Nat.beq id 999999 with | true => some [] | false => match Nat.beq id 5 with | true => some [0, 1, 2, 3, 4, 5, 6, 7, 8, 9, 10, 11] | false => match Nat.beq id 500005 with | true => some [] | false => none

theorem fits27 : tabFits Tryz.prog (mu0 88) tab27 (codeOf Tryz.f88) = true := by kernel_rfl

/-- Nothing that was there is lost. -/
def Kept (n0 : Nat) (g : AH) (h : AH) : Prop := (∀ q o, g.get q = some o → q.nat < n0 → h.get q = some o) ∧ n0 ≤ h.next.nat

theorem Kept.alloc {n0 : Nat} {g h : AH} (hk : Kept n0 g h) (o : AO) : Kept n0 g (h.alloc o) :=
  ⟨fun q o' hq hlt => kept_alloc (hk.1 q o' hq hlt) (Nat.lt_of_lt_of_le hlt hk.2), by rw [AH.next_alloc, Id.nat_succ]; have := hk.2; omega⟩
theorem Kept.set {n0 : Nat} {g h : AH} (hk : Kept n0 g h) {r : Sk.Id} (o : AO) (hr : n0 ≤ r.nat) : Kept n0 g (h.set r o) :=
  ⟨fun q o' hq hlt => by rw [AH.get_set, if_neg (by rintro rfl; omega)]; exact hk.1 q o' hq hlt, by rw [AH.next_set]; exact hk.2⟩
theorem Kept.refl (h : AH) : Kept h.next.nat h h := ⟨fun q o hq _ => hq, Nat.le_refl _⟩
theorem MapAt.keep {h h' : AH} {r : Sk.Id} {M : Mp} (hM : MapAt h r M) (hk : ∀ o, h.get r = some o → h'.get r = some o) : MapAt h' r M := by
  obtain ⟨L, c, h1, h2⟩ := hM
  exact ⟨L, c, hk _ h1, h2⟩

theorem l27 (call rgn n) (w : AV) (wires : List Wr) (hw : IsL w (wires.map wireV)) (hlen : wires.length ≤ 1000000000) (r : Sk.Id) (n0 : Nat) (g : AH) (hr0 : n0 ≤ r.nat) (T : Mp) {K : KC (AOut × AH)} {Q : Option (AOut × AH) → Prop}
    (hK : ∀ {h : AH} {g0 g1 g2 g4 g5 g6 g7 g8 g9 g10 g11 g12 g13 g14 g15 g16 g17 g18 g19 g20 g21 g22 g23 g24 g25 : AV}, MapAt h r T → r.nat < h.next.nat → Kept n0 g h → Q (K (.exit 0) ⟨(g0 :: g1 :: g2 :: .map r :: g4 :: g5 :: g6 :: g7 :: g8 :: g9 :: g10 :: g11 :: g12 :: g13 :: g14 :: g15 :: g16 :: g17 :: g18 :: g19 :: g20 :: g21 :: g22 :: g23 :: g24 :: g25 :: []), [], h⟩)) :
    ∀ (m i : Nat) {z : Int} {M : Mp} {h : AH} {g0 g1 g2 g4 g5 g6 g7 g11 g12 g13 g14 g15 g16 g17 g18 g19 g20 g21 g22 g23 g24 g25 : AV}, z = i → i ≤ wires.length → wires.length - i < m → MapAt h r M → r.nat < h.next.nat → Kept n0 g h → T = linkM (wires.drop i) M →
    Q (cIter (LB tab27 call rgn n 88 Tryz.f88 0) m ⟨(g0 :: g1 :: g2 :: .map r :: g4 :: g5 :: g6 :: g7 :: w :: .int .i64 wires.length :: .int .i64 z :: g11 :: g12 :: g13 :: g14 :: g15 :: g16 :: g17 :: g18 :: g19 :: g20 :: g21 :: g22 :: g23 :: g24 :: g25 :: []), [], h⟩ K) := by
  have u : Tryz.prog.underlying 41 = some (.slice 62) := by kernel_rfl
  have um : Tryz.prog.underlying 87 = some (.map 60 60) := by kernel_rfl
  intro m
  induction m with
  | zero => intros; omega
  | succ m ih =>
    intro i z M h g0 g1 g2 g4 g5 g6 g7 g11 g12 g13 g14 g15 g16 g17 g18 g19 g20 g21 g22 g23 g24 g25 hz hi hm hM hrn hk hT
    rw [cIter_succ]
    conv => arg 1; whnf
    split
    · rename_i hd
      have hlt : i < wires.length := by simp at hd; omega
      have hdrop : wires.drop i = wires[i] :: wires.drop (i + 1) := List.drop_eq_getElem_cons hlt
      have hg : (wires.map wireV)[i]? = some (wireV wires[i]) := by rw [List.getElem?_map, List.getElem?_eq_getElem hlt]; rfl
      have hidx := fun h => idx_L (P := Tryz.prog) (t := 41) (e := 62) (n := 4) (h := h) (k := .i64) u (by kernel_rfl) hw hz hg rfl
      rw [hdrop] at hT
      simp only [linkM] at hT
      generalize wires[i] = ww at hidx hT
      obtain ⟨a, b, c, d⟩ := ww
      simp only [wA, wB] at hT
      conv => arg 1; whnf
      refine atCall_P (hidx _) ?_
      conv => arg 1; whnf
      refine atCall_P (alloc_new (z := .agg [.int .i64 0, .int .i64 0, .int .i64 0, .int .i64 0]) (cs := [.int .i64 0, .int .i64 0, .int .i64 0, .int .i64 0]) (by kernel_rfl) rfl rfl) ?_
      conv => arg 1; whnf
      have hst := st_new (h := h) (cs0 := [.int .i64 0, .int .i64 0, .int .i64 0, .int .i64 0]) (v := .agg [.int .i64 a, .int .i64 b, .int .i64 c, .int .i64 d]) (cs := [.int .i64 a, .int .i64 b, .int .i64 c, .int .i64 d]) (T := 62) (n := 4) (P := Tryz.prog) (by kernel_rfl) rfl rfl rfl rfl
      refine atCall_P hst ?_
      obtain ⟨hget, hnx, hkeep⟩ := new_obj h [.int .i64 0, .int .i64 0, .int .i64 0, .int .i64 0] [.int .i64 a, .int .i64 b, .int .i64 c, .int .i64 d] 62
      have hM2 := hM.keep (fun o ho => hkeep r o ho hrn)
      have hk2 : Kept n0 g ((h.alloc (.cells [.int .i64 0, .int .i64 0, .int .i64 0, .int .i64 0] 62)).set h.next (.cells [.int .i64 a, .int .i64 b, .int .i64 c, .int .i64 d] 62)) := (hk.alloc _).set _ hk.2
      have hpr : h.next ≠ r := by rintro rfl; omega
      generalize ((h.alloc (.cells [.int .i64 0, .int .i64 0, .int .i64 0, .int .i64 0] 62)).set h.next (.cells [.int .i64 a, .int .i64 b, .int .i64 c, .int .i64 d] 62)) = h2 at hget hnx hkeep hM2 hk2 ⊢
      have hrn2 : r.nat < h2.next.nat := by omega
      generalize h.next = p at hget hpr ⊢
      have lA : vOf h2 (aLoad Tryz.prog 60 (.ptr p 0) h2) = some (.ret (portV (a, b)), h2) := ld_agg (n := 2) hget (by kernel_rfl) (by kernel_rfl) (by simp)
      have lB : vOf h2 (aLoad Tryz.prog 60 (.ptr p 2) h2) = some (.ret (portV (c, d)), h2) := ld_agg (n := 2) hget (by kernel_rfl) (by kernel_rfl) (by simp)
      obtain ⟨o1, hu1, hM3⟩ := update_M um hM2 (a, b) (portV (c, d))
      obtain ⟨o2, hu2, hM4⟩ := update_M um hM3 (c, d) (portV (a, b))
      repeat' (first
        | refine atCall_P lA ?_
        | refine atCall_P lB ?_
        | refine atCall_P hu1 ?_
        | refine atCall_P hu2 ?_
        | (conv => arg 1; whnf; done))
      conv => arg 1; whnf
      refine ih (i + 1) (by rw [hz]; exact wrap_succ (by omega)) (by omega) (by omega) hM4 (by rw [AH.next_set, AH.next_set]; exact hrn2) ((hk2.set _ hr0).set _ hr0) hT
    · rename_i hd
      have hlt : ¬ i < wires.length := by simp at hd; omega
      refine hK ?_ hrn hk
      rw [hT, List.drop_eq_nil_of_le (by omega)]; exact hM

theorem b27 (call rgn n) (c w : AV) (f : Int) (wires : List Wr) (hw : IsL w (wires.map wireV)) (hlen : wires.length ≤ 1000000000) (hn : wires.length < n) (h : AH) (hsc : c.scalar = true) :
    ∃ r h', B tab27 call rgn n 88 Tryz.f88 [.agg [c, .int .i64 f, w]] h = some (.ret (.map r), h') ∧ MapAt h' r (linkM wires fun _ => none) ∧ h.next.nat ≤ r.nat ∧ r.nat < h'.next.nat ∧ Kept h.next.nat h h' := by
  have u : Tryz.prog.underlying 41 = some (.slice 62) := by kernel_rfl
  have hl := fun h => len_L (X := ⟨Tryz.prog, mu0, call⟩) (mu := false) (h := h) u hw
  rw [List.length_map] at hl
  have hws : w.scalar = true := by rcases hw with ⟨rfl, _⟩ | ⟨c, rfl⟩ <;> rfl
  suffices hq : (fun y : Option (AOut × AH) => ∃ r h', y = some (.ret (.map r), h') ∧ MapAt h' r (linkM wires fun _ => none) ∧ h.next.nat ≤ r.nat ∧ r.nat < h'.next.nat ∧ Kept h.next.nat h h') (B tab27 call rgn n 88 Tryz.f88 [.agg [c, .int .i64 f, w]] h) from hq
  generalize hQ : (fun y : Option (AOut × AH) => ∃ r h', y = some (.ret (.map r), h') ∧ MapAt h' r (linkM wires fun _ => none) ∧ h.next.nat ≤ r.nat ∧ r.nat < h'.next.nat ∧ Kept h.next.nat h h') = Q
  have hQ' : ∀ r h', MapAt h' r (linkM wires fun _ => none) → h.next.nat ≤ r.nat → r.nat < h'.next.nat → Kept h.next.nat h h' → Q (some (.ret (.map r), h')) := fun r h' h1 h2 h3 h4 => by rw [← hQ]; exact ⟨r, h', rfl, h1, h2, h3, h4⟩
  conv => arg 1; whnf
  refine atCall_P (box_new (cs := [c, .int .i64 f, w]) rfl (by simp only [List.all_cons, hsc, hws, List.all_nil]; rfl)) ?_
  conv => arg 1; whnf
  have g1 : (h.alloc (.cells [c, .int .i64 f, w] 43)).get h.next = some (.cells [c, .int .i64 f, w] 43) := by rw [AH.get_alloc, if_pos rfl]
  have n1 : (h.alloc (.cells [c, .int .i64 f, w] 43)).next.nat = h.next.nat + 1 := by rw [AH.next_alloc, Id.nat_succ]
  have k1 := (Kept.refl h).alloc (.cells [c, .int .i64 f, w] 43)
  generalize (h.alloc (.cells [c, .int .i64 f, w] 43)) = h1 at g1 n1 k1 ⊢
  generalize h.next = q at g1 n1 k1 hQ' ⊢
  have g2 : (h1.alloc (.map [] 0)).get h1.next = some (.map [] 0) := by rw [AH.get_alloc, if_pos rfl]
  have g3 := kept_alloc (o' := .map [] 0) g1 (by omega)
  have n2 : (h1.alloc (.map [] 0)).next.nat = h1.next.nat + 1 := by rw [AH.next_alloc, Id.nat_succ]
  have k2 := k1.alloc (.map [] 0)
  generalize (h1.alloc (.map [] 0)) = h2 at g2 g3 n2 k2 ⊢
  generalize h1.next = r at g2 n2 n1 ⊢
  have lw : vOf h2 (aLoad Tryz.prog 41 (.ptr q 2) h2) = some (.ret w, h2) := ld_ptr (n := 1) g3 (by kernel_rfl) (by kernel_rfl) rfl
  refine atCall_P lw ?_
  conv => arg 1; whnf
  refine atCall_P (hl _) ?_
  conv => arg 1; whnf
  refine l27 call rgn n w wires hw hlen r q.nat h (by omega) (linkM wires fun _ => none) ?_ n 0 (z := 0) rfl (Nat.zero_le _) (by omega) (M := fun _ => none) ⟨[], 0, g2, fun p => rfl⟩ (by omega) k2 (by rw [List.drop_zero])
  intro h3
  intros
  rename_i q1 q2 q3
  conv => arg 1; whnf
  exact atLeave_P (leave_plain (.inl rfl) rfl) (hQ' r _ q1 (by omega) q2 q3)
end Go.Proofs.Nt

/-
  What net.Check answers: its loops.
-/
namespace Go.Proofs.Nt
open Go.Sk
set_option linter.unusedVariables false
set_option linter.unusedSimpArgs false
set_option maxRecDepth 10000

/-- The first cell that is none. -/
def badCell (len : Nat) : List Int → Nat → Option Nat
  | [], _ => none
  | a :: r, i => if a < 0 ∨ a ≥ len then some i else badCell len r (i + 1)

abbrev Sn := Int × Int → Bool
def addS (S : Sn) (p : Int × Int) : Sn := fun q => if q = p then true else S q
def wiresF (s : List Ag) (cells : List Int) (f : Int) : List Wr → Nat → Sn → (Int × Int) ⊕ Sn
  | [], _, S => .inr S
  | w :: r, i, S =>
    cond (!isPort s cells f (wA w) || !isPort s cells f (wB w)) (.inl (30, i))
      (cond (S (wA w) || S (wB w) || (wA w == wB w)) (.inl (31, i)) (wiresF s cells f r (i + 1) (addS (addS S (wA w)) (wB w))))
def openF (S : Sn) : List (Int × Int) → Nat → Int × Int
  | [], _ => (0, 0)
  | p :: r, i => if S p = false then (32, i) else openF S r (i + 1)

def netChk (s : List Ag) (n : Nt) : Int × Int :=
  if (sigChk s).1 ≠ 0 then sigChk s
  else if n.cells.length > 4096 ∨ n.free > 64 then (15, 0)
  else if n.free < 0 then (1, 0)
  else match badCell s.length n.cells 0 with
    | some i => (20, i)
    | none => match wiresF s n.cells n.free n.wires 0 fun _ => false with
      | .inl e => e
      | .inr S => openF S (portsL s n) 0

/-- The seen ones, as a map. -/
def SM (S : Sn) : Mp := fun p => if S p then some (.bool true) else none
theorem SM_add (S : Sn) (p : Int × Int) : updM (SM S) p (.bool true) = SM (addS S p) := by
  funext q
  simp only [updM, SM, addS]
  by_cases h : q = p <;> simp [h]
theorem SM_get (S : Sn) (p : Int × Int) : (SM S p).getD (.bool false) = .bool (S p) := by
  simp only [SM]; cases S p <;> rfl

structure Env (i2 i3 i4 i5 : Sk.Id) (x c w : AV) (f : Int) (h : AH) : Prop where
  g2 : h.get i2 = some (.cells [x] 22)
  g3 : h.get i3 = some (.cells [c, .int .i64 f, w] 43)
  g4 : ∃ v, h.get i4 = some (.cells [v] 26)
  g5 : ∃ v, h.get i5 = some (.cells [v] 3)
  l2 : i2.nat < h.next.nat
  l3 : i3.nat < h.next.nat
  l4 : i4.nat < h.next.nat
  l5 : i5.nat < h.next.nat

theorem Env.keep {i2 i3 i4 i5 : Sk.Id} {x c w : AV} {f : Int} {h h' : AH} (E : Env i2 i3 i4 i5 x c w f h) (hk : Kept h.next.nat h h') : Env i2 i3 i4 i5 x c w f h' := by
  obtain ⟨v4, g4⟩ := E.g4
  obtain ⟨v5, g5⟩ := E.g5
  have := hk.2
  exact ⟨hk.1 _ _ E.g2 E.l2, hk.1 _ _ E.g3 E.l3, ⟨v4, hk.1 _ _ g4 E.l4⟩, ⟨v5, hk.1 _ _ g5 E.l5⟩, Nat.lt_of_lt_of_le E.l2 this, Nat.lt_of_lt_of_le E.l3 this, Nat.lt_of_lt_of_le E.l4 this, Nat.lt_of_lt_of_le E.l5 this⟩

/-- The answer is written. -/
theorem Env.fin {i2 i3 i4 i5 : Sk.Id} {x c w : AV} {f : Int} {h : AH} (E : Env i2 i3 i4 i5 x c w f h) (hne : i4 ≠ i5) (e a : Int) : ∃ h', 
    hOf (aStore Tryz.prog 26 (.ptr i4 0) (.int .i64 e) h) = some (.ret undefA, h.set i4 (.cells [.int .i64 e] 26)) ∧
    hOf (aStore Tryz.prog 3 (.ptr i5 0) (.int .i64 a) (h.set i4 (.cells [.int .i64 e] 26))) = some (.ret undefA, h') ∧
    h'.get i4 = some (.cells [.int .i64 e] 26) ∧ h'.get i5 = some (.cells [.int .i64 a] 3) := by
  obtain ⟨v4, g4⟩ := E.g4
  obtain ⟨v5, g5⟩ := E.g5
  have g5' : (h.set i4 (.cells [.int .i64 e] 26)).get i5 = some (.cells [v5] 3) := by rw [AH.get_set, if_neg hne.symm]; exact g5
  refine ⟨(h.set i4 (.cells [.int .i64 e] 26)).set i5 (.cells [.int .i64 a] 3), st_ptr (n := 1) g4 (by kernel_rfl) rfl (by simp) rfl, st_ptr (n := 1) g5' (by kernel_rfl) rfl (by simp) rfl, ?_, ?_⟩
  · rw [AH.get_set, if_neg hne, AH.get_set, if_pos rfl]
  · rw [AH.get_set, if_pos rfl]

def tab16 : Nat → Option (List Nat) := fun id => match Nat.beq id 999999 with | true => some [] | false => match Nat.beq id 23 with | true => some [0, 1, 2, 3, 4, 5, 6, 7] | false => match Nat.beq id 500023 with | true => some [] | false => none
theorem fits16 : tabFits Tryz.prog (mu0 113) tab16 (codeOf Tryz.f113) = true := by kernel_rfl

section
variable {i2 i3 i4 i5 : Sk.Id} {x c w : AV} {f : Int}

theorem l16a (call rgn n) (s : List Ag) (cells : List Int) (hx : IsSig x s) (hc : IsL c (cells.map intV)) (hlen : cells.length ≤ 4096) (hne : i4 ≠ i5) {K : KC (AOut × AH)} {Q : Option (AOut × AH) → Prop}
    (hR : ∀ {i : Nat} {h : AH} {g0 g1 g2 g3 g6 g7 g8 g9 g10 g11 g12 g13 g14 g15 g16 g17 g18 g19 g20 g21 g22 g23 g24 g25 g26 g27 g28 g29 g30 g31 g32 g33 g34 g35 g36 g37 g38 g39 g40 g41 g42 g43 g44 g45 g46 g47 g48 g49 g50 g51 g52 g53 g54 g55 g56 g57 g58 g59 g60 g61 g62 g63 g64 g65 g66 g67 g68 g69 g70 g71 g72 g73 g74 g75 g76 g77 g78 g79 g80 g81 g82 g83 g84 g85 g86 g87 g88 g89 g90 g91 g92 g93 g94 g95 g96 g97 g98 g99 g100 g101 g102 g103 g104 g105 g106 g107 g108 g109 g110 g111 g112 : AV}, badCell s.length cells 0 = some i → h.get i4 = some (.cells [.int .i64 20] 26) → h.get i5 = some (.cells [.int .i64 i] 3) → Q (K .ret ⟨(g0 :: g1 :: g2 :: g3 :: .ptr i4 0 :: .ptr i5 0 :: g6 :: g7 :: g8 :: g9 :: g10 :: g11 :: g12 :: g13 :: g14 :: g15 :: g16 :: g17 :: g18 :: g19 :: g20 :: g21 :: g22 :: g23 :: g24 :: g25 :: g26 :: g27 :: g28 :: g29 :: g30 :: g31 :: g32 :: g33 :: g34 :: g35 :: g36 :: g37 :: g38 :: g39 :: g40 :: g41 :: g42 :: g43 :: g44 :: g45 :: g46 :: g47 :: g48 :: g49 :: g50 :: g51 :: g52 :: g53 :: g54 :: g55 :: g56 :: g57 :: g58 :: g59 :: g60 :: g61 :: g62 :: g63 :: g64 :: g65 :: g66 :: g67 :: g68 :: g69 :: g70 :: g71 :: g72 :: g73 :: g74 :: g75 :: g76 :: g77 :: g78 :: g79 :: g80 :: g81 :: g82 :: g83 :: g84 :: g85 :: g86 :: g87 :: g88 :: g89 :: g90 :: g91 :: g92 :: g93 :: g94 :: g95 :: g96 :: g97 :: g98 :: g99 :: g100 :: g101 :: g102 :: g103 :: g104 :: g105 :: g106 :: g107 :: g108 :: g109 :: g110 :: g111 :: g112 :: []), [], h⟩))
    (hK : badCell s.length cells 0 = none → ∀ {h : AH} {g0 g1 g6 g7 g8 g9 g10 g11 g12 g13 g14 g15 g16 g17 g18 g19 g20 g21 g22 g23 g24 g25 g26 g27 g28 g29 g30 g31 g32 g33 g34 g35 g36 g37 g38 g39 g40 g41 g42 g43 g44 g45 g46 g47 g48 g49 g50 g51 g52 g53 g54 g55 g56 g57 g58 g59 g60 g61 g62 g63 g64 g65 g66 g67 g68 g69 g70 g71 g72 g73 g74 g75 g76 g77 g78 g79 g80 g81 g82 g83 g84 g85 g86 g87 g88 g89 g90 g91 g92 g93 g94 g95 g96 g97 g98 g99 g100 g101 g102 g103 g104 g105 g106 g107 g108 g109 g110 g111 g112 : AV}, Env i2 i3 i4 i5 x c w f h → Q (K (.exit 0) ⟨(g0 :: g1 :: .ptr i2 0 :: .ptr i3 0 :: .ptr i4 0 :: .ptr i5 0 :: g6 :: g7 :: g8 :: g9 :: g10 :: g11 :: g12 :: g13 :: g14 :: g15 :: g16 :: g17 :: g18 :: g19 :: g20 :: g21 :: g22 :: g23 :: g24 :: g25 :: g26 :: g27 :: g28 :: g29 :: g30 :: g31 :: g32 :: g33 :: g34 :: g35 :: g36 :: g37 :: g38 :: g39 :: g40 :: g41 :: g42 :: g43 :: g44 :: g45 :: g46 :: g47 :: g48 :: g49 :: g50 :: g51 :: g52 :: g53 :: g54 :: g55 :: g56 :: g57 :: g58 :: g59 :: g60 :: g61 :: g62 :: g63 :: g64 :: g65 :: g66 :: g67 :: g68 :: g69 :: g70 :: g71 :: g72 :: g73 :: g74 :: g75 :: g76 :: g77 :: g78 :: g79 :: g80 :: g81 :: g82 :: g83 :: g84 :: g85 :: g86 :: g87 :: g88 :: g89 :: g90 :: g91 :: g92 :: g93 :: g94 :: g95 :: g96 :: g97 :: g98 :: g99 :: g100 :: g101 :: g102 :: g103 :: g104 :: g105 :: g106 :: g107 :: g108 :: g109 :: g110 :: g111 :: g112 :: []), [], h⟩)) :
    ∀ (m i : Nat) {z : Int} {h : AH} {g0 g1 g6 g7 g8 g9 g10 g11 g12 g13 g14 g15 g16 g17 g18 g19 g20 g21 g22 g23 g24 g25 g26 g27 g28 g29 g30 g31 g32 g33 g34 g35 g36 g37 g41 g42 g43 g44 g45 g46 g47 g48 g49 g50 g51 g52 g53 g54 g55 g56 g57 g58 g59 g60 g61 g62 g63 g64 g65 g66 g67 g68 g69 g70 g71 g72 g73 g74 g75 g76 g77 g78 g79 g80 g81 g82 g83 g84 g85 g86 g87 g88 g89 g90 g91 g92 g93 g94 g95 g96 g97 g98 g99 g100 g101 g102 g103 g104 g105 g106 g107 g108 g109 g110 g111 g112 : AV}, z = i → i ≤ cells.length → cells.length - i < m → Env i2 i3 i4 i5 x c w f h → badCell s.length cells 0 = badCell s.length (cells.drop i) i →
    Q (cIter (LB tab16 call rgn n 113 Tryz.f113 0) m ⟨(g0 :: g1 :: .ptr i2 0 :: .ptr i3 0 :: .ptr i4 0 :: .ptr i5 0 :: g6 :: g7 :: g8 :: g9 :: g10 :: g11 :: g12 :: g13 :: g14 :: g15 :: g16 :: g17 :: g18 :: g19 :: g20 :: g21 :: g22 :: g23 :: g24 :: g25 :: g26 :: g27 :: g28 :: g29 :: g30 :: g31 :: g32 :: g33 :: g34 :: g35 :: g36 :: g37 :: c :: .int .i64 cells.length :: .int .i64 z :: g41 :: g42 :: g43 :: g44 :: g45 :: g46 :: g47 :: g48 :: g49 :: g50 :: g51 :: g52 :: g53 :: g54 :: g55 :: g56 :: g57 :: g58 :: g59 :: g60 :: g61 :: g62 :: g63 :: g64 :: g65 :: g66 :: g67 :: g68 :: g69 :: g70 :: g71 :: g72 :: g73 :: g74 :: g75 :: g76 :: g77 :: g78 :: g79 :: g80 :: g81 :: g82 :: g83 :: g84 :: g85 :: g86 :: g87 :: g88 :: g89 :: g90 :: g91 :: g92 :: g93 :: g94 :: g95 :: g96 :: g97 :: g98 :: g99 :: g100 :: g101 :: g102 :: g103 :: g104 :: g105 :: g106 :: g107 :: g108 :: g109 :: g110 :: g111 :: g112 :: []), [], h⟩ K) := by
  have u : Tryz.prog.underlying 40 = some (.slice 3) := by kernel_rfl
  have u2 : Tryz.prog.underlying 22 = some (.slice 58) := by kernel_rfl
  have hl := fun h => len_L (X := ⟨Tryz.prog, mu0, call⟩) (mu := false) (h := h) u2 hx
  rw [List.length_map] at hl
  intro m
  induction m with
  | zero => intros; omega
  | succ m ih =>
    intro i z h g0 g1 g6 g7 g8 g9 g10 g11 g12 g13 g14 g15 g16 g17 g18 g19 g20 g21 g22 g23 g24 g25 g26 g27 g28 g29 g30 g31 g32 g33 g34 g35 g36 g37 g41 g42 g43 g44 g45 g46 g47 g48 g49 g50 g51 g52 g53 g54 g55 g56 g57 g58 g59 g60 g61 g62 g63 g64 g65 g66 g67 g68 g69 g70 g71 g72 g73 g74 g75 g76 g77 g78 g79 g80 g81 g82 g83 g84 g85 g86 g87 g88 g89 g90 g91 g92 g93 g94 g95 g96 g97 g98 g99 g100 g101 g102 g103 g104 g105 g106 g107 g108 g109 g110 g111 g112 hz hi hm hE hF
    rw [cIter_succ]
    conv => arg 1; whnf
    split
    · rename_i hd
      have hlt : i < cells.length := by simp at hd; omega
      have hdrop : cells.drop i = cells[i] :: cells.drop (i + 1) := List.drop_eq_getElem_cons hlt
      have hg : (cells.map intV)[i]? = some (intV cells[i]) := by rw [List.getElem?_map, List.getElem?_eq_getElem hlt]; rfl
      have hidx := fun h => idx_L (P := Tryz.prog) (t := 40) (e := 3) (n := 1) (h := h) (k := .i64) u (by kernel_rfl) hc hz hg rfl
      rw [hdrop] at hF
      generalize cells[i] = g at hidx hF
      simp only [badCell] at hF
      have lx : vOf h (aLoad Tryz.prog 22 (.ptr i2 0) h) = some (.ret x, h) := ld_ptr (n := 1) hE.g2 (by kernel_rfl) (by kernel_rfl) rfl
      obtain ⟨h', s4, s5, q4, q5⟩ := hE.fin hne 20 z
      conv => arg 1; whnf
      refine atCall_P (hidx _) ?_
      conv => arg 1; whnf
      cases e1 : decide (g < 0)
      · conv => arg 1; whnf
        refine atCall_P lx ?_
        conv => arg 1; whnf
        refine atCall_P (hl _) ?_
        conv => arg 1; whnf
        cases e2 : decide (g ≥ (s.length : Int))
        · conv => arg 1; whnf
          refine ih (i + 1) (by rw [hz]; exact wrap_succ (by omega)) (by omega) (by omega) hE ?_
          rw [hF, if_neg (by simp at e1 e2; omega)]
        · conv => arg 1; whnf
          refine atCall_P s4 ?_
          conv => arg 1; whnf
          refine atCall_P s5 ?_
          conv => arg 1; whnf
          exact hR (by rw [hF, if_pos (.inr (by simpa using e2))]) q4 (by rw [← hz]; exact q5)
      · conv => arg 1; whnf
        refine atCall_P s4 ?_
        conv => arg 1; whnf
        refine atCall_P s5 ?_
        conv => arg 1; whnf
        exact hR (by rw [hF, if_pos (.inl (by simpa using e1))]) q4 (by rw [← hz]; exact q5)
    · rename_i hd
      have hlt : ¬ i < cells.length := by simp at hd; omega
      refine hK ?_ hE
      rw [hF, List.drop_eq_nil_of_le (by omega)]; rfl
end
end Go.Proofs.Nt

/-
  What net.Check answers: its wires.
-/
namespace Go.Proofs.Nt
open Go.Sk
set_option linter.unusedVariables false
set_option linter.unusedSimpArgs false
set_option maxRecDepth 10000

theorem eq_ports {ox oy : Operand} (p q : Int × Int) (h : AH) : vOf h (aBinOp Tryz.prog .eql 60 ox oy (portV p) (portV q)) = some (.ret (.bool (p == q)), h) := by
  have e : aBinOp Tryz.prog .eql 60 ox oy (portV p) (portV q) = (aEq Tryz.prog 60 (portV p) (portV q)).map AV.bool := by
    obtain ⟨a, b⟩ := p
    obtain ⟨c, d⟩ := q
    kernel_rfl
  rw [e, eq_port]
  have : (p.1 == q.1 && p.2 == q.2) = (p == q) := rfl
  rw [this]; rfl

section
variable {i2 i3 i4 i5 i11 r : Sk.Id} {x c w : AV} {f : Int}

structure Seen (i11 r : Sk.Id) (S : Sn) (h : AH) : Prop where
  g11 : h.get i11 = some (.cells [.map r] 191)
  l11 : i11.nat < h.next.nat
  gm : MapAt h r (SM S)
  lr : r.nat < h.next.nat

theorem Seen.keep {S : Sn} {h h' : AH} (E : Seen i11 r S h) (hk : Kept h.next.nat h h') : Seen i11 r S h' :=
  ⟨hk.1 _ _ E.g11 E.l11, Nat.lt_of_lt_of_le E.l11 hk.2, E.gm.keep fun o ho => hk.1 _ _ ho E.lr, Nat.lt_of_lt_of_le E.lr hk.2⟩

theorem kept_one (h : AH) (o : AO) : Kept h.next.nat h (h.alloc o) := (Kept.refl h).alloc o

set_option maxHeartbeats 4000000 in
theorem l16b (call rgn n) (s : List Ag) (cells : List Int) (wires : List Wr) (hw : IsL w (wires.map wireV)) (hlen : wires.length ≤ 1000000000) (hne : i4 ≠ i5) (hr2 : i2 ≠ r) (hr3 : i3 ≠ r) (hr4 : i4 ≠ r) (hr5 : i5 ≠ r) (hr11 : i11 ≠ r)
    (h30 : ∀ p h, Env i2 i3 i4 i5 x c w f h → call (.func 130) [portV p, .ptr i3 0, .ptr i2 0] h = some (.ret (.bool (isPort s cells f p)), h.alloc (.cells [.int .i64 p.1, .int .i64 p.2] 60)))
    (R : (Int × Int) ⊕ Sn) {K : KC (AOut × AH)} {Q : Option (AOut × AH) → Prop}
    (hR : ∀ {e a : Int} {h : AH} {g0 g1 g2 g3 g6 g7 g8 g9 g10 g11 g12 g13 g14 g15 g16 g17 g18 g19 g20 g21 g22 g23 g24 g25 g26 g27 g28 g29 g30 g31 g32 g33 g34 g35 g36 g37 g38 g39 g40 g41 g42 g43 g44 g45 g46 g47 g48 g49 g50 g51 g52 g53 g54 g55 g56 g57 g58 g59 g60 g61 g62 g63 g64 g65 g66 g67 g68 g69 g70 g71 g72 g73 g74 g75 g76 g77 g78 g79 g80 g81 g82 g83 g84 g85 g86 g87 g88 g89 g90 g91 g92 g93 g94 g95 g96 g97 g98 g99 g100 g101 g102 g103 g104 g105 g106 g107 g108 g109 g110 g111 g112 : AV}, R = .inl (e, a) → h.get i4 = some (.cells [.int .i64 e] 26) → h.get i5 = some (.cells [.int .i64 a] 3) → Q (K .ret ⟨(g0 :: g1 :: g2 :: g3 :: .ptr i4 0 :: .ptr i5 0 :: g6 :: g7 :: g8 :: g9 :: g10 :: g11 :: g12 :: g13 :: g14 :: g15 :: g16 :: g17 :: g18 :: g19 :: g20 :: g21 :: g22 :: g23 :: g24 :: g25 :: g26 :: g27 :: g28 :: g29 :: g30 :: g31 :: g32 :: g33 :: g34 :: g35 :: g36 :: g37 :: g38 :: g39 :: g40 :: g41 :: g42 :: g43 :: g44 :: g45 :: g46 :: g47 :: g48 :: g49 :: g50 :: g51 :: g52 :: g53 :: g54 :: g55 :: g56 :: g57 :: g58 :: g59 :: g60 :: g61 :: g62 :: g63 :: g64 :: g65 :: g66 :: g67 :: g68 :: g69 :: g70 :: g71 :: g72 :: g73 :: g74 :: g75 :: g76 :: g77 :: g78 :: g79 :: g80 :: g81 :: g82 :: g83 :: g84 :: g85 :: g86 :: g87 :: g88 :: g89 :: g90 :: g91 :: g92 :: g93 :: g94 :: g95 :: g96 :: g97 :: g98 :: g99 :: g100 :: g101 :: g102 :: g103 :: g104 :: g105 :: g106 :: g107 :: g108 :: g109 :: g110 :: g111 :: g112 :: []), [], h⟩))
    (hK : ∀ {S : Sn} {h : AH} {g0 g1 g6 g7 g8 g9 g10 g12 g13 g14 g15 g16 g17 g18 g19 g20 g21 g22 g23 g24 g25 g26 g27 g28 g29 g30 g31 g32 g33 g34 g35 g36 g37 g38 g39 g40 g41 g42 g43 g44 g45 g46 g47 g48 g49 g50 g51 g52 g53 g54 g55 g56 g57 g58 g59 g60 g61 g62 g63 g64 g65 g66 g67 g68 g69 g70 g71 g72 g73 g74 g75 g76 g77 g78 g79 g80 g81 g82 g83 g84 g85 g86 g87 g88 g89 g90 g91 g92 g93 g94 g95 g96 g97 g98 g99 g100 g101 g102 g103 g104 g105 g106 g107 g108 g109 g110 g111 g112 : AV}, R = .inr S → Env i2 i3 i4 i5 x c w f h → Seen i11 r S h → Q (K (.exit 2) ⟨(g0 :: g1 :: .ptr i2 0 :: .ptr i3 0 :: .ptr i4 0 :: .ptr i5 0 :: g6 :: g7 :: g8 :: g9 :: g10 :: .ptr i11 0 :: g12 :: g13 :: g14 :: g15 :: g16 :: g17 :: g18 :: g19 :: g20 :: g21 :: g22 :: g23 :: g24 :: g25 :: g26 :: g27 :: g28 :: g29 :: g30 :: g31 :: g32 :: g33 :: g34 :: g35 :: g36 :: g37 :: g38 :: g39 :: g40 :: g41 :: g42 :: g43 :: g44 :: g45 :: g46 :: g47 :: g48 :: g49 :: g50 :: g51 :: g52 :: g53 :: g54 :: g55 :: g56 :: g57 :: g58 :: g59 :: g60 :: g61 :: g62 :: g63 :: g64 :: g65 :: g66 :: g67 :: g68 :: g69 :: g70 :: g71 :: g72 :: g73 :: g74 :: g75 :: g76 :: g77 :: g78 :: g79 :: g80 :: g81 :: g82 :: g83 :: g84 :: g85 :: g86 :: g87 :: g88 :: g89 :: g90 :: g91 :: g92 :: g93 :: g94 :: g95 :: g96 :: g97 :: g98 :: g99 :: g100 :: g101 :: g102 :: g103 :: g104 :: g105 :: g106 :: g107 :: g108 :: g109 :: g110 :: g111 :: g112 :: []), [], h⟩)) :
    ∀ (m i : Nat) {z : Int} {S : Sn} {h : AH} {g0 g1 g6 g7 g8 g9 g12 g13 g14 g15 g16 g17 g18 g19 g20 g21 g22 g23 g24 g25 g26 g27 g28 g29 g30 g31 g32 g33 g34 g35 g36 g37 g38 g39 g40 g41 g42 g43 g44 g45 g46 g47 g48 g49 g50 g51 g52 g53 g54 g55 g56 g57 g61 g62 g63 g64 g65 g66 g67 g68 g69 g70 g71 g72 g73 g74 g75 g76 g77 g78 g79 g80 g81 g82 g83 g84 g85 g86 g87 g88 g89 g90 g91 g92 g93 g94 g95 g96 g97 g98 g99 g100 g101 g102 g103 g104 g105 g106 g107 g108 g109 g110 g111 g112 : AV}, z = i → i ≤ wires.length → wires.length - i < m → Env i2 i3 i4 i5 x c w f h → Seen i11 r S h → R = wiresF s cells f (wires.drop i) i S →
    Q (cIter (LB tab16 call rgn n 113 Tryz.f113 1) m ⟨(g0 :: g1 :: .ptr i2 0 :: .ptr i3 0 :: .ptr i4 0 :: .ptr i5 0 :: g6 :: g7 :: g8 :: g9 :: .fn (.func 130) [] [.ptr i3 0, .ptr i2 0] :: .ptr i11 0 :: g12 :: g13 :: g14 :: g15 :: g16 :: g17 :: g18 :: g19 :: g20 :: g21 :: g22 :: g23 :: g24 :: g25 :: g26 :: g27 :: g28 :: g29 :: g30 :: g31 :: g32 :: g33 :: g34 :: g35 :: g36 :: g37 :: g38 :: g39 :: g40 :: g41 :: g42 :: g43 :: g44 :: g45 :: g46 :: g47 :: g48 :: g49 :: g50 :: g51 :: g52 :: g53 :: g54 :: g55 :: g56 :: g57 :: w :: .int .i64 wires.length :: .int .i64 z :: g61 :: g62 :: g63 :: g64 :: g65 :: g66 :: g67 :: g68 :: g69 :: g70 :: g71 :: g72 :: g73 :: g74 :: g75 :: g76 :: g77 :: g78 :: g79 :: g80 :: g81 :: g82 :: g83 :: g84 :: g85 :: g86 :: g87 :: g88 :: g89 :: g90 :: g91 :: g92 :: g93 :: g94 :: g95 :: g96 :: g97 :: g98 :: g99 :: g100 :: g101 :: g102 :: g103 :: g104 :: g105 :: g106 :: g107 :: g108 :: g109 :: g110 :: g111 :: g112 :: []), [], h⟩ K) := by
  have u : Tryz.prog.underlying 41 = some (.slice 62) := by kernel_rfl
  have um : Tryz.prog.underlying 191 = some (.map 60 4) := by kernel_rfl
  intro m
  induction m with
  | zero => intros; omega
  | succ m ih =>
    intro i z S h g0 g1 g6 g7 g8 g9 g12 g13 g14 g15 g16 g17 g18 g19 g20 g21 g22 g23 g24 g25 g26 g27 g28 g29 g30 g31 g32 g33 g34 g35 g36 g37 g38 g39 g40 g41 g42 g43 g44 g45 g46 g47 g48 g49 g50 g51 g52 g53 g54 g55 g56 g57 g61 g62 g63 g64 g65 g66 g67 g68 g69 g70 g71 g72 g73 g74 g75 g76 g77 g78 g79 g80 g81 g82 g83 g84 g85 g86 g87 g88 g89 g90 g91 g92 g93 g94 g95 g96 g97 g98 g99 g100 g101 g102 g103 g104 g105 g106 g107 g108 g109 g110 g111 g112 hz hi hm hE hS hF
    rw [cIter_succ]
    conv => arg 1; whnf
    split
    · rename_i hd
      have hlt : i < wires.length := by simp at hd; omega
      have hdrop : wires.drop i = wires[i] :: wires.drop (i + 1) := List.drop_eq_getElem_cons hlt
      have hg : (wires.map wireV)[i]? = some (wireV wires[i]) := by rw [List.getElem?_map, List.getElem?_eq_getElem hlt]; rfl
      have hidx := fun h => idx_L (P := Tryz.prog) (t := 41) (e := 62) (n := 4) (h := h) (k := .i64) u (by kernel_rfl) hw hz hg rfl
      rw [hdrop] at hF
      simp only [wiresF] at hF
      generalize wires[i] = ww at hidx hF
      obtain ⟨a, b, c', d⟩ := ww
      replace hF : R = cond (!isPort s cells f (a, b) || !isPort s cells f (c', d)) (.inl (30, (i : Int))) (cond (S (a, b) || S (c', d) || ((a, b) == (c', d))) (.inl (31, (i : Int))) (wiresF s cells f (wires.drop (i + 1)) (i + 1) (addS (addS S (a, b)) (c', d)))) := hF
      conv => arg 1; whnf
      refine atCall_P (hidx _) ?_
      conv => arg 1; whnf
      refine atCall_P (alloc_new (z := .agg [.int .i64 0, .int .i64 0, .int .i64 0, .int .i64 0]) (cs := [.int .i64 0, .int .i64 0, .int .i64 0, .int .i64 0]) (by kernel_rfl) rfl rfl) ?_
      conv => arg 1; whnf
      have hst := st_new (h := h) (cs0 := [.int .i64 0, .int .i64 0, .int .i64 0, .int .i64 0]) (v := .agg [.int .i64 a, .int .i64 b, .int .i64 c', .int .i64 d]) (cs := [.int .i64 a, .int .i64 b, .int .i64 c', .int .i64 d]) (T := 62) (n := 4) (P := Tryz.prog) (by kernel_rfl) rfl rfl rfl rfl
      refine atCall_P hst ?_
      obtain ⟨hget, hnx, hkeep⟩ := new_obj h [.int .i64 0, .int .i64 0, .int .i64 0, .int .i64 0] [.int .i64 a, .int .i64 b, .int .i64 c', .int .i64 d] 62
      have hk2 : Kept h.next.nat h ((h.alloc (.cells [.int .i64 0, .int .i64 0, .int .i64 0, .int .i64 0] 62)).set h.next (.cells [.int .i64 a, .int .i64 b, .int .i64 c', .int .i64 d] 62)) := ((Kept.refl h).alloc _).set _ (Nat.le_refl _)
      generalize ((h.alloc (.cells [.int .i64 0, .int .i64 0, .int .i64 0, .int .i64 0] 62)).set h.next (.cells [.int .i64 a, .int .i64 b, .int .i64 c', .int .i64 d] 62)) = h2 at hget hnx hk2 ⊢
      have hE2 := hE.keep hk2
      have hS2 := hS.keep hk2
      have hpr : h.next ≠ r := by rintro rfl; have := hS.lr; omega
      have hpn : h.next.nat < h2.next.nat := by omega
      clear hk2 hkeep hst
      generalize h.next = p at hget hpr hpn ⊢
      -- loads of the wire, at any later heap
      have lA : ∀ h', Kept h2.next.nat h2 h' → vOf h' (aLoad Tryz.prog 60 (.ptr p 0) h') = some (.ret (portV (a, b)), h') := fun h' hk => ld_agg (n := 2) (hk.1 _ _ hget hpn) (by kernel_rfl) (by kernel_rfl) (by simp)
      have lB : ∀ h', Kept h2.next.nat h2 h' → vOf h' (aLoad Tryz.prog 60 (.ptr p 2) h') = some (.ret (portV (c', d)), h') := fun h' hk => ld_agg (n := 2) (hk.1 _ _ hget hpn) (by kernel_rfl) (by kernel_rfl) (by simp)
      have err : ∀ (e : Int) (h' : AH), Kept h2.next.nat h2 h' → R = .inl (e, (i : Int)) → ∃ h4, hOf (aStore Tryz.prog 26 (.ptr i4 0) (.int .i64 e) h') = some (.ret undefA, h'.set i4 (.cells [.int .i64 e] 26)) ∧
          hOf (aStore Tryz.prog 3 (.ptr i5 0) (.int .i64 z) (h'.set i4 (.cells [.int .i64 e] 26))) = some (.ret undefA, h4) ∧ h4.get i4 = some (.cells [.int .i64 e] 26) ∧ h4.get i5 = some (.cells [.int .i64 (i : Int)] 3) := by
        intro e h' hk he
        have := (hE2.keep hk).fin hne e z
        rw [← hz]; exact this
      conv => arg 1; whnf
      refine atCall_P (lA h2 (Kept.refl h2)) ?_
      conv => arg 1; whnf
      refine atCall_P (h30 (a, b) h2 hE2) ?_
      have k3 := kept_one h2 (.cells [.int .i64 a, .int .i64 b] 60)
      generalize hh3 : h2.alloc (.cells [.int .i64 (a, b).1, .int .i64 (a, b).2] 60) = h3
      have k3 : Kept h2.next.nat h2 h3 := by rw [← hh3]; exact k3
      clear hh3
      conv => arg 1; whnf
      cases e1 : isPort s cells f (a, b)
      · conv => arg 1; whnf
        obtain ⟨h4, s4, s5, q4, q5⟩ := err 30 h3 k3 (by rw [hF]; simp [e1])
        refine atCall_P s4 ?_
        conv => arg 1; whnf
        refine atCall_P s5 ?_
        conv => arg 1; whnf
        exact hR (by rw [hF]; simp [e1]) q4 q5
      conv => arg 1; whnf
      refine atCall_P (lB h3 k3) ?_
      conv => arg 1; whnf
      refine atCall_P (h30 (c', d) h3 (hE2.keep k3)) ?_
      have k4 : Kept h2.next.nat h2 (h3.alloc (.cells [.int .i64 (c', d).1, .int .i64 (c', d).2] 60)) := k3.alloc _
      generalize h3.alloc (.cells [.int .i64 (c', d).1, .int .i64 (c', d).2] 60) = h4 at k4 ⊢
      conv => arg 1; whnf
      cases e2 : isPort s cells f (c', d)
      · conv => arg 1; whnf
        obtain ⟨h5, s4, s5, q4, q5⟩ := err 30 h4 k4 (by rw [hF]; simp [e1, e2])
        refine atCall_P s4 ?_
        conv => arg 1; whnf
        refine atCall_P s5 ?_
        conv => arg 1; whnf
        exact hR (by rw [hF]; simp [e1, e2]) q4 q5
      have hE4 := hE2.keep k4
      have hS4 := hS2.keep k4
      have lm : vOf h4 (aLoad Tryz.prog 191 (.ptr i11 0) h4) = some (.ret (.map r), h4) := ld_ptr (n := 1) hS4.g11 (by kernel_rfl) (by kernel_rfl) rfl
      have lkA := lookup_M (h := h4) um (z := .bool false) (by kernel_rfl) hS4.gm (a, b)
      have lkB := lookup_M (h := h4) um (z := .bool false) (by kernel_rfl) hS4.gm (c', d)
      rw [SM_get] at lkA lkB
      simp only [e1, e2, Bool.not_true, Bool.or_self, cond_false] at hF
      conv => arg 1; whnf
      refine atCall_P lm ?_
      conv => arg 1; whnf
      refine atCall_P (lA h4 k4) ?_
      conv => arg 1; whnf
      refine atCall_P lkA ?_
      conv => arg 1; whnf
      cases e3 : S (a, b)
      case true =>
        conv => arg 1; whnf
        obtain ⟨h5, s4, s5, q4, q5⟩ := err 31 h4 k4 (by rw [hF]; simp [e3])
        refine atCall_P s4 ?_
        conv => arg 1; whnf
        refine atCall_P s5 ?_
        conv => arg 1; whnf
        exact hR (by rw [hF]; simp [e3]) q4 q5
      conv => arg 1; whnf
      refine atCall_P lm ?_
      conv => arg 1; whnf
      refine atCall_P (lB h4 k4) ?_
      conv => arg 1; whnf
      refine atCall_P lkB ?_
      conv => arg 1; whnf
      cases e4 : S (c', d)
      case true =>
        conv => arg 1; whnf
        obtain ⟨h5, s4, s5, q4, q5⟩ := err 31 h4 k4 (by rw [hF]; simp [e4])
        refine atCall_P s4 ?_
        conv => arg 1; whnf
        refine atCall_P s5 ?_
        conv => arg 1; whnf
        exact hR (by rw [hF]; simp [e4]) q4 q5
      conv => arg 1; whnf
      refine atCall_P (lA h4 k4) ?_
      conv => arg 1; whnf
      refine atCall_P (lB h4 k4) ?_
      conv => arg 1; whnf
      refine atCall_P (eq_ports (a, b) (c', d) h4) ?_
      conv => arg 1; whnf
      cases e5 : ((a, b) == (c', d))
      case true =>
        conv => arg 1; whnf
        obtain ⟨h5, s4, s5, q4, q5⟩ := err 31 h4 k4 (by rw [hF]; simp only [e5, Bool.or_true, cond_true])
        refine atCall_P s4 ?_
        conv => arg 1; whnf
        refine atCall_P s5 ?_
        conv => arg 1; whnf
        exact hR (by rw [hF]; simp only [e5, Bool.or_true, cond_true]) q4 q5
      simp only [e3, e4, e5, Bool.or_self, cond_false] at hF
      obtain ⟨o1, hu1, hM1⟩ := update_M um hS4.gm (a, b) (.bool true)
      obtain ⟨o2, hu2, hM2⟩ := update_M um hM1 (c', d) (.bool true)
      repeat' (first
        | refine atCall_P lm ?_
        | refine atCall_P (lA h4 k4) ?_
        | refine atCall_P (lB h4 k4) ?_
        | refine atCall_P hu1 ?_
        | refine atCall_P hu2 ?_
        | (conv => arg 1; whnf; done))
      conv => arg 1; whnf
      have hM2' : MapAt ((h4.set r o1).set r o2) r (SM (addS (addS S (a, b)) (c', d))) := by
        rw [← SM_add, ← SM_add]; exact hM2
      have hset : ∀ q o, h4.get q = some o → q ≠ r → ((h4.set r o1).set r o2).get q = some o := fun q o hq hne => by rw [AH.get_set, if_neg hne, AH.get_set, if_neg hne]; exact hq
      obtain ⟨v4, g4⟩ := hE4.g4
      obtain ⟨v5, g5⟩ := hE4.g5
      refine ih (i + 1) (by rw [hz]; exact wrap_succ (by omega)) (by omega) (by omega)
        ⟨hset _ _ hE4.g2 hr2, hset _ _ hE4.g3 hr3, ⟨v4, hset _ _ g4 hr4⟩, ⟨v5, hset _ _ g5 hr5⟩, hE4.l2, hE4.l3, hE4.l4, hE4.l5⟩
        ⟨hset _ _ hS4.g11 hr11, hS4.l11, hM2', hS4.lr⟩ hF
    · rename_i hd
      have hlt : ¬ i < wires.length := by simp at hd; omega
      refine hK ?_ hE hS
      rw [hF, List.drop_eq_nil_of_le (by omega)]; rfl
end
end Go.Proofs.Nt

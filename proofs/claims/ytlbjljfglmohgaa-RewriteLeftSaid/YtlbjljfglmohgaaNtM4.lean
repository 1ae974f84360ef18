/-
  rewrite: faces, ports, wires.
-/
import Derived.Test.YtlbjljfglmohgaaNtM3
namespace Go.Proofs.Nt
open Go.Sk
set_option linter.unusedVariables false
set_option linter.unusedSimpArgs false
set_option maxRecDepth 10000

structure Job where
  a : Int
  b : Int
  ar : Int
  re : Sk.Id
  ri : Sk.Id
  rt : Sk.Id
  rs : Sk.Id
def jobC (j : Job) : List AV := [.int .i64 j.a, .int .i64 j.b, .int .i64 j.ar, .map j.re, .map j.ri, .map j.rt, .map j.rs]

def faceJ (j : Job) (p : Int × Int) : Int × Bool :=
  if p.1 == j.a then (IntKind.i64.wrap (p.2 - 1), true) else if p.1 == j.b then (IntKind.i64.wrap (IntKind.i64.wrap (j.ar + p.2) - 1), true) else (0, false)

def tab21 : Nat → Option (List Nat) := fun id => match Nat.beq id 999999 with | true => some [] | false => match Nat.beq id 5 with | true => some [0, 1, 2, 3, 4, 5, 6, 7, 8, 9] | false => none
theorem fits21 : tabFits Try.prog (mu0 21) tab21 (codeOf Try.f21) = true := by kernel_rfl

theorem b21 (call rgn n) (jj : Sk.Id) (j : Job) (p : Int × Int) (x : AV) (hx : x = portV p) (h : AH) (gj : h.get jj = some (.cells (jobC j) 60)) (lj : jj.nat < h.next.nat) :
    ∃ h', B tab21 call rgn n 21 Try.f21 [.ptr jj 0, x] h = some (.ret (.tup [.int .i64 (faceJ j p).1, .bool (faceJ j p).2]), h') ∧ Kept h.next.nat h h' := by
  suffices hq : ∀ Q : Option (AOut × AH) → Prop, (∀ f g h', faceJ j p = (f, g) → Kept h.next.nat h h' → Q (some (.ret (.tup [.int .i64 f, .bool g]), h'))) → Q (B tab21 call rgn n 21 Try.f21 [.ptr jj 0, x] h) from
    hq (fun y => ∃ h', y = some (.ret (.tup [.int .i64 (faceJ j p).1, .bool (faceJ j p).2]), h') ∧ Kept h.next.nat h h') (fun f g h' he hk => ⟨h', by rw [he], hk⟩)
  intro Q hQ
  obtain ⟨p1, p2⟩ := p
  conv => arg 1; whnf
  refine atCall_P (box_new (cs := [.int .i64 p1, .int .i64 p2]) (by rw [hx]; rfl) rfl) ?_
  have kp : Kept h.next.nat h (h.alloc (.cells [.int .i64 p1, .int .i64 p2] 45)) := kept_one h _
  generalize hh_h1 : h.alloc (.cells [.int .i64 p1, .int .i64 p2] 45) = h1 at *
  obtain ⟨a_i3, n_i3, k_h1⟩ := alloc_facts hh_h1
  replace gj := k_h1 _ _ gj (by omega)
  clear hh_h1 k_h1
  generalize hi_i3 : h.next = i3 at *
  clear hi_i3
  obtain ⟨a, b, ar, re, ri, rt, rs⟩ := j
  simp only [jobC] at gj
  have l0 : vOf h1 (aLoad Try.prog 3 (.ptr i3 0) h1) = some (.ret (.int .i64 p1), h1) := ld_ptr (n := 1) a_i3 (by kernel_rfl) (by kernel_rfl) rfl
  have l1 : vOf h1 (aLoad Try.prog 3 (.ptr i3 1) h1) = some (.ret (.int .i64 p2), h1) := ld_ptr (n := 1) a_i3 (by kernel_rfl) (by kernel_rfl) rfl
  have la : vOf h1 (aLoad Try.prog 3 (.ptr jj 0) h1) = some (.ret (.int .i64 a), h1) := ld_ptr (n := 1) gj (by kernel_rfl) (by kernel_rfl) rfl
  have lb : vOf h1 (aLoad Try.prog 3 (.ptr jj 1) h1) = some (.ret (.int .i64 b), h1) := ld_ptr (n := 1) gj (by kernel_rfl) (by kernel_rfl) rfl
  have lr : vOf h1 (aLoad Try.prog 3 (.ptr jj 2) h1) = some (.ret (.int .i64 ar), h1) := ld_ptr (n := 1) gj (by kernel_rfl) (by kernel_rfl) rfl
  conv => arg 1; whnf
  refine atCall_P (l0) ?_
  conv => arg 1; whnf
  refine atCall_P (la) ?_
  conv => arg 1; whnf
  cases e1 : (p1 == a)
  · conv => arg 1; whnf
    refine atCall_P (lb) ?_
    conv => arg 1; whnf
    cases e2 : (p1 == b)
    · conv => arg 1; whnf
      exact atLeave_P (leave_plain (.inl rfl) rfl) (hQ _ _ _ (by simp only [faceJ, e1, e2]; rfl) kp)
    · conv => arg 1; whnf
      refine atCall_P (lr) ?_
      conv => arg 1; whnf
      refine atCall_P (l1) ?_
      conv => arg 1; whnf
      exact atLeave_P (leave_plain (.inl rfl) rfl) (hQ _ _ _ (by simp only [faceJ, e1, e2]; rfl) kp)
  · conv => arg 1; whnf
    refine atCall_P (l1) ?_
    conv => arg 1; whnf
    exact atLeave_P (leave_plain (.inl rfl) rfl) (hQ _ _ _ (by simp only [faceJ, e1]; rfl) kp)

/-! ### aux -/

def auxJ (j : Job) (k : Int) : Int × Int := if decide (k < j.ar) = true then (j.a, IntKind.i64.wrap (k + 1)) else (j.b, IntKind.i64.wrap (IntKind.i64.wrap (k + 1) - j.ar))
def tab39 : Nat → Option (List Nat) := fun id => match Nat.beq id 999999 with | true => some [] | false => none

theorem b39 (call rgn n) (jj : Sk.Id) (j : Job) (k : Int) (h : AH) (gj : h.get jj = some (.cells (jobC j) 60)) (lj : jj.nat < h.next.nat) (hrg : ∀ id ops st, rgn id ops st = drawn ⟨Try.prog, mu0, call⟩ 39 ops st) :
    ∃ h', B shT call rgn n 39 Try.f39 [.ptr jj 0, .int .i64 k] h = some (.ret (portV (auxJ j k)), h') ∧ Kept h.next.nat h h' := by
  suffices hq : ∀ Q : Option (AOut × AH) → Prop, ¬ Q none → (∀ p h', auxJ j k = p → Kept h.next.nat h h' → Q (some (.ret (portV p), h'))) → Q (B shT call rgn n 39 Try.f39 [.ptr jj 0, .int .i64 k] h) from
    hq (fun y => ∃ h', y = some (.ret (portV (auxJ j k)), h') ∧ Kept h.next.nat h h') (by rintro ⟨_, h, _⟩; cases h) (fun p h' he hk => ⟨h', by rw [he], hk⟩)
  intro Q hN hQ
  conv => arg 1; whnf
  refine atCall_P (alloc_new (z := .agg [.int .i64 0, .int .i64 0]) (cs := [.int .i64 0, .int .i64 0]) (by kernel_rfl) rfl rfl) ?_
  have kp : ∀ cs T, Kept h.next.nat h ((h.alloc (.cells [.int .i64 0, .int .i64 0] 45)).set h.next (.cells cs T)) := fun cs T => (kept_one h _).set _ (Nat.le_refl _)
  generalize hh_h1 : h.alloc (.cells [.int .i64 0, .int .i64 0] 45) = h1 at *
  obtain ⟨a_i4, n_i4, k_h1⟩ := alloc_facts hh_h1
  replace gj := k_h1 _ _ gj (by omega)
  clear hh_h1 k_h1
  generalize hi_i4 : h.next = i4 at *
  clear hi_i4
  obtain ⟨a, b, ar, re, ri, rt, rs⟩ := j
  simp only [jobC] at gj
  have ne : jj ≠ i4 := by rintro rfl; omega
  have la : ∀ h1, h1.get jj = some (.cells [.int .i64 a, .int .i64 b, .int .i64 ar, .map re, .map ri, .map rt, .map rs] 60) → vOf h1 (aLoad Try.prog 3 (.ptr jj 0) h1) = some (.ret (.int .i64 a), h1) := fun h1 gj => ld_ptr (n := 1) gj (by kernel_rfl) (by kernel_rfl) rfl
  have lb : ∀ h1, h1.get jj = some (.cells [.int .i64 a, .int .i64 b, .int .i64 ar, .map re, .map ri, .map rt, .map rs] 60) → vOf h1 (aLoad Try.prog 3 (.ptr jj 1) h1) = some (.ret (.int .i64 b), h1) := fun h1 gj => ld_ptr (n := 1) gj (by kernel_rfl) (by kernel_rfl) rfl
  have lr : ∀ h1, h1.get jj = some (.cells [.int .i64 a, .int .i64 b, .int .i64 ar, .map re, .map ri, .map rt, .map rs] 60) → vOf h1 (aLoad Try.prog 3 (.ptr jj 2) h1) = some (.ret (.int .i64 ar), h1) := fun h1 gj => ld_ptr (n := 1) gj (by kernel_rfl) (by kernel_rfl) rfl
  have st : ∀ u v : Int, hOf (aStore Try.prog 45 (.ptr i4 0) (.agg [.int .i64 u, .int .i64 v]) h1) = some (.ret undefA, h1.set i4 (.cells [.int .i64 u, .int .i64 v] 45)) := fun u v => st_ptr (n := 2) a_i4 (by kernel_rfl) rfl (by simp) rfl
  have ld : ∀ u v : Int, aLoad Try.prog 45 (.ptr i4 0) (h1.set i4 (.cells [.int .i64 u, .int .i64 v] 45)) = some (.agg [.int .i64 u, .int .i64 v]) :=
    fun u v => ld_val (ld_agg (r := i4) (off := 0) (cs := [.int .i64 u, .int .i64 v]) (T := 45) (n := 2) (by rw [AH.get_set, if_pos rfl]) (by kernel_rfl) (by kernel_rfl) (by simp))
  conv => arg 1; whnf
  refine atCall_P (lr h1 gj) ?_
  conv => arg 1; whnf
  cases e1 : decide (k < ar)
  · conv => arg 1; whnf
    refine atRgn_N true (fun hh => hh.get jj = some (.cells [.int .i64 a, .int .i64 b, .int .i64 ar, .map re, .map ri, .map rt, .map rs] 60)) (T := [0, 1, 3, 7, 0, 16, 0, 64, 192, 448, 1008, 2047, 4095]) (ord := [0, 1, 2, 3, 4, 5, 6, 7, 8, 9, 10, 11, 12]) (by kernel_rfl) (hrg _ _ _) hN ?_
    conv => arg 1; whnf
    refine atCall_P (lb h1 gj) ?_
    conv => arg 1; whnf
    refine atCall_P (lr h1 gj) ?_
    conv => arg 1; whnf
    refine atCall_P (st b (IntKind.i64.wrap (IntKind.i64.wrap (k + 1) - ar))) ?_
    conv => arg 1; whnf
    refine atP_P ⟨?_, (fun k hk hp => match k, hk, hp with
      | 0, _, _ => gj
      | k + 1, _, _ => by
        show (h1.set i4 _).get jj = _
        rw [AH.get_set, if_neg ne]; exact gj), (fun a ha => by cases ha), rfl⟩ ?_
    · refine ⟨trivial, trivial, trivial, fun _ hh g => ⟨hh, lb hh g⟩, trivial, trivial, trivial, trivial, trivial, fun _ hh g => ⟨hh, lr hh g⟩, trivial, trivial, trivial, trivial⟩
    conv => arg 1; whnf
    refine atLeave_P (leave_plain (.inl rfl) (l := [.agg [.int .i64 b, .int .i64 (IntKind.i64.wrap (IntKind.i64.wrap (k + 1) - ar))]]) ?_) (hQ (b, IntKind.i64.wrap (IntKind.i64.wrap (k + 1) - ar)) _ (by unfold auxJ; rw [if_neg (by simpa using e1)]) (kp _ _))
    show (match aLoad Try.prog 45 (.ptr i4 0) (h1.set i4 (.cells [.int .i64 b, .int .i64 (IntKind.i64.wrap (IntKind.i64.wrap (k + 1) - ar))] 45)), some ([] : List AV) with | some v, some l => some (v :: l) | _, _ => none) = _
    rw [ld]
  · conv => arg 1; whnf
    refine atCall_P (la h1 gj) ?_
    conv => arg 1; whnf
    refine atCall_P (st a (IntKind.i64.wrap (k + 1))) ?_
    conv => arg 1; whnf
    refine atLeave_P (leave_plain (.inl rfl) (l := [.agg [.int .i64 a, .int .i64 (IntKind.i64.wrap (k + 1))]]) ?_) (hQ (a, IntKind.i64.wrap (k + 1)) _ (by unfold auxJ; rw [if_pos (by simpa using e1)]) (kp _ _))
    show (match aLoad Try.prog 45 (.ptr i4 0) (h1.set i4 (.cells [.int .i64 a, .int .i64 (IntKind.i64.wrap (k + 1))] 45)), some ([] : List AV) with | some v, some l => some (v :: l) | _, _ => none) = _
    rw [ld]
end Go.Proofs.Nt

/-
  rewrite: a port by its new number; wires in order.
-/
namespace Go.Proofs.Nt
open Go.Sk
set_option linter.unusedVariables false
set_option linter.unusedSimpArgs false
set_option maxRecDepth 10000

/-- The new numbers, as a map. -/
abbrev Tm := Place → Option Int
def TV (T : Tm) : Place → Option AV := fun x => (T x).map intV
def atJ (T : Tm) (x : Place) : Int × Int := if decide (x.2.1 < 0) = true then x.2 else ((T (x.1, x.2.1, 0)).getD 0, x.2.2)

theorem b22 (call rgn n) (jj : Sk.Id) (j : Job) (T : Tm) (p : Place) (x : AV) (hx : x = placeV p) (h : AH) (gj : h.get jj = some (.cells (jobC j) 60)) (gt : MapG placeV h j.rt (TV T)) (lj : jj.nat < h.next.nat) (lt : j.rt.nat < h.next.nat) (hrg : ∀ id ops st, rgn id ops st = drawn ⟨Try.prog, mu0, call⟩ 22 ops st) :
    ∃ h', B shT call rgn n 22 Try.f22 [.ptr jj 0, x] h = some (.ret (portV (atJ T p)), h') ∧ Kept h.next.nat h h' := by
  suffices hq : ∀ Q : Option (AOut × AH) → Prop, ¬ Q none → (∀ p' h', atJ T p = p' → Kept h.next.nat h h' → Q (some (.ret (portV p'), h'))) → Q (B shT call rgn n 22 Try.f22 [.ptr jj 0, x] h) from
    hq (fun y => ∃ h', y = some (.ret (portV (atJ T p)), h') ∧ Kept h.next.nat h h') (by rintro ⟨_, h, _⟩; cases h) (fun p h' he hk => ⟨h', by rw [he], hk⟩)
  intro Q hN hQ
  obtain ⟨pr, p1, p2⟩ := p
  have kp0 := Kept.refl h
  conv => arg 1; whnf
  refine atCall_P (box_new (cs := [.bool pr, .int .i64 p1, .int .i64 p2]) (by rw [hx]; rfl) rfl) ?_
  have kp1 := kp0.alloc (.cells [.bool pr, .int .i64 p1, .int .i64 p2] 68)
  have gt1 := gt.keep (fun o ho _ => kp1.1 _ _ ho lt)
  generalize hn0 : h.next.nat = n0 at kp0 kp1 hQ lj lt
  generalize hh_h1 : h.alloc (.cells [.bool pr, .int .i64 p1, .int .i64 p2] 68) = h1 at *
  obtain ⟨a_i3, n_i3, k_h1⟩ := alloc_facts hh_h1
  replace gj := k_h1 _ _ gj (by omega)
  clear hh_h1 k_h1
  generalize hi_i3 : h.next = i3 at *
  clear hi_i3
  conv => arg 1; whnf
  refine atCall_P (alloc_new (z := .agg [.int .i64 0, .int .i64 0]) (cs := [.int .i64 0, .int .i64 0]) (by kernel_rfl) rfl rfl) ?_
  have kp2 := kp1.alloc (.cells [.int .i64 0, .int .i64 0] 45)
  have gt2 := gt1.keep (fun o ho _ => kept_alloc (o' := .cells [.int .i64 0, .int .i64 0] 45) ho (by omega))
  generalize hh_h2 : h1.alloc (.cells [.int .i64 0, .int .i64 0] 45) = h2 at *
  obtain ⟨a_i4, n_i4, k_h2⟩ := alloc_facts hh_h2
  replace gj := k_h2 _ _ gj (by omega)
  replace a_i3 := k_h2 _ _ a_i3 (by omega)
  clear hh_h2 k_h2
  generalize hi_i4 : h1.next = i4 at *
  clear hi_i4
  have kp3 : ∀ cs T, Kept n0 h (h2.set i4 (.cells cs T)) := fun cs T => kp2.set _ (by omega)
  clear kp0 kp1 kp2 gt1 gt
  obtain ⟨a, b, ar, re, ri, rt, rs⟩ := j
  simp only [jobC] at gj
  simp only at gt2 lt
  have ut : Try.prog.underlying 57 = some (.map 68 3) := by kernel_rfl
  have ne : jj ≠ i4 := by rintro rfl; omega
  have l1 : ∀ h2, h2.get i3 = some (.cells [.bool pr, .int .i64 p1, .int .i64 p2] 68) → vOf h2 (aLoad Try.prog 3 (.ptr i3 1) h2) = some (.ret (.int .i64 p1), h2) := fun h2 g => ld_ptr (n := 1) g (by kernel_rfl) (by kernel_rfl) rfl
  have l2 : ∀ h2, h2.get i3 = some (.cells [.bool pr, .int .i64 p1, .int .i64 p2] 68) → vOf h2 (aLoad Try.prog 3 (.ptr i3 2) h2) = some (.ret (.int .i64 p2), h2) := fun h2 g => ld_ptr (n := 1) g (by kernel_rfl) (by kernel_rfl) rfl
  have l0 : ∀ h2, h2.get i3 = some (.cells [.bool pr, .int .i64 p1, .int .i64 p2] 68) → vOf h2 (aLoad Try.prog 4 (.ptr i3 0) h2) = some (.ret (.bool pr), h2) := fun h2 g => ld_ptr (n := 1) g (by kernel_rfl) (by kernel_rfl) rfl
  have lp : vOf h2 (aLoad Try.prog 45 (.ptr i3 1) h2) = some (.ret (.agg [.int .i64 p1, .int .i64 p2]), h2) := ld_agg (n := 2) a_i3 (by kernel_rfl) (by kernel_rfl) (by simp)
  have lt' : ∀ h1, h1.get jj = some (.cells [.int .i64 a, .int .i64 b, .int .i64 ar, .map re, .map ri, .map rt, .map rs] 60) → vOf h1 (aLoad Try.prog 57 (.ptr jj 5) h1) = some (.ret (.map rt), h1) := fun h1 gj => ld_ptr (n := 1) gj (by kernel_rfl) (by kernel_rfl) rfl
  have st : ∀ u v : Int, hOf (aStore Try.prog 45 (.ptr i4 0) (.agg [.int .i64 u, .int .i64 v]) h2) = some (.ret undefA, h2.set i4 (.cells [.int .i64 u, .int .i64 v] 45)) := fun u v => st_ptr (n := 2) a_i4 (by kernel_rfl) rfl (by simp) rfl
  have ld : ∀ u v : Int, aLoad Try.prog 45 (.ptr i4 0) (h2.set i4 (.cells [.int .i64 u, .int .i64 v] 45)) = some (.agg [.int .i64 u, .int .i64 v]) :=
    fun u v => ld_val (ld_agg (r := i4) (off := 0) (cs := [.int .i64 u, .int .i64 v]) (T := 45) (n := 2) (by rw [AH.get_set, if_pos rfl]) (by kernel_rfl) (by kernel_rfl) (by simp))
  conv => arg 1; whnf
  refine atCall_P (l1 h2 a_i3) ?_
  conv => arg 1; whnf
  cases e1 : decide (p1 < 0)
  · conv => arg 1; whnf
    have lk : ∀ h2, MapG placeV h2 rt (TV T) → vOf h2 (aLookup Try.prog 57 (.map rt) (placeV (pr, p1, 0)) false h2) = some (.ret (.int .i64 ((T (pr, p1, 0)).getD 0)), h2) := fun h2 g => by
      rw [lookup_G (h := h2) key_place ut (z := .int .i64 0) (by kernel_rfl) g (pr, p1, 0)]
      unfold TV
      cases T (pr, p1, 0) <;> rfl
    refine atRgn_N true (fun hh => hh.get jj = some (.cells [.int .i64 a, .int .i64 b, .int .i64 ar, .map re, .map ri, .map rt, .map rs] 60) ∧ hh.get i3 = some (.cells [.bool pr, .int .i64 p1, .int .i64 p2] 68) ∧ MapG placeV hh rt (TV T)) (T := [0, 1, 3, 7, 0, 16, 0, 64, 192, 448, 1008, 2047, 0, 4096, 12288, 32767, 65535]) (ord := [0, 1, 2, 3, 4, 5, 6, 7, 8, 9, 10, 11, 12, 13, 14, 15, 16]) (by kernel_rfl) (hrg _ _ _) hN ?_
    conv => arg 1; whnf
    refine atCall_P (lt' h2 gj) ?_
    conv => arg 1; whnf
    refine atCall_P (l0 h2 a_i3) ?_
    conv => arg 1; whnf
    refine atCall_P (l1 h2 a_i3) ?_
    conv => arg 1; whnf
    refine atCall_P (lk h2 gt2) ?_
    conv => arg 1; whnf
    refine atCall_P (l2 h2 a_i3) ?_
    conv => arg 1; whnf
    refine atCall_P (st ((T (pr, p1, 0)).getD 0) p2) ?_
    conv => arg 1; whnf
    refine atP_P ⟨?_, (fun k hk hp => match k, hk, hp with
      | 0, _, _ => ⟨gj, a_i3, gt2⟩
      | 1, _, hp => no_poss hp (by kernel_rfl)
      | k + 2, hk, _ => absurd hk (by simp)), (fun a ha => by cases ha), rfl⟩ ?_
    · refine ⟨trivial, trivial, trivial, fun _ hh g => ⟨hh, lt' hh g.1⟩, trivial, fun _ hh g => ⟨hh, l0 hh g.2.1⟩, trivial, trivial, fun _ hh g => ⟨hh, l1 hh g.2.1⟩, trivial, trivial, fun _ hh g => ⟨hh, lk hh g.2.2⟩, trivial, trivial, fun _ hh g => ⟨hh, l2 hh g.2.1⟩, trivial, trivial, trivial⟩
    conv => arg 1; whnf
    refine atLeave_P (leave_plain (.inl rfl) (l := [.agg [.int .i64 ((T (pr, p1, 0)).getD 0), .int .i64 p2]]) ?_) (hQ ((T (pr, p1, 0)).getD 0, p2) _ (by unfold atJ; rw [if_neg (by simpa using e1)]) (kp3 _ _))
    show (match aLoad Try.prog 45 (.ptr i4 0) (h2.set i4 (.cells [.int .i64 ((T (pr, p1, 0)).getD 0), .int .i64 p2] 45)), some ([] : List AV) with | some v, some l => some (v :: l) | _, _ => none) = _
    rw [ld]
  · conv => arg 1; whnf
    refine atCall_P (lp) ?_
    conv => arg 1; whnf
    refine atCall_P (st p1 p2) ?_
    conv => arg 1; whnf
    refine atLeave_P (leave_plain (.inl rfl) (l := [.agg [.int .i64 p1, .int .i64 p2]]) ?_) (hQ (p1, p2) _ (by unfold atJ; rw [if_pos (by simpa using e1)]) (kp3 _ _))
    show (match aLoad Try.prog 45 (.ptr i4 0) (h2.set i4 (.cells [.int .i64 p1, .int .i64 p2] 45)), some ([] : List AV) with | some v, some l => some (v :: l) | _, _ => none) = _
    rw [ld]

/-! ### before, wire -/

theorem b40 (call rgn n) (x y : AV) (p q : Int × Int) (hx : x = portV p) (hy : y = portV q) (h : AH) : ∃ h', B shT call rgn n 40 Try.f40 [x, y] h = some (.ret (.bool (before p q)), h') := by
  suffices hq : ∀ Q : Option (AOut × AH) → Prop, (∀ e h', before p q = e → Q (some (.ret (.bool e), h'))) → Q (B shT call rgn n 40 Try.f40 [x, y] h) from
    hq (fun y => ∃ h', y = some (.ret (.bool (before p q)), h')) (fun e h' he => ⟨h', by rw [he]⟩)
  intro Q hQ
  obtain ⟨a, b⟩ := p
  obtain ⟨c, d⟩ := q
  conv => arg 1; whnf
  refine atCall_P (box_new (cs := [.int .i64 a, .int .i64 b]) (by rw [hx]; rfl) rfl) ?_
  generalize hh_h1 : h.alloc (.cells [.int .i64 a, .int .i64 b] 45) = h1 at *
  obtain ⟨a_i2, n_i2, k_h1⟩ := alloc_facts hh_h1
  clear hh_h1 k_h1
  generalize hi_i2 : h.next = i2 at *
  clear hi_i2
  conv => arg 1; whnf
  refine atCall_P (box_new (cs := [.int .i64 c, .int .i64 d]) (by rw [hy]; rfl) rfl) ?_
  generalize hh_h2 : h1.alloc (.cells [.int .i64 c, .int .i64 d] 45) = h2 at *
  obtain ⟨a_i3, n_i3, k_h2⟩ := alloc_facts hh_h2
  replace a_i2 := k_h2 _ _ a_i2 (by omega)
  clear hh_h2 k_h2
  generalize hi_i3 : h1.next = i3 at *
  clear hi_i3
  have la : vOf h2 (aLoad Try.prog 3 (.ptr i2 0) h2) = some (.ret (.int .i64 a), h2) := ld_ptr (n := 1) a_i2 (by kernel_rfl) (by kernel_rfl) rfl
  have lb : vOf h2 (aLoad Try.prog 3 (.ptr i2 1) h2) = some (.ret (.int .i64 b), h2) := ld_ptr (n := 1) a_i2 (by kernel_rfl) (by kernel_rfl) rfl
  have lc : vOf h2 (aLoad Try.prog 3 (.ptr i3 0) h2) = some (.ret (.int .i64 c), h2) := ld_ptr (n := 1) a_i3 (by kernel_rfl) (by kernel_rfl) rfl
  have ld : vOf h2 (aLoad Try.prog 3 (.ptr i3 1) h2) = some (.ret (.int .i64 d), h2) := ld_ptr (n := 1) a_i3 (by kernel_rfl) (by kernel_rfl) rfl
  conv => arg 1; whnf
  refine atCall_P (la) ?_
  conv => arg 1; whnf
  refine atCall_P (lc) ?_
  conv => arg 1; whnf
  cases e1 : decide (a < c)
  · conv => arg 1; whnf
    refine atCall_P (la) ?_
    conv => arg 1; whnf
    refine atCall_P (lc) ?_
    conv => arg 1; whnf
    cases e2 : (a == c)
    · conv => arg 1; whnf
      refine atLeave_P (leave_plain (.inl rfl) rfl) (hQ _ _ ?_)
      simp only [before, e1, e2, Bool.false_and, Bool.or_false]
    · conv => arg 1; whnf
      refine atCall_P (lb) ?_
      conv => arg 1; whnf
      refine atCall_P (ld) ?_
      conv => arg 1; whnf
      refine atLeave_P (leave_plain (.inl rfl) rfl) (hQ _ _ ?_)
      simp only [before, e1, e2, Bool.true_and, Bool.false_or]
  · conv => arg 1; whnf
    refine atLeave_P (leave_plain (.inl rfl) rfl) (hQ _ _ ?_)
    simp only [before, e1, Bool.true_or]

def wireN (p q : Int × Int) : Wr := if before q p then (q.1, q.2, p.1, p.2) else (p.1, p.2, q.1, q.2)
def h40 (call : CallT) : Prop := ∀ a b p q h, a = portV p → b = portV q → call (.func 40) [a, b] h = some (.ret (.bool (before p q)), h)

theorem b34 (call rgn n) (x y : AV) (p q : Int × Int) (hx : x = portV p) (hy : y = portV q) (h40 : h40 call) (h : AH) : ∃ h', B shT call rgn n 34 Try.f34 [x, y] h = some (.ret (wireV (wireN p q)), h') := by
  suffices hq : ∀ Q : Option (AOut × AH) → Prop, (∀ w h', wireN p q = w → Q (some (.ret (wireV w), h'))) → Q (B shT call rgn n 34 Try.f34 [x, y] h) from
    hq (fun y => ∃ h', y = some (.ret (wireV (wireN p q)), h')) (fun e h' he => ⟨h', by rw [he]⟩)
  intro Q hQ
  obtain ⟨a, b⟩ := p
  obtain ⟨c, d⟩ := q
  conv => arg 1; whnf
  refine atCall_P (box_new (cs := [.int .i64 a, .int .i64 b]) (by rw [hx]; rfl) rfl) ?_
  generalize hh_h1 : h.alloc (.cells [.int .i64 a, .int .i64 b] 45) = h1 at *
  obtain ⟨a_i2, n_i2, k_h1⟩ := alloc_facts hh_h1
  clear hh_h1 k_h1
  generalize hi_i2 : h.next = i2 at *
  clear hi_i2
  conv => arg 1; whnf
  refine atCall_P (box_new (cs := [.int .i64 c, .int .i64 d]) (by rw [hy]; rfl) rfl) ?_
  generalize hh_h2 : h1.alloc (.cells [.int .i64 c, .int .i64 d] 45) = h2 at *
  obtain ⟨a_i3, n_i3, k_h2⟩ := alloc_facts hh_h2
  replace a_i2 := k_h2 _ _ a_i2 (by omega)
  clear hh_h2 k_h2
  generalize hi_i3 : h1.next = i3 at *
  clear hi_i3
  conv => arg 1; whnf
  refine atCall_P (alloc_new (z := .agg [.int .i64 0, .int .i64 0, .int .i64 0, .int .i64 0]) (cs := [.int .i64 0, .int .i64 0, .int .i64 0, .int .i64 0]) (by kernel_rfl) rfl rfl) ?_
  generalize hh_h3 : h2.alloc (.cells [.int .i64 0, .int .i64 0, .int .i64 0, .int .i64 0] 47) = h3 at *
  obtain ⟨a_i4, n_i4, k_h3⟩ := alloc_facts hh_h3
  replace a_i2 := k_h3 _ _ a_i2 (by omega)
  replace a_i3 := k_h3 _ _ a_i3 (by omega)
  clear hh_h3 k_h3
  generalize hi_i4 : h2.next = i4 at *
  clear hi_i4
  have l2 : ∀ (h : AH) (u v : Int), h.get i2 = some (.cells [.int .i64 u, .int .i64 v] 45) → vOf h (aLoad Try.prog 45 (.ptr i2 0) h) = some (.ret (.agg [.int .i64 u, .int .i64 v]), h) := fun h u v g => ld_agg (n := 2) g (by kernel_rfl) (by kernel_rfl) (by simp)
  have l3 : ∀ (h : AH) (u v : Int), h.get i3 = some (.cells [.int .i64 u, .int .i64 v] 45) → vOf h (aLoad Try.prog 45 (.ptr i3 0) h) = some (.ret (.agg [.int .i64 u, .int .i64 v]), h) := fun h u v g => ld_agg (n := 2) g (by kernel_rfl) (by kernel_rfl) (by simp)
  have n23 : i2 ≠ i3 := by rintro rfl; omega
  have n24 : i2 ≠ i4 := by rintro rfl; omega
  have n34 : i3 ≠ i4 := by rintro rfl; omega
  have ld : ∀ (h : AH) (s t u v : Int), aLoad Try.prog 47 (.ptr i4 0) (h.set i4 (.cells [.int .i64 s, .int .i64 t, .int .i64 u, .int .i64 v] 47)) = some (.agg [.int .i64 s, .int .i64 t, .int .i64 u, .int .i64 v]) :=
    fun h s t u v => ld_val (ld_agg (r := i4) (off := 0) (cs := [.int .i64 s, .int .i64 t, .int .i64 u, .int .i64 v]) (T := 47) (n := 4) (by rw [AH.get_set, if_pos rfl]) (by kernel_rfl) (by kernel_rfl) (by simp))
  have st : ∀ (h : AH) (s t u v : Int), h.get i4 = some (.cells [.int .i64 0, .int .i64 0, .int .i64 0, .int .i64 0] 47) → hOf (aStore Try.prog 47 (.ptr i4 0) (.agg [.int .i64 s, .int .i64 t, .int .i64 u, .int .i64 v]) h) = some (.ret undefA, h.set i4 (.cells [.int .i64 s, .int .i64 t, .int .i64 u, .int .i64 v] 47)) := fun h s t u v g => st_ptr (n := 4) g (by kernel_rfl) rfl (by simp) rfl
  conv => arg 1; whnf
  refine atCall_P (l3 h3 c d a_i3) ?_
  conv => arg 1; whnf
  refine atCall_P (l2 h3 a b a_i2) ?_
  conv => arg 1; whnf
  refine atCall_P (h40 _ _ (c, d) (a, b) h3 rfl rfl) ?_
  conv => arg 1; whnf
  cases e1 : before (c, d) (a, b)
  · conv => arg 1; whnf
    refine atCall_P (l2 h3 a b a_i2) ?_
    conv => arg 1; whnf
    refine atCall_P (l3 h3 c d a_i3) ?_
    conv => arg 1; whnf
    refine atCall_P (st h3 a b c d a_i4) ?_
    conv => arg 1; whnf
    refine atLeave_P (leave_plain (.inl rfl) (l := [.agg [.int .i64 a, .int .i64 b, .int .i64 c, .int .i64 d]]) ?_) (hQ (a, b, c, d) _ (by unfold wireN; rw [if_neg (by simp [e1])]))
    show (match aLoad Try.prog 47 (.ptr i4 0) (h3.set i4 (.cells [.int .i64 a, .int .i64 b, .int .i64 c, .int .i64 d] 47)), some ([] : List AV) with | some v, some l => some (v :: l) | _, _ => none) = _
    rw [ld]
  · conv => arg 1; whnf
    refine atCall_P (l3 h3 c d a_i3) ?_
    conv => arg 1; whnf
    refine atCall_P (l2 h3 a b a_i2) ?_
    have s2 : hOf (aStore Try.prog 45 (.ptr i2 0) (.agg [.int .i64 c, .int .i64 d]) h3) = some (.ret undefA, h3.set i2 (.cells [.int .i64 c, .int .i64 d] 45)) := st_ptr (n := 2) a_i2 (by kernel_rfl) rfl (by simp) rfl
    conv => arg 1; whnf
    refine atCall_P (s2) ?_
    generalize hh_h4 : h3.set i2 (.cells [.int .i64 c, .int .i64 d] 45) = h4 at *
    obtain ⟨b_i2, n_h4, k_h4⟩ := set_facts hh_h4
    replace a_i3 := k_h4 _ _ a_i3 (by rintro rfl; omega)
    replace a_i4 := k_h4 _ _ a_i4 (by rintro rfl; omega)
    clear hh_h4 k_h4
    replace n_h4 : h4.next.nat = h3.next.nat := congrArg Id.nat n_h4
    have s3 : hOf (aStore Try.prog 45 (.ptr i3 0) (.agg [.int .i64 a, .int .i64 b]) h4) = some (.ret undefA, h4.set i3 (.cells [.int .i64 a, .int .i64 b] 45)) := st_ptr (n := 2) a_i3 (by kernel_rfl) rfl (by simp) rfl
    conv => arg 1; whnf
    refine atCall_P (s3) ?_
    generalize hh_h5 : h4.set i3 (.cells [.int .i64 a, .int .i64 b] 45) = h5 at *
    obtain ⟨b_i3, n_h5, k_h5⟩ := set_facts hh_h5
    replace b_i2 := k_h5 _ _ b_i2 (by rintro rfl; omega)
    replace a_i4 := k_h5 _ _ a_i4 (by rintro rfl; omega)
    clear hh_h5 k_h5
    replace n_h5 : h5.next.nat = h4.next.nat := congrArg Id.nat n_h5
    conv => arg 1; whnf
    refine atCall_P (l2 h5 c d b_i2) ?_
    conv => arg 1; whnf
    refine atCall_P (l3 h5 a b b_i3) ?_
    conv => arg 1; whnf
    refine atCall_P (st h5 c d a b a_i4) ?_
    conv => arg 1; whnf
    refine atLeave_P (leave_plain (.inl rfl) (l := [.agg [.int .i64 c, .int .i64 d, .int .i64 a, .int .i64 b]]) ?_) (hQ (c, d, a, b) _ (by unfold wireN; rw [if_pos e1]))
    show (match aLoad Try.prog 47 (.ptr i4 0) (h5.set i4 (.cells [.int .i64 c, .int .i64 d, .int .i64 a, .int .i64 b] 47)), some ([] : List AV) with | some v, some l => some (v :: l) | _, _ => none) = _
    rw [ld]

def s40 : List AV → Option AV
  | [a, b] => match decPort a, decPort b with | some p, some q => some (.bool (before p q)) | _, _ => none
  | _ => none
def s34 : List AV → Option AV
  | [a, b] => match decPort a, decPort b with | some p, some q => some (wireV (wireN p q)) | _, _ => none
  | _ => none
def hk40 := addHk hk7 40 s40
def hk34 := addHk hk40 34 s34
theorem E40 : EvOK (mkEv Try.prog mu0 hk40) := mkEv_add E7 fun args v hs => by
  unfold s40 at hs; split at hs
  · split at hs
    · rename_i p q h1 h2
      cases hs
      obtain ⟨h', hb⟩ := b40 (evCall (mkEv Try.prog mu0 hk7) 1) (rg Try.prog mu0 hk7 1 40) 1 _ _ p q (decPort_inv h1) (decPort_inv h2) .empty
      exact ⟨rfl, ev_ofS shT rfl Try.func40 rfl (by kernel_rfl) hb⟩
    · cases hs
  · cases hs
theorem h40_of {hk : Hooks} {n : Nat} (hk40' : ∀ args h, hk 40 args h = hk40 40 args h) (hn : 0 < n) : h40 (evCall (mkEv Try.prog mu0 hk) n) := fun a b p q h ha hb => ev_hk (by
  rw [hk40', ha, hb]
  exact hk_top rfl rfl) hn
theorem E34 : EvOK (mkEv Try.prog mu0 hk34) := mkEv_add E40 fun args v hs => by
  unfold s34 at hs; split at hs
  · split at hs
    · rename_i p q h1 h2
      cases hs
      obtain ⟨h', hb⟩ := b34 (evCall (mkEv Try.prog mu0 hk40) 1) (rg Try.prog mu0 hk40 1 34) 1 _ _ p q (decPort_inv h1) (decPort_inv h2) (h40_of (fun _ _ => rfl) (by omega)) .empty
      exact ⟨rfl, ev_ofS shT rfl Try.func34 rfl (by kernel_rfl) hb⟩
    · cases hs
  · cases hs
def h34 (call : CallT) : Prop := ∀ a b p q h, a = portV p → b = portV q → call (.func 34) [a, b] h = some (.ret (wireV (wireN p q)), h)
theorem h34_of {hk : Hooks} {n : Nat} (hk34' : ∀ args h, hk 34 args h = hk34 34 args h) (hn : 0 < n) : h34 (evCall (mkEv Try.prog mu0 hk) n) := fun a b p q h ha hb => ev_hk (by
  rw [hk34', ha, hb]
  exact hk_top rfl rfl) hn
end Go.Proofs.Nt

/-
  rewrite: the cells that stay and those that come.
-/
namespace Go.Proofs.Nt
open Go.Sk
set_option linter.unusedVariables false
set_option linter.unusedSimpArgs false
set_option maxRecDepth 10000

theorem ints_append {call : CallT} {W : List Int} {t : Int} {h : AH} {l : AV} {c : Cap} (hl : GrowL h l (W.map intV)) (hb : W.length ≤ 1000000000) :
    ∃ l' h', aBuiltin ⟨Try.prog, mu0, call⟩ false .append #[23, 23] [l, .vsl [intV t] c] h = some (.ret l', h') ∧ Grow h' l' ((W ++ [t]).map intV) ∧ h.next.nat ≤ h'.next.nat ∧ (∀ q o, h.get q = some o → NotGrp h q → q.nat < h.next.nat → h'.get q = some o) := by
  have hhw : headOk 1 (W.map intV) = true := by cases W <;> rfl
  obtain ⟨l', h', h1, h2, h3, h4⟩ := append_growL (P := Try.prog) (types := #[23, 23]) (t := 23) (tx := 23) (elem := 3) (d := .slice 3) (n := 1) (z := .int .i64 0) (x := .vsl [intV t] c) (ys := [intV t]) rfl rfl (by kernel_rfl) (by kernel_rfl)
    (by intro k h; cases h) rfl (by kernel_rfl) (by kernel_rfl) (by omega) rfl rfl (by simp) rfl hhw hl
    (by rw [show Try.prog.bytesOf 3 = 8 by kernel_rfl]; simp; omega) (by simp; omega)
  refine ⟨l', h', ?_, by rw [List.map_append]; exact h2, h3, fun q o hq hn hlt => h4 q o hq (growL_own hl hn) hlt⟩
  show vhOf (aAppend Try.prog false #[23, 23] _ _ h) = _
  rw [h1]; rfl

/-- Nothing that was there is lost, one map and lists that grow left aside. -/
def KeptX (n0 : Nat) (r : Sk.Id) (g : AH) (h : AH) : Prop := (∀ q o, g.get q = some o → (∀ n, o ≠ .grp n) → q.nat < n0 → q ≠ r → h.get q = some o) ∧ n0 ≤ h.next.nat
theorem KeptX.refl (h : AH) (r : Sk.Id) : KeptX h.next.nat r h h := ⟨fun q o hq _ _ _ => hq, Nat.le_refl _⟩
theorem KeptX.alloc {n0 : Nat} {r : Sk.Id} {g h : AH} (hk : KeptX n0 r g h) (o : AO) : KeptX n0 r g (h.alloc o) :=
  ⟨fun q o' hq hn hlt hne => kept_alloc (hk.1 q o' hq hn hlt hne) (Nat.lt_of_lt_of_le hlt hk.2), by rw [AH.next_alloc, Id.nat_succ]; have := hk.2; omega⟩
theorem KeptX.set {n0 : Nat} {r : Sk.Id} {g h : AH} (hk : KeptX n0 r g h) {i : Sk.Id} (o : AO) (hr : n0 ≤ i.nat ∨ i = r) : KeptX n0 r g (h.set i o) :=
  ⟨fun q o' hq hn hlt hne => by
    rw [AH.get_set, if_neg (by rintro rfl; rcases hr with h1 | h1; · omega
                               · exact hne h1)]; exact hk.1 q o' hq hn hlt hne, by rw [AH.next_set]; exact hk.2⟩
theorem KeptX.kept {n0 : Nat} {r : Sk.Id} {g h h' : AH} (hk : KeptX n0 r g h) (h1 : Kept h.next.nat h h') : KeptX n0 r g h' :=
  ⟨fun q o hq hn hlt hne => h1.1 _ _ (hk.1 q o hq hn hlt hne) (Nat.lt_of_lt_of_le hlt hk.2), Nat.le_trans hk.2 h1.2⟩
theorem KeptX.app {n0 : Nat} {r : Sk.Id} {g h h' : AH} (hk : KeptX n0 r g h) (h1 : h.next.nat ≤ h'.next.nat) (h2 : ∀ q o, h.get q = some o → NotGrp h q → q.nat < h.next.nat → h'.get q = some o) : KeptX n0 r g h' :=
  ⟨fun q o hq hn hlt hne => by
    have h3 := hk.1 q o hq hn hlt hne
    exact h2 _ _ h3 (fun n => by rw [h3]; simpa using hn n) (Nat.lt_of_lt_of_le hlt hk.2), Nat.le_trans hk.2 h1⟩

def TmU (T : Tm) (x : Place) (v : Int) : Tm := fun q => if q = x then some v else T q
theorem TV_U (T : Tm) (x : Place) (v : Int) : updG (TV T) x (.int .i64 v) = TV (TmU T x v) := by
  funext q; unfold updG TV TmU; split <;> rfl

def stayF (a b : Int) : List Int → Nat → List Int → Tm → List Int × Tm
  | [], _, l, T => (l, T)
  | x :: r, c, l, T => if (c : Int) = a ∨ (c : Int) = b then stayF a b r (c + 1) l T else stayF a b r (c + 1) (l ++ [x]) (TmU T (false, c, 0) l.length)
def comeF : List Int → Nat → List Int → Tm → List Int × Tm
  | [], _, l, T => (l, T)
  | x :: r, c, l, T => comeF r (c + 1) (l ++ [x]) (TmU T (true, c, 0) l.length)

structure Inv19 (n0 : Nat) (gg : AH) (jj : Sk.Id) (j : Job) (l : AV) (L : List Int) (T : Tm) (h : AH) : Prop where
  kp : KeptX n0 j.rt gg h
  gj : h.get jj = some (.cells (jobC j) 60)
  gt : MapG placeV h j.rt (TV T)
  gl : Grow h l (L.map intV)
  lj : jj.nat < n0
  lt : j.rt.nat < n0
  ne : jj ≠ j.rt

section
variable {n0 : Nat} {gg : AH} {jj : Sk.Id} {j : Job}

/-- A cell is written down. -/
theorem Inv19.step {call : CallT} {l : AV} {L : List Int} {T : Tm} {h : AH} (hI : Inv19 n0 gg jj j l L T h) (hb : L.length ≤ 1000000000) (x : Place) (y : Int) :
    ∃ o l' h', hOf (aMapUpdate Try.prog 57 (.map j.rt) (placeV x) (.int .i64 L.length) h) = some (.ret undefA, h.set j.rt o) ∧
      aBuiltin ⟨Try.prog, mu0, call⟩ false .append #[23, 23] [l, .vsl [intV y] .lit] (h.set j.rt o) = some (.ret l', h') ∧ Inv19 n0 gg jj j l' (L ++ [y]) (TmU T x L.length) h' := by
  have ut : Try.prog.underlying 57 = some (.map 68 3) := by kernel_rfl
  obtain ⟨o, q1, q2⟩ := update_G (h := h) key_place ut hI.gt x (.int .i64 L.length)
  rw [TV_U] at q2
  have g1 : Grow (h.set j.rt o) l (L.map intV) := grow_set hI.gl o hI.gt.notGrp
  obtain ⟨l', h', r1, r2, r3, r4⟩ := ints_append (call := call) (t := y) (c := .lit) (.inl g1) hb
  have kp1 := hI.kp.set (i := j.rt) o (.inr rfl)
  have gj1 : (h.set j.rt o).get jj = some (.cells (jobC j) 60) := by rw [AH.get_set, if_neg hI.ne]; exact hI.gj
  refine ⟨o, l', h', q1, r1, kp1.app r3 r4, r4 _ _ gj1 (notGrp gj1) (Nat.lt_of_lt_of_le hI.lj kp1.2), q2.keep (fun o' ho hn => r4 _ _ ho (fun n => by rw [ho]; simpa using hn n) (Nat.lt_of_lt_of_le hI.lt kp1.2)), r2, hI.lj, hI.lt, hI.ne⟩

theorem l19a (call rgn n) (c : AV) (cells : List Int) (hc : IsL c (cells.map intV)) (hlen : cells.length ≤ 100000) {v2 : AV} {R : List Int × Tm} {K : KC (AOut × AH)} {Q : Option (AOut × AH) → Prop}
    (hK : ∀ {l : AV} {h : AH} {g1 g3 g4 g5 g6 g8 g9 g10 g11 g12 g13 g14 g15 g16 g17 g18 g19 g20 g21 g22 g23 g24 g25 g26 g27 g28 g29 g30 g31 g32 g33 g34 g35 g36 g37 g38 g39 g40 g41 g42 g43 g44 g45 g46 g47 g48 g49 g50 g51 g52 g53 g54 g55 g56 g57 g58 g59 g60 g61 g62 g63 g64 g65 g66 g67 g68 g69 : AV}, Inv19 n0 gg jj j l R.1 R.2 h → Q (K (.exit 0) ⟨(.ptr jj 0 :: g1 :: v2 :: g3 :: g4 :: g5 :: g6 :: l :: g8 :: g9 :: g10 :: g11 :: g12 :: g13 :: g14 :: g15 :: g16 :: g17 :: g18 :: g19 :: g20 :: g21 :: g22 :: g23 :: g24 :: g25 :: g26 :: g27 :: g28 :: g29 :: g30 :: g31 :: g32 :: g33 :: g34 :: g35 :: g36 :: g37 :: g38 :: g39 :: g40 :: g41 :: g42 :: g43 :: g44 :: g45 :: g46 :: g47 :: g48 :: g49 :: g50 :: g51 :: g52 :: g53 :: g54 :: g55 :: g56 :: g57 :: g58 :: g59 :: g60 :: g61 :: g62 :: g63 :: g64 :: g65 :: g66 :: g67 :: g68 :: g69 :: []), [], h⟩)) :
    ∀ (m i : Nat) {z : Int} {l : AV} {L : List Int} {T : Tm} {h : AH} {g1 g3 g4 g5 g6 g8 g9 g10 g11 g12 g16 g17 g18 g19 g20 g21 g22 g23 g24 g25 g26 g27 g28 g29 g30 g31 g32 g33 g34 g35 g36 g37 g38 g39 g40 g41 g42 g43 g44 g45 g46 g47 g48 g49 g50 g51 g52 g53 g54 g55 g56 g57 g58 g59 g60 g61 g62 g63 g64 g65 g66 g67 g68 g69 : AV}, z = i → i ≤ cells.length → cells.length - i < m → L.length ≤ i → Inv19 n0 gg jj j l L T h → R = stayF j.a j.b (cells.drop i) i L T →
    Q (cIter (LB shT call rgn n 19 Try.f19 0) m ⟨(.ptr jj 0 :: g1 :: v2 :: g3 :: g4 :: g5 :: g6 :: l :: g8 :: g9 :: g10 :: g11 :: g12 :: c :: .int .i64 cells.length :: .int .i64 z :: g16 :: g17 :: g18 :: g19 :: g20 :: g21 :: g22 :: g23 :: g24 :: g25 :: g26 :: g27 :: g28 :: g29 :: g30 :: g31 :: g32 :: g33 :: g34 :: g35 :: g36 :: g37 :: g38 :: g39 :: g40 :: g41 :: g42 :: g43 :: g44 :: g45 :: g46 :: g47 :: g48 :: g49 :: g50 :: g51 :: g52 :: g53 :: g54 :: g55 :: g56 :: g57 :: g58 :: g59 :: g60 :: g61 :: g62 :: g63 :: g64 :: g65 :: g66 :: g67 :: g68 :: g69 :: []), [], h⟩ K) := by
  have u : Try.prog.underlying 23 = some (.slice 3) := by kernel_rfl
  intro m
  induction m with
  | zero => intros; omega
  | succ m ih =>
    intro i z l L T h g1 g3 g4 g5 g6 g8 g9 g10 g11 g12 g16 g17 g18 g19 g20 g21 g22 g23 g24 g25 g26 g27 g28 g29 g30 g31 g32 g33 g34 g35 g36 g37 g38 g39 g40 g41 g42 g43 g44 g45 g46 g47 g48 g49 g50 g51 g52 g53 g54 g55 g56 g57 g58 g59 g60 g61 g62 g63 g64 g65 g66 g67 g68 g69 hz hi hm hL hI hR
    rw [cIter_succ]
    conv => arg 1; whnf
    split
    · rename_i hd
      have hlt : i < cells.length := by simp at hd; omega
      have hdrop : cells.drop i = cells[i] :: cells.drop (i + 1) := List.drop_eq_getElem_cons hlt
      have hg : (cells.map intV)[i]? = some (intV cells[i]) := by rw [List.getElem?_map, List.getElem?_eq_getElem hlt]; rfl
      have hidx := fun h => idx_L (P := Try.prog) (t := 23) (e := 3) (n := 1) (h := h) (k := .i64) u (by kernel_rfl) hc hz hg rfl
      rw [hdrop] at hR
      generalize cells[i] = y at hidx hR
      simp only [stayF] at hR
      have gj := hI.gj
      obtain ⟨o, l', h', q1, q2, q3⟩ := hI.step (call := call) (by omega) (false, (i : Int), 0) y
      obtain ⟨a, b, ar, re, ri, rt, rs⟩ := j
      simp only [jobC] at gj
      have la : vOf h (aLoad Try.prog 3 (.ptr jj 0) h) = some (.ret (.int .i64 a), h) := ld_ptr (n := 1) gj (by kernel_rfl) (by kernel_rfl) rfl
      have lb : vOf h (aLoad Try.prog 3 (.ptr jj 1) h) = some (.ret (.int .i64 b), h) := ld_ptr (n := 1) gj (by kernel_rfl) (by kernel_rfl) rfl
      have lt' : vOf h (aLoad Try.prog 57 (.ptr jj 5) h) = some (.ret (.map rt), h) := ld_ptr (n := 1) gj (by kernel_rfl) (by kernel_rfl) rfl
      have ll := fun h => len_L (X := ⟨Try.prog, mu0, call⟩) (mu := false) (h := h) u (grow_isL hI.gl)
      rw [List.length_map] at ll
      conv => arg 1; whnf
      refine atCall_P (hidx _) ?_
      conv => arg 1; whnf
      refine atCall_P (la) ?_
      conv => arg 1; whnf
      cases e1 : (z != a)
      · have e1' : (i : Int) = a := by rw [← hz]; simpa using e1
        rw [if_pos (.inl e1')] at hR
        conv => arg 1; whnf
        exact ih (i + 1) (by rw [hz]; exact wrap_succ (by omega)) (by omega) (by omega) (by omega) hI hR
      · have e1' : ¬ (i : Int) = a := by rw [← hz]; simpa using e1
        conv => arg 1; whnf
        refine atCall_P (lb) ?_
        conv => arg 1; whnf
        cases e2 : (z != b)
        · have e2' : (i : Int) = b := by rw [← hz]; simpa using e2
          rw [if_pos (.inr e2')] at hR
          conv => arg 1; whnf
          exact ih (i + 1) (by rw [hz]; exact wrap_succ (by omega)) (by omega) (by omega) (by omega) hI hR
        · have e2' : ¬ (i : Int) = b := by rw [← hz]; simpa using e2
          rw [if_neg (by rintro (h | h) <;> contradiction)] at hR
          rw [← hz] at q1
          conv => arg 1; whnf
          refine atCall_P (lt') ?_
          conv => arg 1; whnf
          refine atCall_P (ll _) ?_
          conv => arg 1; whnf
          refine atCall_P (q1) ?_
          conv => arg 1; whnf
          refine atCall_P (q2) ?_
          conv => arg 1; whnf
          exact ih (i + 1) (by rw [hz]; exact wrap_succ (by omega)) (by omega) (by omega) (by simp; omega) q3 hR
    · rename_i hd
      have hlt : ¬ i < cells.length := by simp at hd; omega
      refine hK ?_
      rw [hR, List.drop_eq_nil_of_le (by omega)]; exact hI

theorem l19b (call rgn n) (c : AV) (cells : List Int) (hc : IsL c (cells.map intV)) (hlen : cells.length ≤ 100000) {R : List Int × Tm} {K : KC (AOut × AH)} {Q : Option (AOut × AH) → Prop}
    (hK : ∀ {l : AV} {h : AH} {g1 g2 g3 g4 g5 g6 g8 g9 g10 g11 g12 g13 g14 g15 g16 g17 g18 g19 g20 g21 g22 g23 g24 g25 g26 g27 g28 g29 g30 g31 g32 g33 g34 g35 g36 g37 g38 g39 g40 g41 g42 g43 g44 g45 g46 g47 g48 g49 g50 g51 g52 g53 g54 g55 g56 g57 g58 g59 g60 g61 g62 g63 g64 g65 g66 g67 g68 g69 : AV}, Inv19 n0 gg jj j l R.1 R.2 h → Q (K (.exit 2) ⟨(.ptr jj 0 :: g1 :: g2 :: g3 :: g4 :: g5 :: g6 :: l :: g8 :: g9 :: g10 :: g11 :: g12 :: g13 :: g14 :: g15 :: g16 :: g17 :: g18 :: g19 :: g20 :: g21 :: g22 :: g23 :: g24 :: g25 :: g26 :: g27 :: g28 :: g29 :: g30 :: g31 :: g32 :: g33 :: g34 :: g35 :: g36 :: g37 :: g38 :: g39 :: g40 :: g41 :: g42 :: g43 :: g44 :: g45 :: g46 :: g47 :: g48 :: g49 :: g50 :: g51 :: g52 :: g53 :: g54 :: g55 :: g56 :: g57 :: g58 :: g59 :: g60 :: g61 :: g62 :: g63 :: g64 :: g65 :: g66 :: g67 :: g68 :: g69 :: []), [], h⟩)) :
    ∀ (m i : Nat) {z : Int} {l : AV} {L : List Int} {T : Tm} {h : AH} {g1 g2 g3 g4 g5 g6 g8 g9 g10 g11 g12 g13 g14 g15 g16 g17 g18 g19 g20 g21 g22 g23 g24 g25 g26 g27 g28 g29 g30 g31 g32 g33 g34 g35 g36 g37 g38 g39 g40 g41 g42 g43 g44 g45 g46 g47 g51 g52 g53 g54 g55 g56 g57 g58 g59 g60 g61 g62 g63 g64 g65 g66 g67 g68 g69 : AV}, z = i → i ≤ cells.length → cells.length - i < m → L.length ≤ 100000 + i → Inv19 n0 gg jj j l L T h → R = comeF (cells.drop i) i L T →
    Q (cIter (LB shT call rgn n 19 Try.f19 1) m ⟨(.ptr jj 0 :: g1 :: g2 :: g3 :: g4 :: g5 :: g6 :: l :: g8 :: g9 :: g10 :: g11 :: g12 :: g13 :: g14 :: g15 :: g16 :: g17 :: g18 :: g19 :: g20 :: g21 :: g22 :: g23 :: g24 :: g25 :: g26 :: g27 :: g28 :: g29 :: g30 :: g31 :: g32 :: g33 :: g34 :: g35 :: g36 :: g37 :: g38 :: g39 :: g40 :: g41 :: g42 :: g43 :: g44 :: g45 :: g46 :: g47 :: c :: .int .i64 cells.length :: .int .i64 z :: g51 :: g52 :: g53 :: g54 :: g55 :: g56 :: g57 :: g58 :: g59 :: g60 :: g61 :: g62 :: g63 :: g64 :: g65 :: g66 :: g67 :: g68 :: g69 :: []), [], h⟩ K) := by
  have u : Try.prog.underlying 23 = some (.slice 3) := by kernel_rfl
  intro m
  induction m with
  | zero => intros; omega
  | succ m ih =>
    intro i z l L T h g1 g2 g3 g4 g5 g6 g8 g9 g10 g11 g12 g13 g14 g15 g16 g17 g18 g19 g20 g21 g22 g23 g24 g25 g26 g27 g28 g29 g30 g31 g32 g33 g34 g35 g36 g37 g38 g39 g40 g41 g42 g43 g44 g45 g46 g47 g51 g52 g53 g54 g55 g56 g57 g58 g59 g60 g61 g62 g63 g64 g65 g66 g67 g68 g69 hz hi hm hL hI hR
    rw [cIter_succ]
    conv => arg 1; whnf
    split
    · rename_i hd
      have hlt : i < cells.length := by simp at hd; omega
      have hdrop : cells.drop i = cells[i] :: cells.drop (i + 1) := List.drop_eq_getElem_cons hlt
      have hg : (cells.map intV)[i]? = some (intV cells[i]) := by rw [List.getElem?_map, List.getElem?_eq_getElem hlt]; rfl
      have hidx := fun h => idx_L (P := Try.prog) (t := 23) (e := 3) (n := 1) (h := h) (k := .i64) u (by kernel_rfl) hc hz hg rfl
      rw [hdrop] at hR
      generalize cells[i] = y at hidx hR
      simp only [comeF] at hR
      have gj := hI.gj
      obtain ⟨o, l', h', q1, q2, q3⟩ := hI.step (call := call) (by omega) (true, (i : Int), 0) y
      obtain ⟨a, b, ar, re, ri, rt, rs⟩ := j
      simp only [jobC] at gj
      have lt' : vOf h (aLoad Try.prog 57 (.ptr jj 5) h) = some (.ret (.map rt), h) := ld_ptr (n := 1) gj (by kernel_rfl) (by kernel_rfl) rfl
      have ll := fun h => len_L (X := ⟨Try.prog, mu0, call⟩) (mu := false) (h := h) u (grow_isL hI.gl)
      rw [List.length_map] at ll
      rw [← hz] at q1
      conv => arg 1; whnf
      refine atCall_P (hidx _) ?_
      conv => arg 1; whnf
      refine atCall_P (lt') ?_
      conv => arg 1; whnf
      refine atCall_P (ll _) ?_
      conv => arg 1; whnf
      refine atCall_P (q1) ?_
      conv => arg 1; whnf
      refine atCall_P (q2) ?_
      conv => arg 1; whnf
      exact ih (i + 1) (by rw [hz]; exact wrap_succ (by omega)) (by omega) (by omega) (by simp; omega) q3 hR
    · rename_i hd
      have hlt : ¬ i < cells.length := by simp at hd; omega
      refine hK ?_
      rw [hR, List.drop_eq_nil_of_le (by omega)]; exact hI

theorem b19 (call rgn n) (v c2 : AV) (nt : Nt) (right : List Int) (hv : IsNet v nt) (hc2 : IsL c2 (right.map intV)) (hl1 : nt.cells.length ≤ 100000) (hl2 : right.length ≤ 100000) (hn1 : nt.cells.length < n) (hn2 : right.length < n) (T : Tm) (h : AH)
    (gj : h.get jj = some (.cells (jobC j) 60)) (gt : MapG placeV h j.rt (TV T)) (lj : jj.nat < h.next.nat) (lt : j.rt.nat < h.next.nat) (ne : jj ≠ j.rt) :
    ∃ l h', B shT call rgn n 19 Try.f19 [.ptr jj 0, v, c2] h = some (.ret l, h') ∧ Inv19 h.next.nat h jj j l (comeF right 0 (stayF j.a j.b nt.cells 0 [] T).1 (stayF j.a j.b nt.cells 0 [] T).2).1 (comeF right 0 (stayF j.a j.b nt.cells 0 [] T).1 (stayF j.a j.b nt.cells 0 [] T).2).2 h' := by
  generalize hRR : comeF right 0 (stayF j.a j.b nt.cells 0 [] T).1 (stayF j.a j.b nt.cells 0 [] T).2 = RR
  suffices hq : ∀ Q : Option (AOut × AH) → Prop, (∀ l h', Inv19 h.next.nat h jj j l RR.1 RR.2 h' → Q (some (.ret l, h'))) → Q (B shT call rgn n 19 Try.f19 [.ptr jj 0, v, c2] h) from
    hq (fun y => ∃ l h', y = some (.ret l, h') ∧ Inv19 h.next.nat h jj j l RR.1 RR.2 h') (fun l h' hk => ⟨l, h', rfl, hk⟩)
  intro Q hQ
  obtain ⟨c, w, rfl, hc, hw⟩ := hv
  obtain ⟨cells, f, wires⟩ := nt
  simp only at hc hw hl1 hn1 hRR ⊢
  have hcs := isL_scalar hc
  have hws := isL_scalar hw
  have u : Try.prog.underlying 23 = some (.slice 3) := by kernel_rfl
  have hlc := fun h => len_L (X := ⟨Try.prog, mu0, call⟩) (mu := false) (h := h) u hc
  have hl2' := fun h => len_L (X := ⟨Try.prog, mu0, call⟩) (mu := false) (h := h) u hc2
  rw [List.length_map] at hlc hl2'
  conv => arg 1; whnf
  refine atCall_P (box_new (cs := [c, .int .i64 f, w]) rfl (by simp only [List.all_cons, hcs, hws, List.all_nil]; rfl)) ?_
  have kp := (KeptX.refl h j.rt).alloc (.cells [c, .int .i64 f, w] 26)
  have gt1 := gt.keep (fun o ho _ => kept_alloc (o' := .cells [c, .int .i64 f, w] 26) ho lt)
  generalize hn0 : h.next.nat = n0 at kp lj lt hQ
  generalize hh_h1 : h.alloc (.cells [c, .int .i64 f, w] 26) = h1 at *
  obtain ⟨a_i4, n_i4, k_h1⟩ := alloc_facts hh_h1
  replace gj := k_h1 _ _ gj (by omega)
  clear hh_h1 k_h1
  generalize hi_i4 : h.next = i4 at *
  clear hi_i4
  have lc : vOf h1 (aLoad Try.prog 23 (.ptr i4 0) h1) = some (.ret c, h1) := ld_ptr (n := 1) a_i4 (by kernel_rfl) (by kernel_rfl) rfl
  have hI : Inv19 n0 h jj j .nilsl [] T h1 := ⟨kp, gj, gt1, .inl ⟨rfl, rfl⟩, lj, lt, ne⟩
  conv => arg 1; whnf
  refine atCall_P (lc) ?_
  conv => arg 1; whnf
  refine atCall_P (hlc _) ?_
  conv => arg 1; whnf
  refine l19a call rgn n c cells hc hl1 (R := stayF j.a j.b cells 0 [] T) ?_ n 0 (z := 0) rfl (Nat.zero_le _) (by omega) (Nat.zero_le _) hI rfl
  intro l h2
  intros
  rename_i hI2
  conv => arg 1; whnf
  refine atCall_P (hl2' _) ?_
  conv => arg 1; whnf
  have hsl : ∀ (cells : List Int) (i : Nat) (L : List Int) (T : Tm), (stayF j.a j.b cells i L T).1.length ≤ L.length + cells.length := by
    intro cells
    induction cells with
    | nil => intro i L T; simp [stayF]
    | cons x r ih =>
      intro i L T
      simp only [stayF]
      split
      · have := ih (i + 1) L T; simp; omega
      · have := ih (i + 1) (L ++ [x]) (TmU T (false, i, 0) L.length); simp at this ⊢; omega
  have hs := hsl cells 0 [] T
  refine l19b call rgn n c2 right hc2 hl2 (R := RR) ?_ n 0 (z := 0) rfl (Nat.zero_le _) (by omega) (by simp at hs; omega) hI2 (by rw [List.drop_zero, ← hRR])
  intro l h2
  intros
  rename_i hI3
  conv => arg 1; whnf
  exact atLeave_P (leave_plain (.inl rfl) rfl) (hQ _ _ hI3)
end
end Go.Proofs.Nt

/-
  rewrite: a step of a chain.
-/
namespace Go.Proofs.Nt
open Go.Sk
set_option linter.unusedVariables false
set_option linter.unusedSimpArgs false
set_option maxRecDepth 10000

/-- Nothing that was there is lost, one object aside. -/
def KeptR (n0 : Nat) (r : Sk.Id) (g : AH) (h : AH) : Prop := (∀ q o, g.get q = some o → q.nat < n0 → q ≠ r → h.get q = some o) ∧ n0 ≤ h.next.nat
theorem KeptR.refl (h : AH) (r : Sk.Id) : KeptR h.next.nat r h h := ⟨fun q o hq _ _ => hq, Nat.le_refl _⟩
theorem KeptR.alloc {n0 : Nat} {r : Sk.Id} {g h : AH} (hk : KeptR n0 r g h) (o : AO) : KeptR n0 r g (h.alloc o) :=
  ⟨fun q o' hq hlt hne => kept_alloc (hk.1 q o' hq hlt hne) (Nat.lt_of_lt_of_le hlt hk.2), by rw [AH.next_alloc, Id.nat_succ]; have := hk.2; omega⟩
theorem KeptR.set {n0 : Nat} {r : Sk.Id} {g h : AH} (hk : KeptR n0 r g h) {i : Sk.Id} (o : AO) (hr : n0 ≤ i.nat ∨ i = r) : KeptR n0 r g (h.set i o) :=
  ⟨fun q o' hq hlt hne => by
    rw [AH.get_set, if_neg (by rintro rfl; rcases hr with h1 | h1; · omega
                               · exact hne h1)]; exact hk.1 q o' hq hlt hne, by rw [AH.next_set]; exact hk.2⟩
theorem KeptR.kept {n0 : Nat} {r : Sk.Id} {g h h' : AH} (hk : KeptR n0 r g h) (h1 : Kept h.next.nat h h') : KeptR n0 r g h' :=
  ⟨fun q o hq hlt hne => h1.1 _ _ (hk.1 q o hq hlt hne) (Nat.lt_of_lt_of_le hlt hk.2), Nat.le_trans hk.2 h1.2⟩

def stepF (j : Job) (E I : Lk) (o : Bool) (k : Int) : Place × Bool × Int :=
  if o then ((false, (E (auxJ j k)).getD (0, 0)), !(faceJ j ((E (auxJ j k)).getD (0, 0))).2, (faceJ j ((E (auxJ j k)).getD (0, 0))).1)
  else ((true, (I (-1, k)).getD (0, 0)), decide (((I (-1, k)).getD (0, 0)).1 ≥ 0), ((I (-1, k)).getD (0, 0)).2)

structure CJ (call : CallT) (j : Job) : Prop where
  c39 : ∀ {jj k} h, h.get jj = some (.cells (jobC j) 60) → jj.nat < h.next.nat → ∃ h', call (.func 39) [.ptr jj 0, .int .i64 k] h = some (.ret (portV (auxJ j k)), h') ∧ Kept h.next.nat h h'
  c21 : ∀ {jj p x} h, x = portV p → h.get jj = some (.cells (jobC j) 60) → jj.nat < h.next.nat → ∃ h', call (.func 21) [.ptr jj 0, x] h = some (.ret (.tup [.int .i64 (faceJ j p).1, .bool (faceJ j p).2]), h') ∧ Kept h.next.nat h h'

structure Env38 (jj io ib ik : Sk.Id) (j : Job) (E I : Lk) (o : Bool) (k : Int) (h : AH) : Prop where
  gj : h.get jj = some (.cells (jobC j) 60)
  ge : MapAt h j.re fun p => (E p).map portV
  gi : MapAt h j.ri fun p => (I p).map portV
  go : h.get io = some (.cells [.bool o] 4)
  gb : h.get ib = some (.cells [.ptr jj 0] 54)
  gk : h.get ik = some (.cells [.int .i64 k] 3)
  lj : jj.nat < h.next.nat
  le : j.re.nat < h.next.nat
  li : j.ri.nat < h.next.nat
  lo : io.nat < h.next.nat
  lb : ib.nat < h.next.nat
  lk : ik.nat < h.next.nat
theorem Env38.keep {jj io ib ik : Sk.Id} {j : Job} {E I : Lk} {o : Bool} {k : Int} {h h' : AH} (e : Env38 jj io ib ik j E I o k h) (hk : Kept h.next.nat h h') : Env38 jj io ib ik j E I o k h' :=
  have t : ∀ {q : Sk.Id}, q.nat < h.next.nat → q.nat < h'.next.nat := fun hq => Nat.lt_of_lt_of_le hq hk.2
  ⟨hk.1 _ _ e.gj e.lj, e.ge.keep (fun o ho => hk.1 _ _ ho e.le), e.gi.keep (fun o ho => hk.1 _ _ ho e.li), hk.1 _ _ e.go e.lo, hk.1 _ _ e.gb e.lb, hk.1 _ _ e.gk e.lk, t e.lj, t e.le, t e.li, t e.lo, t e.lb, t e.lk⟩

set_option maxHeartbeats 1000000 in
theorem b38 (call rgn n) (jj io ib ik : Sk.Id) (j : Job) (E I : Lk) (o : Bool) (k : Int) (h : AH) (e : Env38 jj io ib ik j E I o k h) (C : CJ call j) (hrg : ∀ id ops st, rgn id ops st = drawn ⟨Try.prog, mu0, call⟩ 38 ops st)
    (n1 : ik ≠ jj) (n2 : ik ≠ io) (n3 : ik ≠ ib) (n4 : ik ≠ j.re) (n5 : ik ≠ j.ri) :
    ∃ h', B shT call rgn n 38 Try.f38 [.ptr io 0, .ptr ib 0, .ptr ik 0] h = some (.ret (.tup [placeV (stepF j E I o k).1, .bool (stepF j E I o k).2.1]), h') ∧ KeptR h.next.nat ik h h' ∧ h'.get ik = some (.cells [.int .i64 (stepF j E I o k).2.2] 3) := by
  suffices hq : ∀ Q : Option (AOut × AH) → Prop, ¬ Q none → (∀ x g k' h', stepF j E I o k = (x, g, k') → KeptR h.next.nat ik h h' → h'.get ik = some (.cells [.int .i64 k'] 3) → Q (some (.ret (.tup [placeV x, .bool g]), h'))) → Q (B shT call rgn n 38 Try.f38 [.ptr io 0, .ptr ib 0, .ptr ik 0] h) from
    hq (fun y => ∃ h', y = some (.ret (.tup [placeV (stepF j E I o k).1, .bool (stepF j E I o k).2.1]), h') ∧ KeptR h.next.nat ik h h' ∧ h'.get ik = some (.cells [.int .i64 (stepF j E I o k).2.2] 3)) (by rintro ⟨_, h, _⟩; cases h) (fun x g k' h' he hk hg => ⟨h', by rw [he], hk, by rw [he]; exact hg⟩)
  intro Q hN hQ
  have um : Try.prog.underlying 55 = some (.map 45 45) := by kernel_rfl
  conv => arg 1; whnf
  refine atCall_P (alloc_new (z := .agg [.bool false, .int .i64 0, .int .i64 0]) (cs := [.bool false, .int .i64 0, .int .i64 0]) (by kernel_rfl) rfl rfl) ?_
  have kp := (KeptR.refl h ik).alloc (.cells [.bool false, .int .i64 0, .int .i64 0] 68)
  have e1 := e.keep (kept_one h (.cells [.bool false, .int .i64 0, .int .i64 0] 68))
  have hlt := e.lk
  clear e
  generalize hn0 : h.next.nat = n0 at kp hQ hlt
  generalize hh_h1 : h.alloc (.cells [.bool false, .int .i64 0, .int .i64 0] 68) = h1 at *
  obtain ⟨a_i3, n_i3, k_h1⟩ := alloc_facts hh_h1
  clear hh_h1 k_h1
  generalize hi_i3 : h.next = i3 at *
  clear hi_i3
  have lo : vOf h1 (aLoad Try.prog 4 (.ptr io 0) h1) = some (.ret (.bool o), h1) := ld_ptr (n := 1) e1.go (by kernel_rfl) (by kernel_rfl) rfl
  have lb : ∀ h1, h1.get ib = some (.cells [.ptr jj 0] 54) → vOf h1 (aLoad Try.prog 54 (.ptr ib 0) h1) = some (.ret (.ptr jj 0), h1) := fun h1 g => ld_ptr (n := 1) g (by kernel_rfl) (by kernel_rfl) rfl
  have lk : ∀ h1, h1.get ik = some (.cells [.int .i64 k] 3) → vOf h1 (aLoad Try.prog 3 (.ptr ik 0) h1) = some (.ret (.int .i64 k), h1) := fun h1 g => ld_ptr (n := 1) g (by kernel_rfl) (by kernel_rfl) rfl
  have le : ∀ h1, h1.get jj = some (.cells (jobC j) 60) → vOf h1 (aLoad Try.prog 55 (.ptr jj 3) h1) = some (.ret (.map j.re), h1) := fun h1 g => ld_ptr (n := 1) g (by kernel_rfl) (by kernel_rfl) rfl
  have li : ∀ h1, h1.get jj = some (.cells (jobC j) 60) → vOf h1 (aLoad Try.prog 55 (.ptr jj 4) h1) = some (.ret (.map j.ri), h1) := fun h1 g => ld_ptr (n := 1) g (by kernel_rfl) (by kernel_rfl) rfl
  conv => arg 1; whnf
  refine atCall_P (lo) ?_
  conv => arg 1; whnf
  have look : ∀ (M : Lk) (p : Int × Int), ((fun p => (M p).map portV) p).getD (portV (0, 0)) = portV ((M p).getD (0, 0)) := fun M p => by cases h : M p <;> simp [h]
  cases o
  · -- inward
    conv => arg 1; whnf
    have lm : ∀ h1, MapAt h1 j.ri (fun p => (I p).map portV) → vOf h1 (aLookup Try.prog 55 (.map j.ri) (portV (-1, k)) false h1) = some (.ret (portV ((I (-1, k)).getD (0, 0))), h1) := fun h1 g => by
      rw [lookup_M (h := h1) um (z := portV (0, 0)) (by kernel_rfl) g (-1, k), look]
    refine atRgn_N true (fun hh => hh.get jj = some (.cells (jobC j) 60) ∧ hh.get ib = some (.cells [.ptr jj 0] 54) ∧ hh.get ik = some (.cells [.int .i64 k] 3) ∧ MapAt hh j.ri (fun p => (I p).map portV)) (T := [0, 1, 3, 7, 0, 16, 63, 0, 255]) (ord := [0, 1, 2, 3, 4, 5, 6, 7, 8]) (by kernel_rfl) (hrg _ _ _) hN ?_
    generalize hp : (I (-1, k)).getD (0, 0) = p at lm
    obtain ⟨p1, p2⟩ := p
    conv => arg 1; whnf
    refine atCall_P (lb h1 e1.gb) ?_
    conv => arg 1; whnf
    refine atCall_P (li h1 e1.gj) ?_
    conv => arg 1; whnf
    refine atCall_P (lk h1 e1.gk) ?_
    conv => arg 1; whnf
    refine atCall_P (lm h1 e1.gi) ?_
    conv => arg 1; whnf
    refine atNew_P (v := .ptr h1.next 0) (ob := .cells [.int .i64 0, .int .i64 0] 45) (by kernel_rfl) ?_
    have e2 := e1.keep (kept_one h1 (.cells [.int .i64 0, .int .i64 0] 45))
    replace kp := kp.alloc (.cells [.int .i64 0, .int .i64 0] 45)
    generalize hh_h2 : h1.alloc (.cells [.int .i64 0, .int .i64 0] 45) = h2 at *
    obtain ⟨a_i8, n_i8, k_h2⟩ := alloc_facts hh_h2
    replace a_i3 := k_h2 _ _ a_i3 (by omega)
    clear hh_h2 k_h2
    generalize hi_i8 : h1.next = i8 at *
    clear hi_i8
    have n38 : i3 ≠ i8 := by rintro rfl; omega
    have nk8 : ik ≠ i8 := by rintro rfl; omega
    have nk3 : ik ≠ i3 := by rintro rfl; omega
    have st : hOf (aStore Try.prog 45 (.ptr i8 0) (portV (p1, p2)) h2) = some (.ret undefA, h2.set i8 (.cells [.int .i64 p1, .int .i64 p2] 45)) := st_ptr (n := 2) a_i8 (by kernel_rfl) rfl (by simp) rfl
    conv => arg 1; whnf
    refine atCall_P (st) ?_
    replace kp := kp.set (i := i8) (.cells [.int .i64 p1, .int .i64 p2] 45) (.inl (by omega))
    have a8 := a_i8
    have gk2 := e2.gk
    generalize hh_h3 : h2.set i8 (.cells [.int .i64 p1, .int .i64 p2] 45) = h3 at *
    obtain ⟨b_i8, n_h3, k_h3⟩ := set_facts hh_h3
    replace a_i3 := k_h3 _ _ a_i3 (by rintro rfl; omega)
    replace gk2 := k_h3 _ _ gk2 (by rintro rfl; omega)
    clear hh_h3 k_h3
    replace n_h3 : h3.next.nat = h2.next.nat := congrArg Id.nat n_h3
    conv => arg 1; whnf
    refine atP_P ⟨?_, (fun q hk hp => match q, hk, hp with
      | 0, _, _ => ⟨e2.gj, e2.gb, e2.gk, e2.gi⟩
      | 1, _, hp => no_poss hp (by kernel_rfl)
      | q + 2, hk, _ => absurd hk (by simp)), fun ne he => ?_, rfl⟩ ?_
    · refine ⟨fun _ hh g => ⟨hh, lb hh g.2.1⟩, trivial, trivial, fun _ hh g => ⟨hh, li hh g.1⟩, fun _ hh g => ⟨hh, lk hh g.2.2.1⟩, trivial, fun _ hh g => ⟨hh, lm hh g.2.2.2⟩, trivial, trivial, trivial⟩
    · simp only [List.nil_append, List.mem_singleton] at he
      subst he
      exact ⟨AO.beq_cells _ _, fun q hk hp => match q, hk, hp with
        | 0, _, _ => ⟨Nat.zero_le _, a8⟩
        | 1, _, hp => no_poss hp (by kernel_rfl)
        | q + 2, hk, _ => absurd hk (by simp)⟩
    have l81 : vOf h3 (aLoad Try.prog 3 (.ptr i8 1) h3) = some (.ret (.int .i64 p2), h3) := ld_ptr (n := 1) b_i8 (by kernel_rfl) (by kernel_rfl) rfl
    have st2 : hOf (aStore Try.prog 3 (.ptr ik 0) (.int .i64 p2) h3) = some (.ret undefA, h3.set ik (.cells [.int .i64 p2] 3)) := st_ptr (n := 1) gk2 (by kernel_rfl) rfl (by simp) rfl
    conv => arg 1; whnf
    refine atCall_P (l81) ?_
    conv => arg 1; whnf
    refine atCall_P (st2) ?_
    replace kp := kp.set (i := ik) (.cells [.int .i64 p2] 3) (.inr rfl)
    generalize hh_h4 : h3.set ik (.cells [.int .i64 p2] 3) = h4 at *
    obtain ⟨b_ik, n_h4, k_h4⟩ := set_facts hh_h4
    replace a_i3 := k_h4 _ _ a_i3 (by rintro rfl; omega)
    replace b_i8 := k_h4 _ _ b_i8 (by rintro rfl; omega)
    clear hh_h4 k_h4
    replace n_h4 : h4.next.nat = h3.next.nat := congrArg Id.nat n_h4
    conv => arg 1; whnf
    have l45 : ∀ h, h.get i8 = some (.cells [.int .i64 p1, .int .i64 p2] 45) → vOf h (aLoad Try.prog 45 (.ptr i8 0) h) = some (.ret (.agg [.int .i64 p1, .int .i64 p2]), h) := fun h g => ld_agg (n := 2) g (by kernel_rfl) (by kernel_rfl) (by simp)
    have l80 : ∀ h, h.get i8 = some (.cells [.int .i64 p1, .int .i64 p2] 45) → vOf h (aLoad Try.prog 3 (.ptr i8 0) h) = some (.ret (.int .i64 p1), h) := fun h g => ld_ptr (n := 1) g (by kernel_rfl) (by kernel_rfl) rfl
    refine atRgn_N true (fun hh => hh.get i8 = some (.cells [.int .i64 p1, .int .i64 p2] 45)) (T := [0, 1, 0, 4, 12, 3, 63]) (ord := [0, 1, 2, 3, 4, 5, 6]) (by kernel_rfl) (hrg _ _ _) hN ?_
    conv => arg 1; whnf
    refine atCall_P (l45 h4 b_i8) ?_
    conv => arg 1; whnf
    refine atCall_P (l80 h4 b_i8) ?_
    have st3 : hOf (aStore Try.prog 68 (.ptr i3 0) (.agg [.bool true, .int .i64 p1, .int .i64 p2]) h4) = some (.ret undefA, h4.set i3 (.cells [.bool true, .int .i64 p1, .int .i64 p2] 68)) := st_ptr (n := 3) a_i3 (by kernel_rfl) rfl (by simp) rfl
    conv => arg 1; whnf
    refine atCall_P (st3) ?_
    replace kp := kp.set (i := i3) (.cells [.bool true, .int .i64 p1, .int .i64 p2] 68) (.inl (by omega))
    have b8 := b_i8
    generalize hh_h5 : h4.set i3 (.cells [.bool true, .int .i64 p1, .int .i64 p2] 68) = h5 at *
    obtain ⟨b_i3, n_h5, k_h5⟩ := set_facts hh_h5
    replace b_i8 := k_h5 _ _ b_i8 (by rintro rfl; omega)
    replace b_ik := k_h5 _ _ b_ik (by rintro rfl; omega)
    clear hh_h5 k_h5
    replace n_h5 : h5.next.nat = h4.next.nat := congrArg Id.nat n_h5
    conv => arg 1; whnf
    refine atP_P ⟨?_, (fun q hk hp => match q, hk, hp with
      | 0, _, _ => b8
      | q + 1, _, _ => b_i8), (fun a ha => by cases ha), rfl⟩ ?_
    · refine ⟨fun _ hh g => ⟨hh, l45 hh g⟩, trivial, trivial, fun _ hh g => ⟨hh, l80 hh g⟩, trivial, trivial, trivial, trivial⟩
    conv => arg 1; whnf
    have ld : aLoad Try.prog 68 (.ptr i3 0) h5 = some (.agg [.bool true, .int .i64 p1, .int .i64 p2]) := ld_val (ld_agg (n := 3) b_i3 (by kernel_rfl) (by kernel_rfl) (by simp))
    refine atLeave_P (leave_plain (.inl rfl) (l := [.agg [.bool true, .int .i64 p1, .int .i64 p2], .bool (decide (p1 ≥ 0))]) ?_) (hQ (true, p1, p2) (decide (p1 ≥ 0)) p2 _ (by simp only [stepF, hp]; rfl) kp b_ik)
    show (match aLoad Try.prog 68 (.ptr i3 0) h5, some [AV.bool (decide (p1 ≥ 0))] with | some v, some l => some (v :: l) | _, _ => none) = _
    rw [ld]
  · -- outward
    conv => arg 1; whnf
    have lm : ∀ h1, MapAt h1 j.re (fun p => (E p).map portV) → vOf h1 (aLookup Try.prog 55 (.map j.re) (portV (auxJ j k)) false h1) = some (.ret (portV ((E (auxJ j k)).getD (0, 0))), h1) := fun h1 g => by
      rw [lookup_M (h := h1) um (z := portV (0, 0)) (by kernel_rfl) g (auxJ j k), look]
    refine atRgn_N true (fun hh => hh.get jj = some (.cells (jobC j) 60) ∧ hh.get ib = some (.cells [.ptr jj 0] 54) ∧ hh.get ik = some (.cells [.int .i64 k] 3) ∧ MapAt hh j.re (fun p => (E p).map portV)) (T := [0, 1, 3, 7, 0, 0, 48, 127, 0, 511]) (ord := [0, 1, 2, 3, 4, 5, 8, 6, 7, 9]) (by kernel_rfl) (hrg _ _ _) hN ?_
    generalize hp : (E (auxJ j k)).getD (0, 0) = p at lm
    obtain ⟨p1, p2⟩ := p
    conv => arg 1; whnf
    refine atCall_P (lb h1 e1.gb) ?_
    conv => arg 1; whnf
    refine atCall_P (le h1 e1.gj) ?_
    conv => arg 1; whnf
    refine atCall_P (lb h1 e1.gb) ?_
    conv => arg 1; whnf
    refine atCall_P (lk h1 e1.gk) ?_
    conv => arg 1; whnf
    refine atNew_P (v := .ptr h1.next 0) (ob := .cells [.int .i64 0, .int .i64 0] 45) (by kernel_rfl) ?_
    have ljj := e1.lj
    have lib := e1.lb
    have e2 := e1.keep (kept_one h1 (.cells [.int .i64 0, .int .i64 0] 45))
    replace kp := kp.alloc (.cells [.int .i64 0, .int .i64 0] 45)
    generalize hh_h2 : h1.alloc (.cells [.int .i64 0, .int .i64 0] 45) = h2 at *
    obtain ⟨a_i8, n_i8, k_h2⟩ := alloc_facts hh_h2
    replace a_i3 := k_h2 _ _ a_i3 (by omega)
    clear hh_h2 k_h2
    generalize hi_i8 : h1.next = i8 at *
    clear hi_i8
    have n38 : i3 ≠ i8 := by rintro rfl; omega
    have nk8 : ik ≠ i8 := by rintro rfl; omega
    have nk3 : ik ≠ i3 := by rintro rfl; omega
    obtain ⟨h3, c1, c2⟩ := C.c39 (k := k) h2 e2.gj e2.lj
    conv => arg 1; whnf
    refine atCall_P (c1) ?_
    have e3 := e2.keep c2
    replace kp := kp.kept c2
    have b3 := c2.1 _ _ a_i3 (by omega)
    have b8 := c2.1 _ _ a_i8 (by omega)
    have hnx := c2.2
    conv => arg 1; whnf
    refine atCall_P (lm h3 e3.ge) ?_
    have st : hOf (aStore Try.prog 45 (.ptr i8 0) (portV (p1, p2)) h3) = some (.ret undefA, h3.set i8 (.cells [.int .i64 p1, .int .i64 p2] 45)) := st_ptr (n := 2) b8 (by kernel_rfl) rfl (by simp) rfl
    conv => arg 1; whnf
    refine atCall_P (st) ?_
    replace kp := kp.set (i := i8) (.cells [.int .i64 p1, .int .i64 p2] 45) (.inl (by omega))
    have gk3 := e3.gk
    have gj3 := e3.gj
    have gb3 := e3.gb
    have bx8 := b8
    have njj : jj ≠ i8 := by rintro rfl; omega
    have nib : ib ≠ i8 := by rintro rfl; omega
    have e3' := e3
    have a8 := a_i8
    generalize hh_h4 : h3.set i8 (.cells [.int .i64 p1, .int .i64 p2] 45) = h4 at *
    obtain ⟨b_i8, n_h4, k_h4⟩ := set_facts hh_h4
    replace b3 := k_h4 _ _ b3 (by rintro rfl; omega)
    replace gk3 := k_h4 _ _ gk3 (by rintro rfl; omega)
    replace gj3 := k_h4 _ _ gj3 (by rintro rfl; omega)
    replace gb3 := k_h4 _ _ gb3 (by rintro rfl; omega)
    clear hh_h4 k_h4
    replace n_h4 : h4.next.nat = h3.next.nat := congrArg Id.nat n_h4
    conv => arg 1; whnf
    refine atP_P ⟨?_, (fun q hk hp => match q, hk, hp with
      | 0, _, _ => ⟨e2.gj, e2.gb, e2.gk, e2.ge⟩
      | 1, _, _ => ⟨e3.gj, e3.gb, e3.gk, e3.ge⟩
      | 2, _, hp => no_poss hp (by kernel_rfl)
      | q + 3, hk, _ => absurd hk (by simp)), fun ne he => ?_, rfl⟩ ?_
    · refine ⟨fun _ hh g => ⟨hh, lb hh g.2.1⟩, trivial, trivial, fun _ hh g => ⟨hh, le hh g.1⟩, fun _ hh g => ⟨hh, lb hh g.2.1⟩, fun _ hh g => ⟨hh, lk hh g.2.2.1⟩, trivial, trivial, fun _ hh g => ⟨hh, lm hh g.2.2.2⟩, trivial, trivial⟩
    · simp only [List.nil_append, List.mem_singleton] at he
      subst he
      exact ⟨AO.beq_cells _ _, fun q hk hp => match q, hk, hp with
        | 0, _, _ => ⟨Nat.zero_le _, a8⟩
        | 1, _, _ => ⟨Nat.zero_le _, bx8⟩
        | 2, _, hp => no_poss hp (by kernel_rfl)
        | q + 3, hk, _ => absurd hk (by simp)⟩
    have l45 : ∀ h, h.get i8 = some (.cells [.int .i64 p1, .int .i64 p2] 45) → vOf h (aLoad Try.prog 45 (.ptr i8 0) h) = some (.ret (.agg [.int .i64 p1, .int .i64 p2]), h) := fun h g => ld_agg (n := 2) g (by kernel_rfl) (by kernel_rfl) (by simp)
    have hnx4 : h4.next.nat = h3.next.nat := n_h4
    obtain ⟨h5, d1, d2⟩ := C.c21 (p := (p1, p2)) (x := .agg [.int .i64 p1, .int .i64 p2]) h4 rfl gj3 (by omega)
    conv => arg 1; whnf
    refine atCall_P (lb h4 gb3) ?_
    conv => arg 1; whnf
    refine atCall_P (l45 h4 b_i8) ?_
    conv => arg 1; whnf
    refine atCall_P (d1) ?_
    replace kp := kp.kept d2
    have c3 := d2.1 _ _ b3 (by omega)
    have c8 := d2.1 _ _ b_i8 (by omega)
    have ck := d2.1 _ _ gk3 (by omega)
    have hnx5 := d2.2
    have st2 : hOf (aStore Try.prog 3 (.ptr ik 0) (.int .i64 (faceJ j (p1, p2)).1) h5) = some (.ret undefA, h5.set ik (.cells [.int .i64 (faceJ j (p1, p2)).1] 3)) := st_ptr (n := 1) ck (by kernel_rfl) rfl (by simp) rfl
    conv => arg 1; whnf
    refine atCall_P (st2) ?_
    replace kp := kp.set (i := ik) (.cells [.int .i64 (faceJ j (p1, p2)).1] 3) (.inr rfl)
    generalize hh_h6 : h5.set ik (.cells [.int .i64 (faceJ j (p1, p2)).1] 3) = h6 at *
    obtain ⟨b_ik, n_h6, k_h6⟩ := set_facts hh_h6
    replace c3 := k_h6 _ _ c3 (by rintro rfl; omega)
    replace c8 := k_h6 _ _ c8 (by rintro rfl; omega)
    clear hh_h6 k_h6
    replace n_h6 : h6.next.nat = h5.next.nat := congrArg Id.nat n_h6
    conv => arg 1; whnf
    refine atCall_P (l45 h6 c8) ?_
    have st3 : hOf (aStore Try.prog 68 (.ptr i3 0) (.agg [.bool false, .int .i64 p1, .int .i64 p2]) h6) = some (.ret undefA, h6.set i3 (.cells [.bool false, .int .i64 p1, .int .i64 p2] 68)) := st_ptr (n := 3) c3 (by kernel_rfl) rfl (by simp) rfl
    conv => arg 1; whnf
    refine atCall_P (st3) ?_
    replace kp := kp.set (i := i3) (.cells [.bool false, .int .i64 p1, .int .i64 p2] 68) (.inl (by omega))
    generalize hh_h7 : h6.set i3 (.cells [.bool false, .int .i64 p1, .int .i64 p2] 68) = h7 at *
    obtain ⟨b_i3, n_h7, k_h7⟩ := set_facts hh_h7
    replace b_ik := k_h7 _ _ b_ik (by rintro rfl; omega)
    clear hh_h7 k_h7
    replace n_h7 : h7.next.nat = h6.next.nat := congrArg Id.nat n_h7
    conv => arg 1; whnf
    have ld : aLoad Try.prog 68 (.ptr i3 0) h7 = some (.agg [.bool false, .int .i64 p1, .int .i64 p2]) := ld_val (ld_agg (n := 3) b_i3 (by kernel_rfl) (by kernel_rfl) (by simp))
    refine atLeave_P (leave_plain (.inl rfl) (l := [.agg [.bool false, .int .i64 p1, .int .i64 p2], .bool (!(faceJ j (p1, p2)).2)]) ?_) (hQ (false, p1, p2) (!(faceJ j (p1, p2)).2) (faceJ j (p1, p2)).1 _ (by simp only [stepF, hp]; rfl) kp b_ik)
    show (match aLoad Try.prog 68 (.ptr i3 0) h7, some [AV.bool (!(faceJ j (p1, p2)).2)] with | some v, some l => some (v :: l) | _, _ => none) = _
    rw [ld]
end Go.Proofs.Nt

/-
  rewrite: the end of a chain.
-/
namespace Go.Proofs.Nt
open Go.Sk
set_option linter.unusedVariables false
set_option linter.unusedSimpArgs false
set_option maxRecDepth 10000

abbrev Si := Int → Bool
def SI (S : Si) : Int → Option AV := fun k => if S k then some (.bool true) else none
def addI (S : Si) (k : Int) : Si := fun q => if q = k then true else S q
theorem SI_add (S : Si) (k : Int) : updG (SI S) k (.bool true) = SI (addI S k) := by
  funext q; unfold updG SI addI; split <;> rfl

/-- Where a chain ends; the faces that were seen. -/
def farF (j : Job) (E I : Lk) (first : Int) (way : Bool) : Nat → Int → Bool → Si → Option ((Place × Bool) × Si)
  | 0, _, _, _ => none
  | m + 1, k, o, S =>
    if (stepF j E I o k).2.1 then some (((stepF j E I o k).1, true), addI S k)
    else if (stepF j E I o k).2.2 = first ∧ (!o) = way then some (((false, 0, 0), false), addI S k)
    else farF j E I first way m (stepF j E I o k).2.2 (!o) (addI S k)

theorem Env38.keepR {jj io ib ik : Sk.Id} {j : Job} {E I : Lk} {o : Bool} {k k' : Int} {h h' : AH} (e : Env38 jj io ib ik j E I o k h) (hk : KeptR h.next.nat ik h h') (hg : h'.get ik = some (.cells [.int .i64 k'] 3))
    (n1 : ik ≠ jj) (n2 : ik ≠ io) (n3 : ik ≠ ib) (n4 : ik ≠ j.re) (n5 : ik ≠ j.ri) : Env38 jj io ib ik j E I o k' h' :=
  have t : ∀ {q : Sk.Id}, q.nat < h.next.nat → q.nat < h'.next.nat := fun hq => Nat.lt_of_lt_of_le hq hk.2
  ⟨hk.1 _ _ e.gj e.lj n1.symm, e.ge.keep (fun o ho => hk.1 _ _ ho e.le n4.symm), e.gi.keep (fun o ho => hk.1 _ _ ho e.li n5.symm), hk.1 _ _ e.go e.lo n2.symm, hk.1 _ _ e.gb e.lb n3.symm, hg, t e.lj, t e.le, t e.li, t e.lo, t e.lb, t e.lk⟩

theorem KeptR.comp {n0 : Nat} {r i : Sk.Id} {g h h' : AH} (hk : KeptR n0 r g h) (h1 : KeptR h.next.nat i h h') (hi : n0 ≤ i.nat) : KeptR n0 r g h' :=
  ⟨fun q o hq hlt hne => h1.1 _ _ (hk.1 q o hq hlt hne) (Nat.lt_of_lt_of_le hlt hk.2) (by rintro rfl; omega), Nat.le_trans hk.2 h1.2⟩

/-- An object that is none of them is written. -/
theorem Env38.other {jj io ib ik : Sk.Id} {j : Job} {E I : Lk} {o : Bool} {k : Int} {h : AH} {r : Sk.Id} {ob : AO} (e : Env38 jj io ib ik j E I o k h) (n1 : jj ≠ r) (n2 : j.re ≠ r) (n3 : j.ri ≠ r) (n4 : io ≠ r) (n5 : ib ≠ r) (n6 : ik ≠ r) : Env38 jj io ib ik j E I o k (h.set r ob) := by
  have t : ∀ {q : Sk.Id} {o}, h.get q = some o → q ≠ r → (h.set r ob).get q = some o := fun hq hne => by rw [AH.get_set, if_neg hne]; exact hq
  refine ⟨t e.gj n1, e.ge.keep (fun o ho => t ho n2), e.gi.keep (fun o ho => t ho n3), t e.go n4, t e.gb n5, t e.gk n6, ?_, ?_, ?_, ?_, ?_, ?_⟩ <;> rw [AH.next_set]
  · exact e.lj
  · exact e.le
  · exact e.li
  · exact e.lo
  · exact e.lb
  · exact e.lk
/-- The way is written. -/
theorem Env38.way {jj io ib ik : Sk.Id} {j : Job} {E I : Lk} {o o' : Bool} {k : Int} {h : AH} (e : Env38 jj io ib ik j E I o k h) (n1 : jj ≠ io) (n2 : j.re ≠ io) (n3 : j.ri ≠ io) (n5 : ib ≠ io) (n6 : ik ≠ io) : Env38 jj io ib ik j E I o' k (h.set io (.cells [.bool o'] 4)) := by
  have t : ∀ {q : Sk.Id} {o}, h.get q = some o → q ≠ io → (h.set io (.cells [.bool o'] 4)).get q = some o := fun hq hne => by rw [AH.get_set, if_neg hne]; exact hq
  refine ⟨t e.gj n1, e.ge.keep (fun o ho => t ho n2), e.gi.keep (fun o ho => t ho n3), by rw [AH.get_set, if_pos rfl], t e.gb n5, t e.gk n6, ?_, ?_, ?_, ?_, ?_, ?_⟩ <;> rw [AH.next_set]
  · exact e.lj
  · exact e.le
  · exact e.li
  · exact e.lo
  · exact e.lb
  · exact e.lk

structure Inv33 (n0 : Nat) (gg : AH) (jj i3 i4 i5 i6 : Sk.Id) (j : Job) (E I : Lk) (o : Bool) (k : Int) (S : Si) (h : AH) : Prop where
  e : Env38 jj i5 i3 i4 j E I o k h
  gs : MapG intV h j.rs (SI S)
  g6 : h.get i6 = some (.cells [.bool false, .int .i64 0, .int .i64 0] 68)
  kp : KeptR n0 j.rs gg h
  l6 : i6.nat < h.next.nat

section
variable {n0 : Nat} {gg : AH} {jj i3 i4 i5 i6 : Sk.Id} {j : Job} {E I : Lk}

def C33 (call : CallT) (jj : Sk.Id) (j : Job) (E I : Lk) : Prop :=
  ∀ {i3 i4 i5 : Sk.Id} o k h, Env38 jj i5 i3 i4 j E I o k h → i4 ≠ jj → i4 ≠ i5 → i4 ≠ i3 → i4 ≠ j.re → i4 ≠ j.ri → ∃ h', call (.func 38) [.ptr i5 0, .ptr i3 0, .ptr i4 0] h = some (.ret (.tup [placeV (stepF j E I o k).1, .bool (stepF j E I o k).2.1]), h') ∧ KeptR h.next.nat i4 h h' ∧ h'.get i4 = some (.cells [.int .i64 (stepF j E I o k).2.2] 3)

set_option maxHeartbeats 1000000 in
theorem l33 (call rgn n) (C : C33 call jj j E I) (hrg : ∀ id ops st, rgn id ops st = drawn ⟨Try.prog, mu0, call⟩ 33 ops st) (first : Int) (way : Bool)
    (o0 : jj.nat < n0 ∧ j.re.nat < n0 ∧ j.ri.nat < n0 ∧ j.rs.nat < n0) (o1 : n0 ≤ i3.nat) (o2 : i3.nat < i4.nat) (o3 : i4.nat < i5.nat) (o4 : i5.nat < i6.nat) (d1 : jj ≠ j.rs) (d2 : j.re ≠ j.rs) (d3 : j.ri ≠ j.rs)
    {x : Place} {S' : Si} {K : KC (AOut × AH)} {Q : Option (AOut × AH) → Prop} (hN : ¬ Q none)
    {en : Bool} (hR : en = true → ∀ {h : AH} {g0 g1 g2 g3 g4 g5 g8 g9 g10 g11 g12 g13 g14 g15 g16 g17 g18 g19 g20 g21 g22 g23 g24 g25 g26 g27 g28 g29 g30 g31 g32 g33 g34 g35 g36 g37 g38 : AV}, MapG intV h j.rs (SI S') → KeptR n0 j.rs gg h → h.get i6 = some (.cells [.bool x.1, .int .i64 x.2.1, .int .i64 x.2.2] 68) → Q (K .ret ⟨(g0 :: g1 :: g2 :: g3 :: g4 :: g5 :: .ptr i6 0 :: .bool true :: g8 :: g9 :: g10 :: g11 :: g12 :: g13 :: g14 :: g15 :: g16 :: g17 :: g18 :: g19 :: g20 :: g21 :: g22 :: g23 :: g24 :: g25 :: g26 :: g27 :: g28 :: g29 :: g30 :: g31 :: g32 :: g33 :: g34 :: g35 :: g36 :: g37 :: g38 :: []), [], h⟩))
    (hK : (x = (false, 0, 0) ∧ en = false) → ∀ {h : AH} {g0 g1 g2 g3 g4 g5 g7 g8 g9 g10 g11 g12 g13 g14 g15 g16 g17 g18 g19 g20 g21 g22 g23 g24 g25 g26 g27 g28 g29 g30 g31 g32 g33 g34 g35 g36 g37 g38 : AV}, MapG intV h j.rs (SI S') → KeptR n0 j.rs gg h → h.get i6 = some (.cells [.bool false, .int .i64 0, .int .i64 0] 68) → Q (K (.exit 0) ⟨(g0 :: g1 :: g2 :: g3 :: g4 :: g5 :: .ptr i6 0 :: g7 :: g8 :: g9 :: g10 :: g11 :: g12 :: g13 :: g14 :: g15 :: g16 :: g17 :: g18 :: g19 :: g20 :: g21 :: g22 :: g23 :: g24 :: g25 :: g26 :: g27 :: g28 :: g29 :: g30 :: g31 :: g32 :: g33 :: g34 :: g35 :: g36 :: g37 :: g38 :: []), [], h⟩)) :
    ∀ (m m' : Nat) (k : Int) (o : Bool) (S : Si) {h : AH} {g0 g1 g2 g7 g11 g12 g13 g14 g15 g16 g17 g18 g19 g20 g21 g22 g23 g24 g25 g26 g27 g28 g29 g30 g31 g32 g33 g34 g35 g36 g37 g38 : AV}, m ≤ m' → Inv33 n0 gg jj i3 i4 i5 i6 j E I o k S h → farF j E I first way m k o S = some ((x, en), S') →
    Q (cIter (LB shT call rgn n 33 Try.f33 0) m' ⟨(g0 :: g1 :: g2 :: .ptr i3 0 :: .ptr i4 0 :: .ptr i5 0 :: .ptr i6 0 :: g7 :: .int .i64 first :: .bool way :: .fn (.func 38) [] [.ptr i5 0, .ptr i3 0, .ptr i4 0] :: g11 :: g12 :: g13 :: g14 :: g15 :: g16 :: g17 :: g18 :: g19 :: g20 :: g21 :: g22 :: g23 :: g24 :: g25 :: g26 :: g27 :: g28 :: g29 :: g30 :: g31 :: g32 :: g33 :: g34 :: g35 :: g36 :: g37 :: g38 :: []), [], h⟩ K) := by
  have us : Try.prog.underlying 58 = some (.map 3 4) := by kernel_rfl
  intro m
  induction m with
  | zero => intro m' k o S; intros; rename_i hf; simp [farF] at hf
  | succ m ih =>
    intro m' k o S h g0 g1 g2 g7 g11 g12 g13 g14 g15 g16 g17 g18 g19 g20 g21 g22 g23 g24 g25 g26 g27 g28 g29 g30 g31 g32 g33 g34 g35 g36 g37 g38 hm hI hF
    obtain ⟨m', rfl⟩ : ∃ q, m' = q + 1 := ⟨m' - 1, by omega⟩
    obtain ⟨oj, oe, oi, os⟩ := o0
    rw [cIter_succ]
    have lb : ∀ h1, h1.get i3 = some (.cells [.ptr jj 0] 54) → vOf h1 (aLoad Try.prog 54 (.ptr i3 0) h1) = some (.ret (.ptr jj 0), h1) := fun h1 g => ld_ptr (n := 1) g (by kernel_rfl) (by kernel_rfl) rfl
    have lk : ∀ k h1, h1.get i4 = some (.cells [.int .i64 k] 3) → vOf h1 (aLoad Try.prog 3 (.ptr i4 0) h1) = some (.ret (.int .i64 k), h1) := fun k h1 g => ld_ptr (n := 1) g (by kernel_rfl) (by kernel_rfl) rfl
    have lo : ∀ o h1, h1.get i5 = some (.cells [.bool o] 4) → vOf h1 (aLoad Try.prog 4 (.ptr i5 0) h1) = some (.ret (.bool o), h1) := fun o h1 g => ld_ptr (n := 1) g (by kernel_rfl) (by kernel_rfl) rfl
    have lss : ∀ h1, h1.get jj = some (.cells (jobC j) 60) → vOf h1 (aLoad Try.prog 58 (.ptr jj 6) h1) = some (.ret (.map j.rs), h1) := fun h1 g => ld_ptr (n := 1) g (by kernel_rfl) (by kernel_rfl) rfl
    obtain ⟨ob, u1, u2⟩ := update_G (h := h) key_int us hI.gs k (.bool true)
    rw [SI_add] at u2
    conv => arg 1; whnf
    refine atRgn_N true (fun hh => hh.get jj = some (.cells (jobC j) 60) ∧ hh.get i3 = some (.cells [.ptr jj 0] 54) ∧ hh.get i4 = some (.cells [.int .i64 k] 3)) (T := [0, 1, 3, 7, 0, 31]) (ord := [0, 1, 2, 3, 4, 5]) (by kernel_rfl) (hrg _ _ _) hN ?_
    conv => arg 1; whnf
    refine atCall_P (lb h hI.e.gb) ?_
    conv => arg 1; whnf
    refine atCall_P (lss h hI.e.gj) ?_
    conv => arg 1; whnf
    refine atCall_P (lk k h hI.e.gk) ?_
    conv => arg 1; whnf
    refine atCall_P (u1) ?_
    conv => arg 1; whnf
    refine atP_P ⟨?_, (fun q hk hp => match q, hk, hp with
      | 0, _, _ => ⟨hI.e.gj, hI.e.gb, hI.e.gk⟩
      | 1, _, hp => no_poss hp (by kernel_rfl)
      | q + 2, hk, _ => absurd hk (by simp)), (fun a ha => by cases ha), rfl⟩ ?_
    · refine ⟨fun _ hh g => ⟨hh, lb hh g.2.1⟩, trivial, trivial, fun _ hh g => ⟨hh, lss hh g.1⟩, fun _ hh g => ⟨hh, lk k hh g.2.2⟩, trivial, trivial⟩
    have e1 := hI.e.other (ob := ob) d1 d2 d3 (by rintro h; rw [h] at o4 o3; omega) (by rintro h; rw [h] at o1; omega) (by rintro h; rw [h] at o2; omega)
    have kp1 := hI.kp.set (i := j.rs) ob (.inr rfl)
    have g61 : (h.set j.rs ob).get i6 = some (.cells [.bool false, .int .i64 0, .int .i64 0] 68) := by rw [AH.get_set, if_neg (by rintro h; rw [h] at o4; omega)]; exact hI.g6
    have l61 : i6.nat < (h.set j.rs ob).next.nat := by rw [AH.next_set]; exact hI.l6
    generalize h.set j.rs ob = h1 at e1 kp1 g61 l61 u2 ⊢
    have p1 : i4 ≠ jj := by rintro h; rw [h] at o2; omega
    have p2 : i4 ≠ i5 := by rintro h; rw [h] at o3; omega
    have p3 : i4 ≠ i3 := by rintro h; rw [h] at o2; omega
    have p4 : i4 ≠ j.re := by rintro h; rw [h] at o2; omega
    have p5 : i4 ≠ j.ri := by rintro h; rw [h] at o2; omega
    have p6 : i4 ≠ j.rs := by rintro h; rw [h] at o2; omega
    have p7 : i4 ≠ i6 := by rintro h; rw [h] at o3; omega
    obtain ⟨h2, c1, c2, c3⟩ := C o k h1 e1 p1 p2 p3 p4 p5
    conv => arg 1; whnf
    refine atCall_P (c1) ?_
    have q1 : jj ≠ i5 := by rintro h; rw [h] at oj; omega
    have q2 : j.re ≠ i5 := by rintro h; rw [h] at oe; omega
    have q3 : j.ri ≠ i5 := by rintro h; rw [h] at oi; omega
    have q4 : i3 ≠ i5 := by rintro h; rw [h] at o2; omega
    have q5 : j.rs ≠ i5 := by rintro h; rw [h] at os; omega
    have q6 : i6 ≠ i5 := by rintro h; rw [h] at o4; omega
    have q7 : j.rs ≠ i6 := by rintro h; rw [h] at os; omega
    have e2 := e1.keepR c2 c3 p1 p2 p3 p4 p5
    have gs2 : MapG intV h2 j.rs (SI (addI S k)) := u2.keep (fun o ho _ => c2.1 _ _ ho (Nat.lt_of_lt_of_le os kp1.2) p6.symm)
    have g62 := c2.1 _ _ g61 l61 p7.symm
    have kp2 := kp1.comp c2 (by omega)
    have l62 := Nat.lt_of_lt_of_le l61 c2.2
    have hF' := hF
    simp only [farF] at hF'
    generalize stepF j E I o k = st at hF' e2 c3 ⊢
    obtain ⟨⟨x0, x1, x2⟩, ends, k'⟩ := st
    simp only at hF' e2
    conv => arg 1; whnf
    refine atCall_P (alloc_new (z := .agg [.bool false, .int .i64 0, .int .i64 0]) (cs := [.bool false, .int .i64 0, .int .i64 0]) (by kernel_rfl) rfl rfl) ?_
    have e3 := e2.keep (kept_one h2 (.cells [.bool false, .int .i64 0, .int .i64 0] 68))
    have gs3 := gs2.keep (fun o ho _ => kept_alloc (o' := .cells [.bool false, .int .i64 0, .int .i64 0] 68) ho (Nat.lt_of_lt_of_le os kp2.2))
    have kp3 := kp2.alloc (.cells [.bool false, .int .i64 0, .int .i64 0] 68)
    have hn2 := kp2.2
    have l5 := e2.lo
    have l4 := e2.lk
    have l3 := e2.lb
    have lj := e2.lj
    generalize hh_h3 : h2.alloc (.cells [.bool false, .int .i64 0, .int .i64 0] 68) = h3 at *
    obtain ⟨a_i11, n_i11, k_h3⟩ := alloc_facts hh_h3
    replace g62 := k_h3 _ _ g62 (by omega)
    clear hh_h3 k_h3
    generalize hi_i11 : h2.next = i11 at *
    clear hi_i11
    have n11 : ∀ {q : Sk.Id}, q.nat < i11.nat → q ≠ i11 := fun hq => by rintro rfl; omega
    have st3 : hOf (aStore Try.prog 68 (.ptr i11 0) (placeV (x0, x1, x2)) h3) = some (.ret undefA, h3.set i11 (.cells [.bool x0, .int .i64 x1, .int .i64 x2] 68)) := st_ptr (n := 3) a_i11 (by kernel_rfl) rfl (by simp) rfl
    conv => arg 1; whnf
    refine atCall_P (st3) ?_
    have e4 := e3.other (ob := .cells [.bool x0, .int .i64 x1, .int .i64 x2] 68) (r := i11) (n11 lj) (n11 (by omega)) (n11 (by omega)) (n11 l5) (n11 l3) (n11 l4)
    have gs4 := gs3.keep (h' := h3.set i11 (.cells [.bool x0, .int .i64 x1, .int .i64 x2] 68)) (fun o ho _ => by rw [AH.get_set, if_neg (n11 (by omega))]; exact ho)
    have kp4 := kp3.set (i := i11) (.cells [.bool x0, .int .i64 x1, .int .i64 x2] 68) (.inl (by omega))
    have n6 : i6 ≠ i11 := n11 l62
    generalize hh_h4 : h3.set i11 (.cells [.bool x0, .int .i64 x1, .int .i64 x2] 68) = h4 at *
    obtain ⟨b_i11, n_h4, k_h4⟩ := set_facts hh_h4
    replace g62 := k_h4 _ _ g62 (by rintro rfl; omega)
    clear hh_h4 k_h4
    replace n_h4 : h4.next.nat = h3.next.nat := congrArg Id.nat n_h4
    clear e3 e2 e1 gs3 gs2 kp3 kp2 kp1 u2
    cases ends
    · rw [if_neg (by simp)] at hF'
      have st5 : hOf (aStore Try.prog 4 (.ptr i5 0) (.bool (!o)) h4) = some (.ret undefA, h4.set i5 (.cells [.bool (!o)] 4)) := st_ptr (n := 1) e4.go (by kernel_rfl) rfl (by simp) rfl
      conv => arg 1; whnf
      refine atCall_P (lo o h4 e4.go) ?_
      conv => arg 1; whnf
      refine atCall_P (st5) ?_
      have e5 := e4.way (o' := !o) q1 q2 q3 q4 p2
      have gs5 := gs4.keep (h' := h4.set i5 (.cells [.bool (!o)] 4)) (fun o ho _ => by rw [AH.get_set, if_neg q5]; exact ho)
      have kp5 := kp4.set (i := i5) (.cells [.bool (!o)] 4) (.inl (by omega))
      generalize hh_h5 : h4.set i5 (.cells [.bool (!o)] 4) = h5 at *
      obtain ⟨b_i5, n_h5, k_h5⟩ := set_facts hh_h5
      replace g62 := k_h5 _ _ g62 (by rintro rfl; omega)
      clear hh_h5 k_h5
      replace n_h5 : h5.next.nat = h4.next.nat := congrArg Id.nat n_h5
      conv => arg 1; whnf
      refine atCall_P (lk k' h5 e5.gk) ?_
      conv => arg 1; whnf
      cases e6 : (k' == first)
      · have e6' : ¬ k' = first := by simpa using e6
        rw [if_neg (by rintro ⟨h, _⟩; exact e6' h)] at hF'
        conv => arg 1; whnf
        exact ih m' k' (!o) (addI S k) (by omega) ⟨e5, gs5, g62, kp5, by omega⟩ hF'
      · have e6' : k' = first := by simpa using e6
        conv => arg 1; whnf
        refine atCall_P (lo (!o) h5 e5.go) ?_
        conv => arg 1; whnf
        cases e7 : ((!o) == way)
        · have e7' : ¬ (!o) = way := by simpa using e7
          rw [if_neg (by rintro ⟨_, h⟩; exact e7' h)] at hF'
          conv => arg 1; whnf
          exact ih m' k' (!o) (addI S k) (by omega) ⟨e5, gs5, g62, kp5, by omega⟩ hF'
        · have e7' : (!o) = way := by simpa using e7
          rw [if_pos ⟨e6', e7'⟩] at hF'
          simp only [Option.some.injEq, Prod.mk.injEq] at hF'
          obtain ⟨⟨rfl, rfl⟩, rfl⟩ := hF'
          conv => arg 1; whnf
          exact hK ⟨rfl, rfl⟩ gs5 kp5 g62
    · rw [if_pos rfl] at hF'
      simp only [Option.some.injEq, Prod.mk.injEq] at hF'
      obtain ⟨⟨rfl, rfl⟩, rfl⟩ := hF'
      have l11 : vOf h4 (aLoad Try.prog 68 (.ptr i11 0) h4) = some (.ret (.agg [.bool x0, .int .i64 x1, .int .i64 x2]), h4) := ld_agg (n := 3) b_i11 (by kernel_rfl) (by kernel_rfl) (by simp)
      have st6 : hOf (aStore Try.prog 68 (.ptr i6 0) (.agg [.bool x0, .int .i64 x1, .int .i64 x2]) h4) = some (.ret undefA, h4.set i6 (.cells [.bool x0, .int .i64 x1, .int .i64 x2] 68)) := st_ptr (n := 3) g62 (by kernel_rfl) rfl (by simp) rfl
      conv => arg 1; whnf
      refine atCall_P (l11) ?_
      conv => arg 1; whnf
      refine atCall_P (st6) ?_
      conv => arg 1; whnf
      exact hR rfl (gs4.keep (fun o ho _ => by rw [AH.get_set, if_neg q7]; exact ho)) (kp4.set (i := i6) _ (.inl (by omega))) (by rw [AH.get_set, if_pos rfl])

theorem b33 (call rgn n) (C : C33 call jj j E I) (hrg : ∀ id ops st, rgn id ops st = drawn ⟨Try.prog, mu0, call⟩ 33 ops st) (k : Int) (o : Bool) (S : Si) (h : AH) {m : Nat} (hm : m ≤ n) {x : Place} {en : Bool} {S' : Si}
    (gj : h.get jj = some (.cells (jobC j) 60)) (ge : MapAt h j.re fun p => (E p).map portV) (gi : MapAt h j.ri fun p => (I p).map portV) (gs : MapG intV h j.rs (SI S))
    (o0 : jj.nat < h.next.nat ∧ j.re.nat < h.next.nat ∧ j.ri.nat < h.next.nat ∧ j.rs.nat < h.next.nat) (d1 : jj ≠ j.rs) (d2 : j.re ≠ j.rs) (d3 : j.ri ≠ j.rs) (hF : farF j E I k o m k o S = some ((x, en), S')) :
    ∃ h', B shT call rgn n 33 Try.f33 [.ptr jj 0, .int .i64 k, .bool o] h = some (.ret (.tup [placeV x, .bool en]), h') ∧ KeptR h.next.nat j.rs h h' ∧ MapG intV h' j.rs (SI S') := by
  suffices hq : ∀ Q : Option (AOut × AH) → Prop, ¬ Q none → (∀ h', KeptR h.next.nat j.rs h h' → MapG intV h' j.rs (SI S') → Q (some (.ret (.tup [placeV x, .bool en]), h'))) → Q (B shT call rgn n 33 Try.f33 [.ptr jj 0, .int .i64 k, .bool o] h) from
    hq (fun y => ∃ h', y = some (.ret (.tup [placeV x, .bool en]), h') ∧ KeptR h.next.nat j.rs h h' ∧ MapG intV h' j.rs (SI S')) (by rintro ⟨_, h, _⟩; cases h) (fun h' h1 h2 => ⟨h', rfl, h1, h2⟩)
  intro Q hN hQ
  obtain ⟨x0, x1, x2⟩ := x
  have kp := KeptR.refl h j.rs
  have kk := Kept.refl h
  conv => arg 1; whnf
  refine atCall_P (box_new (cs := [.ptr jj 0]) rfl rfl) ?_
  replace kp := kp.alloc (.cells [.ptr jj 0] 54)
  replace kk := kk.alloc (.cells [.ptr jj 0] 54)
  generalize hn0 : h.next.nat = n0 at kp kk hQ o0
  obtain ⟨oj, oe, oi, os⟩ := o0
  generalize hh_h1 : h.alloc (.cells [.ptr jj 0] 54) = h1 at *
  obtain ⟨a_i3, n_i3, k_h1⟩ := alloc_facts hh_h1
  clear hh_h1 k_h1
  generalize hi_i3 : h.next = i3 at *
  clear hi_i3
  conv => arg 1; whnf
  refine atCall_P (box_new (cs := [.int .i64 k]) rfl rfl) ?_
  replace kp := kp.alloc (.cells [.int .i64 k] 3)
  replace kk := kk.alloc (.cells [.int .i64 k] 3)
  generalize hh_h2 : h1.alloc (.cells [.int .i64 k] 3) = h2 at *
  obtain ⟨a_i4, n_i4, k_h2⟩ := alloc_facts hh_h2
  replace a_i3 := k_h2 _ _ a_i3 (by omega)
  clear hh_h2 k_h2
  generalize hi_i4 : h1.next = i4 at *
  clear hi_i4
  conv => arg 1; whnf
  refine atCall_P (box_new (cs := [.bool o]) rfl rfl) ?_
  replace kp := kp.alloc (.cells [.bool o] 4)
  replace kk := kk.alloc (.cells [.bool o] 4)
  generalize hh_h3 : h2.alloc (.cells [.bool o] 4) = h3 at *
  obtain ⟨a_i5, n_i5, k_h3⟩ := alloc_facts hh_h3
  replace a_i3 := k_h3 _ _ a_i3 (by omega)
  replace a_i4 := k_h3 _ _ a_i4 (by omega)
  clear hh_h3 k_h3
  generalize hi_i5 : h2.next = i5 at *
  clear hi_i5
  conv => arg 1; whnf
  refine atCall_P (alloc_new (z := .agg [.bool false, .int .i64 0, .int .i64 0]) (cs := [.bool false, .int .i64 0, .int .i64 0]) (by kernel_rfl) rfl rfl) ?_
  replace kp := kp.alloc (.cells [.bool false, .int .i64 0, .int .i64 0] 68)
  replace kk := kk.alloc (.cells [.bool false, .int .i64 0, .int .i64 0] 68)
  generalize hh_h4 : h3.alloc (.cells [.bool false, .int .i64 0, .int .i64 0] 68) = h4 at *
  obtain ⟨a_i6, n_i6, k_h4⟩ := alloc_facts hh_h4
  replace a_i3 := k_h4 _ _ a_i3 (by omega)
  replace a_i4 := k_h4 _ _ a_i4 (by omega)
  replace a_i5 := k_h4 _ _ a_i5 (by omega)
  clear hh_h4 k_h4
  generalize hi_i6 : h3.next = i6 at *
  clear hi_i6
  have lk : ∀ h1, h1.get i4 = some (.cells [.int .i64 k] 3) → vOf h1 (aLoad Try.prog 3 (.ptr i4 0) h1) = some (.ret (.int .i64 k), h1) := fun h1 g => ld_ptr (n := 1) g (by kernel_rfl) (by kernel_rfl) rfl
  have lo : ∀ h1, h1.get i5 = some (.cells [.bool o] 4) → vOf h1 (aLoad Try.prog 4 (.ptr i5 0) h1) = some (.ret (.bool o), h1) := fun h1 g => ld_ptr (n := 1) g (by kernel_rfl) (by kernel_rfl) rfl
  conv => arg 1; whnf
  refine atRgn_N true (fun hh => hh.get i4 = some (.cells [.int .i64 k] 3) ∧ hh.get i5 = some (.cells [.bool o] 4)) (T := [0, 0, 1, 7]) (ord := [0, 1, 2, 3]) (by kernel_rfl) (hrg _ _ _) hN ?_
  conv => arg 1; whnf
  refine atCall_P (lk h4 a_i4) ?_
  conv => arg 1; whnf
  refine atCall_P (lo h4 a_i5) ?_
  conv => arg 1; whnf
  refine atP_P ⟨?_, (fun q hk hp => match q, hk, hp with
    | 0, _, _ => ⟨a_i4, a_i5⟩
    | q + 1, hk, _ => absurd hk (by simp)), (fun a ha => by cases ha), rfl⟩ ?_
  · refine ⟨fun _ hh g => ⟨hh, lk hh g.1⟩, fun _ hh g => ⟨hh, lo hh g.2⟩, trivial, trivial, trivial⟩
  have hE : Env38 jj i5 i3 i4 j E I o k h4 := ⟨kk.1 _ _ gj oj, ge.keep (fun o ho => kk.1 _ _ ho oe), gi.keep (fun o ho => kk.1 _ _ ho oi), a_i5, a_i3, a_i4, by omega, by omega, by omega, by omega, by omega, by omega⟩
  have gs4 := gs.keep (fun o ho _ => kk.1 _ _ ho os)
  conv => arg 1; whnf
  refine l33 (n0 := n0) (gg := h) (i6 := i6) call rgn n C hrg k o ⟨oj, oe, oi, os⟩ (by omega) (by omega) (by omega) (by omega) d1 d2 d3 (x := (x0, x1, x2)) (S' := S') (en := en) hN ?_ ?_ m n k o S hm ⟨hE, gs4, a_i6, kp, by omega⟩ hF
  · intro hen h5
    intros
    rename_i m1 m2 m3
    subst hen
    conv => arg 1; whnf
    have ld : aLoad Try.prog 68 (.ptr i6 0) h5 = some (.agg [.bool x0, .int .i64 x1, .int .i64 x2]) := ld_val (ld_agg (n := 3) m3 (by kernel_rfl) (by kernel_rfl) (by simp))
    refine atLeave_P (leave_plain (.inl rfl) (l := [.agg [.bool x0, .int .i64 x1, .int .i64 x2], .bool true]) ?_) (hQ _ m2 m1)
    show (match aLoad Try.prog 68 (.ptr i6 0) h5, some [AV.bool true] with | some v, some l => some (v :: l) | _, _ => none) = _
    rw [ld]
  · intro hen h5
    intros
    rename_i m1 m2 m3
    obtain ⟨hx, rfl⟩ := hen
    cases hx
    have st6 : hOf (aStore Try.prog 68 (.ptr i6 0) (.agg [.bool false, .int .i64 0, .int .i64 0]) h5) = some (.ret undefA, h5.set i6 (.cells [.bool false, .int .i64 0, .int .i64 0] 68)) := st_ptr (n := 3) m3 (by kernel_rfl) rfl (by simp) rfl
    conv => arg 1; whnf
    refine atCall_P (st6) ?_
    have m1' := m1.keep (h' := h5.set i6 (.cells [.bool false, .int .i64 0, .int .i64 0] 68)) (fun o ho _ => by rw [AH.get_set, if_neg (by rintro h; rw [h] at os; omega)]; exact ho)
    have m2' := m2.set (i := i6) (.cells [.bool false, .int .i64 0, .int .i64 0] 68) (.inl (by omega))
    generalize hh_h6 : h5.set i6 (.cells [.bool false, .int .i64 0, .int .i64 0] 68) = h6 at *
    obtain ⟨b_i6, n_h6, k_h6⟩ := set_facts hh_h6
    clear hh_h6 k_h6
    replace n_h6 : h6.next.nat = h5.next.nat := congrArg Id.nat n_h6
    conv => arg 1; whnf
    have ld : aLoad Try.prog 68 (.ptr i6 0) h6 = some (.agg [.bool false, .int .i64 0, .int .i64 0]) := ld_val (ld_agg (n := 3) b_i6 (by kernel_rfl) (by kernel_rfl) (by simp))
    refine atLeave_P (leave_plain (.inl rfl) (l := [.agg [.bool false, .int .i64 0, .int .i64 0], .bool false]) ?_) (hQ _ m2' m1')
    show (match aLoad Try.prog 68 (.ptr i6 0) h6, some [AV.bool false] with | some v, some l => some (v :: l) | _, _ => none) = _
    rw [ld]
end
end Go.Proofs.Nt

/-
  rewrite: the new links.
-/
namespace Go.Proofs.Nt
open Go.Sk
set_option linter.unusedVariables false
set_option linter.unusedSimpArgs false
set_option maxRecDepth 10000

theorem grow_keep {h h' : AH} {l : AV} {xs : List AV} (hg : Grow h l xs) (hk : ∀ q n, h.get q = some (.grp n) → q.nat < h.next.nat → h'.get q = some (.grp n)) (hn : h.next.nat ≤ h'.next.nat) : Grow h' l xs := by
  rcases hg with h1 | ⟨g, h1, h2, h3, h4⟩
  · exact .inl h1
  · exact .inr ⟨g, h1, h2, hk _ _ h3 h4, by omega⟩
theorem KeptX.keptR {n0 : Nat} {r : Sk.Id} {g h h' : AH} (hk : KeptX n0 r g h) (h1 : KeptR h.next.nat r h h') : KeptX n0 r g h' :=
  ⟨fun q o hq hn hlt hne => h1.1 _ _ (hk.1 q o hq hn hlt hne) (Nat.lt_of_lt_of_le hlt hk.2) hne, Nat.le_trans hk.2 h1.2⟩

def linksA (j : Job) (E I : Lk) (T : Tm) (fuel : Nat) : List Nat → List Wr → Si → Option (List Wr × Si)
  | [], W, S => some (W, S)
  | k :: r, W, S =>
    if S k then linksA j E I T fuel r W S else
    match farF j E I k true fuel k true S with
    | none => none
    | some ((x, en), S1) =>
      if en then
        match farF j E I k false fuel k false S1 with
        | none => none
        | some ((y, _), S2) => linksA j E I T fuel r (W ++ [wireN (atJ T x) (atJ T y)]) S2
      else linksA j E I T fuel r W S1
def linksB (T : Tm) : List Wr → List Wr → List Wr
  | [], W => W
  | w :: r, W => if w.1 ≥ 0 then linksB T r (W ++ [wireN (atJ T (true, wA w)) (atJ T (true, wB w))]) else linksB T r W

structure CL (call : CallT) (jj : Sk.Id) (j : Job) (E I : Lk) (T : Tm) (fuel : Nat) : Prop where
  c33 : ∀ {k o S x en S'} h, h.get jj = some (.cells (jobC j) 60) → (MapAt h j.re fun p => (E p).map portV) → (MapAt h j.ri fun p => (I p).map portV) → MapG intV h j.rs (SI S) → (jj.nat < h.next.nat ∧ j.re.nat < h.next.nat ∧ j.ri.nat < h.next.nat ∧ j.rs.nat < h.next.nat) → jj ≠ j.rs → j.re ≠ j.rs → j.ri ≠ j.rs →
    farF j E I k o fuel k o S = some ((x, en), S') → ∃ h', call (.func 33) [.ptr jj 0, .int .i64 k, .bool o] h = some (.ret (.tup [placeV x, .bool en]), h') ∧ KeptR h.next.nat j.rs h h' ∧ MapG intV h' j.rs (SI S')
  c22 : ∀ {p x} h, x = placeV p → h.get jj = some (.cells (jobC j) 60) → MapG placeV h j.rt (TV T) → jj.nat < h.next.nat → j.rt.nat < h.next.nat → ∃ h', call (.func 22) [.ptr jj 0, x] h = some (.ret (portV (atJ T p)), h') ∧ Kept h.next.nat h h'
  c34 : h34 call

structure Inv20 (n0 : Nat) (gg : AH) (jj i3 : Sk.Id) (j : Job) (E I : Lk) (T : Tm) (cs3 : List AV) (l : AV) (W : List Wr) (S : Si) (h : AH) : Prop where
  gj : h.get jj = some (.cells (jobC j) 60)
  ge : MapAt h j.re fun p => (E p).map portV
  gi : MapAt h j.ri fun p => (I p).map portV
  gt : MapG placeV h j.rt (TV T)
  gs : MapG intV h j.rs (SI S)
  g3 : h.get i3 = some (.cells cs3 26)
  gl : Grow h l (W.map wireV)
  kp : KeptX n0 j.rs gg h
  l3 : i3.nat < h.next.nat

structure Ids20 (n0 : Nat) (jj : Sk.Id) (i3 : Sk.Id) (j : Job) : Prop where
  oj : jj.nat < n0
  oe : j.re.nat < n0
  oi : j.ri.nat < n0
  ot : j.rt.nat < n0
  os : j.rs.nat < n0
  o3 : n0 ≤ i3.nat
  dj : jj ≠ j.rs
  de : j.re ≠ j.rs
  di : j.ri ≠ j.rs
  dt : j.rt ≠ j.rs

section
variable {n0 : Nat} {gg : AH} {jj i3 : Sk.Id} {j : Job} {E I : Lk} {T : Tm} {cs3 : List AV}

theorem Inv20.kept {l : AV} {W : List Wr} {S : Si} {h h' : AH} (i : Inv20 n0 gg jj i3 j E I T cs3 l W S h) (d : Ids20 n0 jj i3 j) (hk : Kept h.next.nat h h') : Inv20 n0 gg jj i3 j E I T cs3 l W S h' := by
  have hn := i.kp.2
  have t : ∀ {q : Sk.Id} {o}, h.get q = some o → q.nat < n0 → h'.get q = some o := fun hq hlt => hk.1 _ _ hq (by omega)
  exact ⟨t i.gj d.oj, i.ge.keep (fun o ho => t ho d.oe), i.gi.keep (fun o ho => t ho d.oi), i.gt.keep (fun o ho _ => t ho d.ot), i.gs.keep (fun o ho _ => t ho d.os), hk.1 _ _ i.g3 i.l3, grow_keep i.gl (fun q n hq hlt => hk.1 _ _ hq hlt) hk.2, i.kp.kept hk, Nat.lt_of_lt_of_le i.l3 hk.2⟩
theorem Inv20.keptR {l : AV} {W : List Wr} {S S' : Si} {h h' : AH} (i : Inv20 n0 gg jj i3 j E I T cs3 l W S h) (d : Ids20 n0 jj i3 j) (hk : KeptR h.next.nat j.rs h h') (hs : MapG intV h' j.rs (SI S')) : Inv20 n0 gg jj i3 j E I T cs3 l W S' h' := by
  have hn := i.kp.2
  have t : ∀ {q : Sk.Id} {o}, h.get q = some o → q.nat < n0 → q ≠ j.rs → h'.get q = some o := fun hq hlt hne => hk.1 _ _ hq (by omega) hne
  exact ⟨t i.gj d.oj d.dj, i.ge.keep (fun o ho => t ho d.oe d.de), i.gi.keep (fun o ho => t ho d.oi d.di), i.gt.keep (fun o ho _ => t ho d.ot d.dt), hs, hk.1 _ _ i.g3 i.l3 (by have h1 := d.o3; have h2 := d.os; rintro h; rw [h] at h1; omega), grow_keep i.gl (fun q n hq hlt => hk.1 _ _ hq hlt (by rintro rfl; exact i.gs.notGrp n hq)) hk.2, i.kp.keptR hk, Nat.lt_of_lt_of_le i.l3 hk.2⟩
theorem Inv20.app {l l' : AV} {W W' : List Wr} {S : Si} {h h' : AH} (i : Inv20 n0 gg jj i3 j E I T cs3 l W S h) (d : Ids20 n0 jj i3 j) (h1 : h.next.nat ≤ h'.next.nat) (h2 : ∀ q o, h.get q = some o → NotGrp h q → q.nat < h.next.nat → h'.get q = some o) (h3 : Grow h' l' (W'.map wireV)) : Inv20 n0 gg jj i3 j E I T cs3 l' W' S h' := by
  have hn := i.kp.2
  have t : ∀ {q : Sk.Id} {o}, h.get q = some o → (∀ n, o ≠ .grp n) → q.nat < n0 → h'.get q = some o := fun hq hg hlt => h2 _ _ hq (fun n => by rw [hq]; simpa using hg n) (by omega)
  have tM : ∀ {r : Sk.Id} {M : Mp}, MapAt h r M → r.nat < n0 → MapAt h' r M := fun hM hlt => by
    obtain ⟨L, c, e1, e2⟩ := hM
    exact ⟨L, c, t e1 (by simp) hlt, e2⟩
  exact ⟨t i.gj (by simp) d.oj, tM i.ge d.oe, tM i.gi d.oi, i.gt.keep (fun o ho hg => t ho hg d.ot), i.gs.keep (fun o ho hg => t ho hg d.os), h2 _ _ i.g3 (notGrp i.g3) i.l3, h3, i.kp.app h1 h2, Nat.lt_of_lt_of_le i.l3 h1⟩

set_option maxHeartbeats 2000000 in
theorem l20a (call rgn n) (fuel : Nat) (C : CL call jj j E I T fuel) (hrg : ∀ id ops st, rgn id ops st = drawn ⟨Try.prog, mu0, call⟩ 20 ops st) (F : Nat) (hF : F ≤ 1000) (d : Ids20 n0 jj i3 j) {R : List Wr × Si} {K : KC (AOut × AH)} {Q : Option (AOut × AH) → Prop} (hN : ¬ Q none)
    (hK : ∀ {l : AV} {h : AH} {g1 g2 g4 g6 g7 g8 g9 g10 g11 g12 g13 g14 g15 g16 g17 g18 g19 g20 g21 g22 g23 g24 g25 g26 g27 g28 g29 g30 g31 g32 g33 g34 g35 g36 g37 g38 g39 g40 g41 g42 g43 g44 g45 g46 g47 g48 g49 g50 g51 g52 g53 g54 g55 g56 g57 g58 g59 g60 g61 g62 g63 g64 g65 g66 g67 g68 g69 g70 g71 g72 g73 g74 : AV}, Inv20 n0 gg jj i3 j E I T cs3 l R.1 R.2 h → Q (K (.exit 0) ⟨(.ptr jj 0 :: g1 :: g2 :: .ptr i3 0 :: g4 :: l :: g6 :: g7 :: g8 :: g9 :: g10 :: g11 :: g12 :: g13 :: g14 :: g15 :: g16 :: g17 :: g18 :: g19 :: g20 :: g21 :: g22 :: g23 :: g24 :: g25 :: g26 :: g27 :: g28 :: g29 :: g30 :: g31 :: g32 :: g33 :: g34 :: g35 :: g36 :: g37 :: g38 :: g39 :: g40 :: g41 :: g42 :: g43 :: g44 :: g45 :: g46 :: g47 :: g48 :: g49 :: g50 :: g51 :: g52 :: g53 :: g54 :: g55 :: g56 :: g57 :: g58 :: g59 :: g60 :: g61 :: g62 :: g63 :: g64 :: g65 :: g66 :: g67 :: g68 :: g69 :: g70 :: g71 :: g72 :: g73 :: g74 :: []), [], h⟩)) :
    ∀ (m i : Nat) {z : Int} {l : AV} {W : List Wr} {S : Si} {h : AH} {g1 g2 g4 g6 g7 g8 g9 g10 g11 g12 g13 g16 g17 g18 g19 g20 g21 g22 g23 g24 g25 g26 g27 g28 g29 g30 g31 g32 g33 g34 g35 g36 g37 g38 g39 g40 g41 g42 g43 g44 g45 g46 g47 g48 g49 g50 g51 g52 g53 g54 g55 g56 g57 g58 g59 g60 g61 g62 g63 g64 g65 g66 g67 g68 g69 g70 g71 g72 g73 g74 : AV}, z = i → i ≤ F → F - i < m → W.length ≤ i → Inv20 n0 gg jj i3 j E I T cs3 l W S h → linksA j E I T fuel (List.range' i (F - i)) W S = some R →
    Q (cIter (LB shT call rgn n 20 Try.f20 0) m ⟨(.ptr jj 0 :: g1 :: g2 :: .ptr i3 0 :: g4 :: l :: g6 :: g7 :: g8 :: g9 :: g10 :: g11 :: g12 :: g13 :: .int .i64 F :: .int .i64 z :: g16 :: g17 :: g18 :: g19 :: g20 :: g21 :: g22 :: g23 :: g24 :: g25 :: g26 :: g27 :: g28 :: g29 :: g30 :: g31 :: g32 :: g33 :: g34 :: g35 :: g36 :: g37 :: g38 :: g39 :: g40 :: g41 :: g42 :: g43 :: g44 :: g45 :: g46 :: g47 :: g48 :: g49 :: g50 :: g51 :: g52 :: g53 :: g54 :: g55 :: g56 :: g57 :: g58 :: g59 :: g60 :: g61 :: g62 :: g63 :: g64 :: g65 :: g66 :: g67 :: g68 :: g69 :: g70 :: g71 :: g72 :: g73 :: g74 :: []), [], h⟩ K) := by
  have us : Try.prog.underlying 58 = some (.map 3 4) := by kernel_rfl
  intro m
  induction m with
  | zero => intros; omega
  | succ m ih =>
    intro i z l W S h g1 g2 g4 g6 g7 g8 g9 g10 g11 g12 g13 g16 g17 g18 g19 g20 g21 g22 g23 g24 g25 g26 g27 g28 g29 g30 g31 g32 g33 g34 g35 g36 g37 g38 g39 g40 g41 g42 g43 g44 g45 g46 g47 g48 g49 g50 g51 g52 g53 g54 g55 g56 g57 g58 g59 g60 g61 g62 g63 g64 g65 g66 g67 g68 g69 g70 g71 g72 g73 g74 hz hi hm hW hI hR
    rw [cIter_succ]
    conv => arg 1; whnf
    split
    · rename_i hd
      have hlt : i < F := by simp at hd; omega
      have hr : List.range' i (F - i) = i :: List.range' (i + 1) (F - (i + 1)) := by
        rw [show F - i = (F - (i + 1)) + 1 by omega, List.range'_succ]
      rw [hr] at hR
      simp only [linksA] at hR
      have hz' : IntKind.i64.wrap (z + 1) = ((i + 1 : Nat) : Int) := by rw [hz]; exact wrap_succ (by omega)
      have lss : ∀ h1, h1.get jj = some (.cells (jobC j) 60) → vOf h1 (aLoad Try.prog 58 (.ptr jj 6) h1) = some (.ret (.map j.rs), h1) := fun h1 g => ld_ptr (n := 1) g (by kernel_rfl) (by kernel_rfl) rfl
      have lk : vOf h (aLookup Try.prog 58 (.map j.rs) (intV z) false h) = some (.ret (.bool (S i)), h) := by
        rw [lookup_G (h := h) key_int us (z := .bool false) (by kernel_rfl) hI.gs z, hz]
        unfold SI
        cases S i <;> rfl
      conv => arg 1; whnf
      refine atCall_P (lss h hI.gj) ?_
      conv => arg 1; whnf
      refine atCall_P (lk) ?_
      conv => arg 1; whnf
      cases e1 : S i
      · rw [if_neg (by simp [e1])] at hR
        rw [← hz] at hR
        have hn := hI.kp.2
        conv => arg 1; whnf
        cases f1 : farF j E I z true fuel z true S with
        | none => rw [f1] at hR; cases hR
        | some r1 =>
          obtain ⟨⟨⟨x0, x1, x2⟩, en⟩, S1⟩ := r1
          rw [f1] at hR
          simp only at hR
          obtain ⟨h1, c1, c2, c3⟩ := C.c33 h hI.gj hI.ge hI.gi hI.gs ⟨by have := d.oj; omega, by have := d.oe; omega, by have := d.oi; omega, by have := d.os; omega⟩ d.dj d.de d.di f1
          have hI1 := hI.keptR d c2 c3
          refine atCall_P c1 ?_
          conv => arg 1; whnf
          refine atCall_P (alloc_new (z := .agg [.bool false, .int .i64 0, .int .i64 0]) (cs := [.bool false, .int .i64 0, .int .i64 0]) (by kernel_rfl) rfl rfl) ?_
          have hI2 := hI1.kept d (((Kept.refl h1).alloc (.cells [.bool false, .int .i64 0, .int .i64 0] 68)).set (r := h1.next) (.cells [.bool x0, .int .i64 x1, .int .i64 x2] 68) (Nat.le_refl _))
          have l37 := hI1.l3
          have l77 := hI1.kp.2
          generalize hh_h2 : h1.alloc (.cells [.bool false, .int .i64 0, .int .i64 0] 68) = h2 at *
          obtain ⟨a_i7, n_i7, k_h2⟩ := alloc_facts hh_h2
          clear hh_h2 k_h2
          generalize hi_i7 : h1.next = i7 at *
          clear hi_i7
          have st1 : hOf (aStore Try.prog 68 (.ptr i7 0) (placeV (x0, x1, x2)) h2) = some (.ret undefA, h2.set i7 (.cells [.bool x0, .int .i64 x1, .int .i64 x2] 68)) := st_ptr (n := 3) a_i7 (by kernel_rfl) rfl (by simp) rfl
          conv => arg 1; whnf
          refine atCall_P (st1) ?_
          generalize hh_h3 : h2.set i7 (.cells [.bool x0, .int .i64 x1, .int .i64 x2] 68) = h3 at *
          obtain ⟨b_i7, n_h3, k_h3⟩ := set_facts hh_h3
          clear hh_h3 k_h3
          replace n_h3 : h3.next.nat = h2.next.nat := congrArg Id.nat n_h3
          conv => arg 1; whnf
          have hn2 := hI2.kp.2
          have os := d.os
          have s7 : i7 ≠ j.rs := by rintro h; rw [h] at l77; omega
          cases en
          · rw [if_neg (by simp)] at hR
            conv => arg 1; whnf
            exact ih (i + 1) hz' (by omega) (by omega) (by omega) hI2 hR
          · rw [if_pos rfl] at hR
            cases f2 : farF j E I z false fuel z false S1 with
            | none => rw [f2] at hR; cases hR
            | some r2 =>
              obtain ⟨⟨⟨y0, y1, y2⟩, en2⟩, S2⟩ := r2
              rw [f2] at hR
              simp only at hR
              obtain ⟨h4, c4, c5, c6⟩ := C.c33 h3 hI2.gj hI2.ge hI2.gi hI2.gs ⟨by have := d.oj; omega, by have := d.oe; omega, by have := d.oi; omega, by have := d.os; omega⟩ d.dj d.de d.di f2
              have hI3 := hI2.keptR d c5 c6
              have b7 := c5.1 _ _ b_i7 (by omega) s7
              have l47 := c5.2
              conv => arg 1; whnf
              refine atCall_P (c4) ?_
              conv => arg 1; whnf
              refine atCall_P (alloc_new (z := .agg [.bool false, .int .i64 0, .int .i64 0]) (cs := [.bool false, .int .i64 0, .int .i64 0]) (by kernel_rfl) rfl rfl) ?_
              have hI4 := hI3.kept d (((Kept.refl h4).alloc (.cells [.bool false, .int .i64 0, .int .i64 0] 68)).set (r := h4.next) (.cells [.bool y0, .int .i64 y1, .int .i64 y2] 68) (Nat.le_refl _))
              generalize hh_h5 : h4.alloc (.cells [.bool false, .int .i64 0, .int .i64 0] 68) = h5 at *
              obtain ⟨a_i9, n_i9, k_h5⟩ := alloc_facts hh_h5
              replace b7 := k_h5 _ _ b7 (by omega)
              clear hh_h5 k_h5
              generalize hi_i9 : h4.next = i9 at *
              clear hi_i9
              have st2 : hOf (aStore Try.prog 68 (.ptr i9 0) (placeV (y0, y1, y2)) h5) = some (.ret undefA, h5.set i9 (.cells [.bool y0, .int .i64 y1, .int .i64 y2] 68)) := st_ptr (n := 3) a_i9 (by kernel_rfl) rfl (by simp) rfl
              conv => arg 1; whnf
              refine atCall_P (st2) ?_
              generalize hh_h6 : h5.set i9 (.cells [.bool y0, .int .i64 y1, .int .i64 y2] 68) = h6 at *
              obtain ⟨b_i9, n_h6, k_h6⟩ := set_facts hh_h6
              replace b7 := k_h6 _ _ b7 (by rintro rfl; omega)
              clear hh_h6 k_h6
              replace n_h6 : h6.next.nat = h5.next.nat := congrArg Id.nat n_h6
              conv => arg 1; whnf
              have l7 : ∀ h, h.get i7 = some (.cells [.bool x0, .int .i64 x1, .int .i64 x2] 68) → vOf h (aLoad Try.prog 68 (.ptr i7 0) h) = some (.ret (placeV (x0, x1, x2)), h) := fun h g => ld_agg (n := 3) g (by kernel_rfl) (by kernel_rfl) (by simp)
              have l9 : ∀ h, h.get i9 = some (.cells [.bool y0, .int .i64 y1, .int .i64 y2] 68) → vOf h (aLoad Try.prog 68 (.ptr i9 0) h) = some (.ret (placeV (y0, y1, y2)), h) := fun h g => ld_agg (n := 3) g (by kernel_rfl) (by kernel_rfl) (by simp)
              have hn4 := hI4.kp.2
              obtain ⟨h7, v1, v2⟩ := C.c22 (p := (x0, x1, x2)) h6 rfl hI4.gj hI4.gt (by have := d.oj; omega) (by have := d.ot; omega)
              have hI5 := hI4.kept d v2
              have b77 := v2.1 _ _ b7 (by omega)
              have b79 := v2.1 _ _ b_i9 (by omega)
              have hn5 := hI5.kp.2
              obtain ⟨h8, v3, v4⟩ := C.c22 (p := (y0, y1, y2)) h7 rfl hI5.gj hI5.gt (by have := d.oj; omega) (by have := d.ot; omega)
              have hI6 := hI5.kept d v4
              have w1 := C.c34 _ _ (atJ T (x0, x1, x2)) (atJ T (y0, y1, y2)) h8 rfl rfl
              obtain ⟨l', h9, a1, a2, a3, a4⟩ := wires_appendL (call := call) (t := wireN (atJ T (x0, x1, x2)) (atJ T (y0, y1, y2))) (c := .lit) (.inl hI6.gl) (by omega)
              have hI7 := hI6.app d a3 a4 a2
              refine atRgn_N true (fun hh => hh.get i7 = some (.cells [.bool x0, .int .i64 x1, .int .i64 x2] 68) ∧ hh.get i9 = some (.cells [.bool y0, .int .i64 y1, .int .i64 y2] 68)) (T := [0, 0, 0, 6, 0, 0, 62, 126, 254, 511, 1023]) (ord := [0, 1, 2, 4, 5, 3, 6, 7, 8, 9, 10]) (by kernel_rfl) (hrg _ _ _) hN ?_
              conv => arg 1; whnf
              refine atCall_P (l7 h6 b7) ?_
              conv => arg 1; whnf
              refine atCall_P (l9 h6 b_i9) ?_
              conv => arg 1; whnf
              refine atCall_P (v1) ?_
              conv => arg 1; whnf
              refine atCall_P (v3) ?_
              conv => arg 1; whnf
              refine atCall_P (w1) ?_
              conv => arg 1; whnf
              refine atCall_P (a1) ?_
              conv => arg 1; whnf
              refine atP_P ⟨?_, (fun q hk hp => match q, hk, hp with
                | 0, _, _ => ⟨b7, b_i9⟩
                | 1, _, _ => ⟨b77, b79⟩
                | 2, _, hp => no_poss hp (by kernel_rfl)
                | 3, _, hp => no_poss hp (by kernel_rfl)
                | 4, _, hp => no_poss hp (by kernel_rfl)
                | q + 5, hk, _ => absurd hk (by simp)), (fun a ha => by cases ha), rfl⟩ ?_
              · refine ⟨trivial, trivial, fun _ hh g => ⟨hh, l7 hh g.1⟩, trivial, fun _ hh g => ⟨hh, l9 hh g.2⟩, trivial, trivial, trivial, trivial, trivial, trivial, trivial⟩
              conv => arg 1; whnf
              exact ih (i + 1) hz' (by omega) (by omega) (by simp; omega) hI7 hR
      · rw [if_pos (by simp [e1])] at hR
        conv => arg 1; whnf
        exact ih (i + 1) hz' (by omega) (by omega) (by omega) hI hR
    · rename_i hd
      have hlt : ¬ i < F := by simp at hd; omega
      rw [show F - i = 0 by omega] at hR
      simp only [List.range'_zero, linksA, Option.some.injEq] at hR
      subst hR
      exact hK hI

set_option maxHeartbeats 2000000 in
theorem l20b (call rgn n) (fuel : Nat) (C : CL call jj j E I T fuel) (hrg : ∀ id ops st, rgn id ops st = drawn ⟨Try.prog, mu0, call⟩ 20 ops st) (w : AV) (wires : List Wr) (hw : IsL w (wires.map wireV)) (hlen : wires.length ≤ 1000000) (d : Ids20 n0 jj i3 j) {S : Si} {R : List Wr} {K : KC (AOut × AH)} {Q : Option (AOut × AH) → Prop} (hN : ¬ Q none)
    (hK : ∀ {l : AV} {h : AH} {g0 g1 g2 g3 g4 g6 g7 g8 g9 g10 g11 g12 g13 g14 g15 g16 g17 g18 g19 g20 g21 g22 g23 g24 g25 g26 g27 g28 g29 g30 g31 g32 g33 g34 g35 g36 g37 g38 g39 g40 g41 g42 g43 g44 g45 g46 g47 g48 g49 g50 g51 g52 g53 g54 g55 g56 g57 g58 g59 g60 g61 g62 g63 g64 g65 g66 g67 g68 g69 g70 g71 g72 g73 g74 : AV}, Inv20 n0 gg jj i3 j E I T cs3 l R S h → Q (K (.exit 2) ⟨(g0 :: g1 :: g2 :: g3 :: g4 :: l :: g6 :: g7 :: g8 :: g9 :: g10 :: g11 :: g12 :: g13 :: g14 :: g15 :: g16 :: g17 :: g18 :: g19 :: g20 :: g21 :: g22 :: g23 :: g24 :: g25 :: g26 :: g27 :: g28 :: g29 :: g30 :: g31 :: g32 :: g33 :: g34 :: g35 :: g36 :: g37 :: g38 :: g39 :: g40 :: g41 :: g42 :: g43 :: g44 :: g45 :: g46 :: g47 :: g48 :: g49 :: g50 :: g51 :: g52 :: g53 :: g54 :: g55 :: g56 :: g57 :: g58 :: g59 :: g60 :: g61 :: g62 :: g63 :: g64 :: g65 :: g66 :: g67 :: g68 :: g69 :: g70 :: g71 :: g72 :: g73 :: g74 :: []), [], h⟩)) :
    ∀ (m i : Nat) {z : Int} {l : AV} {W : List Wr} {h : AH} {g1 g2 g3 g4 g6 g7 g8 g9 g10 g11 g12 g13 g14 g15 g16 g17 g18 g19 g20 g21 g22 g23 g24 g25 g26 g27 g28 g29 g30 g31 g32 g33 g34 g35 g36 g37 g38 g39 g40 g41 g42 g43 g44 g45 g46 g47 g48 g52 g53 g54 g55 g56 g57 g58 g59 g60 g61 g62 g63 g64 g65 g66 g67 g68 g69 g70 g71 g72 g73 g74 : AV}, z = i → i ≤ wires.length → wires.length - i < m → W.length ≤ 1000 + i → Inv20 n0 gg jj i3 j E I T cs3 l W S h → linksB T (wires.drop i) W = R →
    Q (cIter (LB shT call rgn n 20 Try.f20 1) m ⟨(.ptr jj 0 :: g1 :: g2 :: g3 :: g4 :: l :: g6 :: g7 :: g8 :: g9 :: g10 :: g11 :: g12 :: g13 :: g14 :: g15 :: g16 :: g17 :: g18 :: g19 :: g20 :: g21 :: g22 :: g23 :: g24 :: g25 :: g26 :: g27 :: g28 :: g29 :: g30 :: g31 :: g32 :: g33 :: g34 :: g35 :: g36 :: g37 :: g38 :: g39 :: g40 :: g41 :: g42 :: g43 :: g44 :: g45 :: g46 :: g47 :: g48 :: w :: .int .i64 wires.length :: .int .i64 z :: g52 :: g53 :: g54 :: g55 :: g56 :: g57 :: g58 :: g59 :: g60 :: g61 :: g62 :: g63 :: g64 :: g65 :: g66 :: g67 :: g68 :: g69 :: g70 :: g71 :: g72 :: g73 :: g74 :: []), [], h⟩ K) := by
  have u : Try.prog.underlying 24 = some (.slice 47) := by kernel_rfl
  intro m
  induction m with
  | zero => intros; omega
  | succ m ih =>
    intro i z l W h g1 g2 g3 g4 g6 g7 g8 g9 g10 g11 g12 g13 g14 g15 g16 g17 g18 g19 g20 g21 g22 g23 g24 g25 g26 g27 g28 g29 g30 g31 g32 g33 g34 g35 g36 g37 g38 g39 g40 g41 g42 g43 g44 g45 g46 g47 g48 g52 g53 g54 g55 g56 g57 g58 g59 g60 g61 g62 g63 g64 g65 g66 g67 g68 g69 g70 g71 g72 g73 g74 hz hi hm hW hI hR
    rw [cIter_succ]
    conv => arg 1; whnf
    split
    · rename_i hd
      have hlt : i < wires.length := by simp at hd; omega
      have hdrop : wires.drop i = wires[i] :: wires.drop (i + 1) := List.drop_eq_getElem_cons hlt
      have hg : (wires.map wireV)[i]? = some (wireV wires[i]) := by rw [List.getElem?_map, List.getElem?_eq_getElem hlt]; rfl
      have hidx := fun h => idx_L (P := Try.prog) (t := 24) (e := 47) (n := 4) (h := h) (k := .i64) u (by kernel_rfl) hw hz hg rfl
      have hz' : IntKind.i64.wrap (z + 1) = ((i + 1 : Nat) : Int) := by rw [hz]; exact wrap_succ (by omega)
      rw [hdrop] at hR
      simp only [linksB] at hR
      generalize wires[i] = ww at hidx hR
      obtain ⟨a, b, c, e⟩ := ww
      simp only [wA, wB] at hR
      have hn := hI.kp.2
      conv => arg 1; whnf
      refine atCall_P (hidx _) ?_
      conv => arg 1; whnf
      refine atCall_P (alloc_new (z := .agg [.int .i64 0, .int .i64 0, .int .i64 0, .int .i64 0]) (cs := [.int .i64 0, .int .i64 0, .int .i64 0, .int .i64 0]) (by kernel_rfl) rfl rfl) ?_
      have hI2 := hI.kept d (((Kept.refl h).alloc (.cells [.int .i64 0, .int .i64 0, .int .i64 0, .int .i64 0] 47)).set (r := h.next) (.cells [.int .i64 a, .int .i64 b, .int .i64 c, .int .i64 e] 47) (Nat.le_refl _))
      generalize hh_h2 : h.alloc (.cells [.int .i64 0, .int .i64 0, .int .i64 0, .int .i64 0] 47) = h2 at *
      obtain ⟨a_i12, n_i12, k_h2⟩ := alloc_facts hh_h2
      clear hh_h2 k_h2
      generalize hi_i12 : h.next = i12 at *
      clear hi_i12
      have st1 : hOf (aStore Try.prog 47 (.ptr i12 0) (wireV (a, b, c, e)) h2) = some (.ret undefA, h2.set i12 (.cells [.int .i64 a, .int .i64 b, .int .i64 c, .int .i64 e] 47)) := st_ptr (n := 4) a_i12 (by kernel_rfl) rfl (by simp) rfl
      conv => arg 1; whnf
      refine atCall_P (st1) ?_
      generalize hh_h3 : h2.set i12 (.cells [.int .i64 a, .int .i64 b, .int .i64 c, .int .i64 e] 47) = h3 at *
      obtain ⟨b_i12, n_h3, k_h3⟩ := set_facts hh_h3
      clear hh_h3 k_h3
      replace n_h3 : h3.next.nat = h2.next.nat := congrArg Id.nat n_h3
      have l0 : vOf h3 (aLoad Try.prog 3 (.ptr i12 0) h3) = some (.ret (.int .i64 a), h3) := ld_ptr (n := 1) b_i12 (by kernel_rfl) (by kernel_rfl) rfl
      conv => arg 1; whnf
      refine atCall_P (l0) ?_
      conv => arg 1; whnf
      cases e1 : decide (a ≥ 0)
      · rw [if_neg (by simpa using e1)] at hR
        conv => arg 1; whnf
        exact ih (i + 1) hz' (by omega) (by omega) (by omega) hI2 hR
      · rw [if_pos (by simpa using e1)] at hR
        conv => arg 1; whnf
        have lA : ∀ h, h.get i12 = some (.cells [.int .i64 a, .int .i64 b, .int .i64 c, .int .i64 e] 47) → vOf h (aLoad Try.prog 45 (.ptr i12 0) h) = some (.ret (portV (a, b)), h) := fun h g => ld_agg (n := 2) g (by kernel_rfl) (by kernel_rfl) (by simp)
        have lB : ∀ h, h.get i12 = some (.cells [.int .i64 a, .int .i64 b, .int .i64 c, .int .i64 e] 47) → vOf h (aLoad Try.prog 45 (.ptr i12 2) h) = some (.ret (portV (c, e)), h) := fun h g => ld_agg (n := 2) g (by kernel_rfl) (by kernel_rfl) (by simp)
        obtain ⟨h7, v1, v2⟩ := C.c22 (p := (true, a, b)) (x := placeV (true, a, b)) h3 rfl hI2.gj hI2.gt (by have := d.oj; omega) (by have := d.ot; omega)
        have hI5 := hI2.kept d v2
        have b7 := v2.1 _ _ b_i12 (by omega)
        have hn5 := hI5.kp.2
        obtain ⟨h8, v3, v4⟩ := C.c22 (p := (true, c, e)) (x := placeV (true, c, e)) h7 rfl hI5.gj hI5.gt (by have := d.oj; omega) (by have := d.ot; omega)
        have hI6 := hI5.kept d v4
        have w1 := C.c34 _ _ (atJ T (true, a, b)) (atJ T (true, c, e)) h8 rfl rfl
        obtain ⟨l', h9, a1, a2, a3, a4⟩ := wires_appendL (call := call) (t := wireN (atJ T (true, a, b)) (atJ T (true, c, e))) (c := .lit) (.inl hI6.gl) (by omega)
        have hI7 := hI6.app d a3 a4 a2
        refine atRgn_N true (fun hh => hh.get i12 = some (.cells [.int .i64 a, .int .i64 b, .int .i64 c, .int .i64 e] 47)) (T := [0, 0, 0, 4, 12, 30, 0, 0, 128, 384, 1022, 2046, 4094, 8191, 16383]) (ord := [0, 1, 2, 3, 4, 6, 7, 8, 9, 5, 10, 11, 12, 13, 14]) (by kernel_rfl) (hrg _ _ _) hN ?_
        conv => arg 1; whnf
        refine atCall_P (lA h3 b_i12) ?_
        conv => arg 1; whnf
        refine atCall_P (lB h3 b_i12) ?_
        conv => arg 1; whnf
        refine atCall_P (v1) ?_
        conv => arg 1; whnf
        refine atCall_P (v3) ?_
        conv => arg 1; whnf
        refine atCall_P (w1) ?_
        conv => arg 1; whnf
        refine atCall_P (a1) ?_
        conv => arg 1; whnf
        refine atP_P ⟨?_, (fun q hk hp => match q, hk, hp with
          | 0, _, _ => b_i12
          | 1, _, _ => b7
          | 2, _, hp => no_poss hp (by kernel_rfl)
          | 3, _, hp => no_poss hp (by kernel_rfl)
          | 4, _, hp => no_poss hp (by kernel_rfl)
          | q + 5, hk, _ => absurd hk (by simp)), (fun a ha => by cases ha), rfl⟩ ?_
        · refine ⟨trivial, trivial, trivial, fun _ hh g => ⟨hh, lA hh g⟩, trivial, trivial, trivial, fun _ hh g => ⟨hh, lB hh g⟩, trivial, trivial, trivial, trivial, trivial, trivial, trivial, trivial⟩
        conv => arg 1; whnf
        exact ih (i + 1) hz' (by omega) (by omega) (by simp; omega) hI7 hR
    · rename_i hd
      have hlt : ¬ i < wires.length := by simp at hd; omega
      rw [List.drop_eq_nil_of_le (by omega)] at hR
      simp only [linksB] at hR
      subst hR
      exact hK hI
end
end Go.Proofs.Nt

/-
  rewrite: the new links, their function.
-/
namespace Go.Proofs.Nt
open Go.Sk
set_option linter.unusedVariables false
set_option linter.unusedSimpArgs false
set_option maxRecDepth 10000

theorem linksA_len {j : Job} {E I : Lk} {T : Tm} {fuel : Nat} : ∀ {ks : List Nat} {W : List Wr} {S : Si} {R : List Wr × Si}, linksA j E I T fuel ks W S = some R → R.1.length ≤ W.length + ks.length
  | [], W, S, R, h => by simp only [linksA, Option.some.injEq] at h; subst h; simp
  | k :: r, W, S, R, h => by
    simp only [linksA] at h
    split at h
    · have := linksA_len h; simp; omega
    · split at h
      · cases h
      · split at h
        · split at h
          · cases h
          · have := linksA_len h; simp at this ⊢; omega
        · have := linksA_len h; simp; omega

section
variable {jj : Sk.Id} {j : Job} {E I : Lk} {T : Tm}

theorem b20 (call rgn n) (fuel : Nat) (C : CL call jj j E I T fuel) (hrg : ∀ id ops st, rgn id ops st = drawn ⟨Try.prog, mu0, call⟩ 20 ops st) (v : AV) (nt : Nt) (hv : IsNet v nt) (hF0 : 0 ≤ nt.free) (hF : nt.free ≤ 1000) (hlen : nt.wires.length ≤ 1000000) (hn1 : 1000 < n) (hn2 : nt.wires.length < n) (S : Si) (h : AH)
    (gj : h.get jj = some (.cells (jobC j) 60)) (ge : MapAt h j.re fun p => (E p).map portV) (gi : MapAt h j.ri fun p => (I p).map portV) (gt : MapG placeV h j.rt (TV T)) (gs : MapG intV h j.rs (SI S))
    (o0 : jj.nat < h.next.nat ∧ j.re.nat < h.next.nat ∧ j.ri.nat < h.next.nat ∧ j.rt.nat < h.next.nat ∧ j.rs.nat < h.next.nat) (d1 : jj ≠ j.rs) (d2 : j.re ≠ j.rs) (d3 : j.ri ≠ j.rs) (d4 : j.rt ≠ j.rs)
    {R : List Wr × Si} (hR : linksA j E I T fuel (List.range' 0 nt.free.toNat) [] S = some R) :
    ∃ l h', B shT call rgn n 20 Try.f20 [.ptr jj 0, v] h = some (.ret l, h') ∧ Grow h' l ((linksB T nt.wires R.1).map wireV) ∧ KeptX h.next.nat j.rs h h' := by
  suffices hq : ∀ Q : Option (AOut × AH) → Prop, ¬ Q none → (∀ l h', Grow h' l ((linksB T nt.wires R.1).map wireV) → KeptX h.next.nat j.rs h h' → Q (some (.ret l, h'))) → Q (B shT call rgn n 20 Try.f20 [.ptr jj 0, v] h) from
    hq (fun y => ∃ l h', y = some (.ret l, h') ∧ Grow h' l ((linksB T nt.wires R.1).map wireV) ∧ KeptX h.next.nat j.rs h h') (by rintro ⟨_, _, h, _⟩; cases h) (fun l h' h1 h2 => ⟨l, h', rfl, h1, h2⟩)
  intro Q hN hQ
  obtain ⟨c, w, rfl, hc, hw⟩ := hv
  obtain ⟨cells, f, wires⟩ := nt
  simp only at hc hw hF0 hF hlen hn2 hR hQ ⊢
  have hcs := isL_scalar hc
  have hws := isL_scalar hw
  obtain ⟨F, rfl⟩ : ∃ F : Nat, f = F := ⟨f.toNat, by omega⟩
  simp only [Int.toNat_natCast] at hR
  have u : Try.prog.underlying 24 = some (.slice 47) := by kernel_rfl
  have hlw := fun h => len_L (X := ⟨Try.prog, mu0, call⟩) (mu := false) (h := h) u hw
  rw [List.length_map] at hlw
  conv => arg 1; whnf
  refine atCall_P (box_new (cs := [c, .int .i64 F, w]) rfl (by simp only [List.all_cons, hcs, hws, List.all_nil]; rfl)) ?_
  have kk := kept_one h (.cells [c, .int .i64 F, w] 26)
  have kp := (KeptX.refl h j.rs).alloc (.cells [c, .int .i64 F, w] 26)
  generalize hn0 : h.next.nat = n0 at kp kk hQ o0
  obtain ⟨oj, oe, oi, ot, os⟩ := o0
  generalize hh_h1 : h.alloc (.cells [c, .int .i64 F, w] 26) = h1 at *
  obtain ⟨a_i3, n_i3, k_h1⟩ := alloc_facts hh_h1
  clear hh_h1 k_h1
  generalize hi_i3 : h.next = i3 at *
  clear hi_i3
  have d : Ids20 n0 jj i3 j := ⟨oj, oe, oi, ot, os, by omega, d1, d2, d3, d4⟩
  have hI : Inv20 n0 h jj i3 j E I T [c, .int .i64 F, w] .nilsl [] S h1 := ⟨kk.1 _ _ gj oj, ge.keep (fun o ho => kk.1 _ _ ho oe), gi.keep (fun o ho => kk.1 _ _ ho oi), gt.keep (fun o ho _ => kk.1 _ _ ho ot), gs.keep (fun o ho _ => kk.1 _ _ ho os), a_i3, .inl ⟨rfl, rfl⟩, kp, by omega⟩
  have lf : vOf h1 (aLoad Try.prog 3 (.ptr i3 1) h1) = some (.ret (.int .i64 F), h1) := ld_ptr (n := 1) a_i3 (by kernel_rfl) (by kernel_rfl) rfl
  conv => arg 1; whnf
  refine atCall_P (lf) ?_
  conv => arg 1; whnf
  refine l20a call rgn n fuel C hrg F (by omega) d hN (R := R) ?_ n 0 (z := 0) rfl (Nat.zero_le _) (by omega) (Nat.zero_le _) hI hR
  intro l h2
  intros
  rename_i hI2
  have hR1 := linksA_len hR
  simp only [List.length_nil, List.length_range'] at hR1
  have lw : vOf h2 (aLoad Try.prog 24 (.ptr i3 2) h2) = some (.ret w, h2) := ld_ptr (n := 1) hI2.g3 (by kernel_rfl) (by kernel_rfl) rfl
  conv => arg 1; whnf
  refine atCall_P (lw) ?_
  conv => arg 1; whnf
  refine atCall_P (hlw _) ?_
  conv => arg 1; whnf
  refine l20b call rgn n fuel C hrg w wires hw hlen d hN (R := linksB T wires R.1) (S := R.2) ?_ n 0 (z := 0) rfl (Nat.zero_le _) (by omega) (by omega) hI2 (by rw [List.drop_zero])
  intro l h3
  intros
  rename_i hI3
  conv => arg 1; whnf
  exact atLeave_P (leave_plain (.inl rfl) rfl) (hQ _ _ hI3.gl hI3.kp)
end
end Go.Proofs.Nt

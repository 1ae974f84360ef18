/- net.build's calls. -/
import Derived.Test.YtnpncnnlikhfgaaGreatNtM1
import Derived.Test.YtnpncnnlikhfgaaGreatSkX7
set_option linter.unusedVariables false
set_option linter.unusedSimpArgs false
set_option maxRecDepth 10000
namespace Go.Proofs.Nt
open Go.Sk

theorem fitsA26 : tabFits Tryz.prog (mu0 108) shT (rngA (codeOf Tryz.f108) 0) = true := by kernel_rfl
theorem fitsB26 : tabFits Tryz.prog (mu0 108) shT (rngB (codeOf Tryz.f108) 0) = true := by kernel_rfl
theorem nodA26 : noDefs (rngA (codeOf Tryz.f108) 0) = true := by kernel_rfl

theorem set26 {i7 i9 : Sk.Id} {i : Int} {p : Int × Int} {g0 g1 g2 g3 g4 g5 g6 g8 aA aB aC aD aE aF aG aH aI aJ aK aL aM aN aO aP aQ aR aS aT aU aV aW aX aY aZ bA bB : AV} : setTmps [g0,g1,g2,g3,g4,g5,g6,.ptr i7 0,g8,.ptr i9 0,aA,aB,aC,aD,aE,aF,aG,aH,aI,aJ,aK,aL,aM,aN,aO,aP,aQ,aR,aS,aT,aU,aV,aW,aX,aY,aZ,bA,bB] [21, 22] [.int .i64 i, portV p] = [g0,g1,g2,g3,g4,g5,g6,.ptr i7 0,g8,.ptr i9 0,aA,aB,aC,aD,aE,aF,aG,aH,aI,aJ,aK,.int .i64 i,portV p,aN,aO,aP,aQ,aR,aS,aT,aU,aV,aW,aX,aY,aZ,bA,bB] := by
  simp only [setTmps]
  rfl

theorem h35_of {hk : Hooks} {n : Nat} (hk35' : ∀ args h, hk 136 args h = hk35 136 args h) (hn : 0 < n) : h35 (evCall (mkEv Tryz.prog mu0 hk) n) := fun a b p q h ha hb => ev_hk (by
  rw [hk35', ha, hb]
  exact hk_top rfl rfl) hn

theorem c26 {m : Nat} (hm : 5000 < m) (x : AV) (s : List Ag) (hx : IsSig x s) (hP : ∀ a, 0 ≤ portsN s a ∧ portsN s a ≤ 7) :
    C26 (evCall (mkEv Tryz.prog mu0 hk25) (m + 1)) (evCall (mkEv Tryz.prog mu0 hk25) m) x s where
  c32 := fun {c w f} h hc hw => ev_of_cBodyS shT rfl Tryz.func104 rfl (by kernel_rfl) (b32 (evCall (mkEv Tryz.prog mu0 hk25) m) (rg Tryz.prog mu0 hk25 m 104) m x c w f h (isL_scalar hx) hc hw)
  c37 := fun {c f cells l b2 b3 h h'} hc hf hcl hG hY => ev_of_cBodyS shT rfl Tryz.func131 rfl (by kernel_rfl)
    (b37 (evCall (mkEv Tryz.prog mu0 hk25) m) (rg Tryz.prog mu0 hk25 m 131) m l b2 b3 x c .nilsl f s cells hx hc hP (by omega) (by omega) (by omega) (by omega) (by omega) (h31_of (fun _ _ => rfl) (by omega)) h h' hG hY)
  cy := by
    intro n0 gg i7 i8 i9 r b2 b3 l d c f N g0 g1 g2 g3 g4 g5 g6 g8 aA aB aC aD aE aF aG aH aI aJ aK aL aM aN aO aP aQ aR aS aT aU aV aW aX aY aZ bA bB o0 o1 o2 o3 o4 o5 o6 o7 p i W h hW hR
    obtain ⟨k, rfl⟩ : ∃ k, m = k + 1 := ⟨m - 1, by omega⟩
    obtain ⟨h', h1, h2⟩ := y26 (evCall (mkEv Tryz.prog mu0 hk25) k) (rg Tryz.prog mu0 hk25 k 108) k N W hW p (portV p) rfl (.int .i64 i) h _ (h35_of (fun _ _ => rfl) (by omega)) (g0 := g0) (g1 := g1) (g2 := g2) (g3 := g3) (g4 := g4) (g5 := g5) (g6 := g6) (g8 := g8) (aA := aA) (aB := aB) (aC := aC) (aD := aD) (aE := aE) (aF := aF) (aG := aG) (aH := aH) (aI := aI) (aJ := aJ) (aK := aK) (aN := aN) (aO := aO) (aP := aP) (aQ := aQ) (aR := aR) (aS := aS) (aT := aT) (aU := aU) (aV := aV) (aW := aW) (aX := aX) (aY := aY) (aZ := aZ) (bA := bA) (bB := bB) hR o0 o1 o2 o3 o4 o5 o6 o7
    exact ⟨h', ev_yield shT hR.gl rfl fitsA26 fitsB26 nodA26 set26 h1, h2⟩
theorem alloc_facts {h h1 : AH} {o : AO} (hh : h.alloc o = h1) : h1.get h.next = some o ∧ h1.next.nat = h.next.nat + 1 ∧ ∀ q o', h.get q = some o' → q.nat < h.next.nat → h1.get q = some o' := by
  subst hh
  exact ⟨by rw [AH.get_alloc, if_pos rfl], by rw [AH.next_alloc, Id.nat_succ], fun q o' hq hlt => kept_alloc hq hlt⟩

/-- What each port is linked to, ports alone. -/
abbrev Lk := Int × Int → Option (Int × Int)
def updP (M : Lk) (p q : Int × Int) : Lk := fun x => if x = p then some q else M x
def linkP : List Wr → Lk → Lk
  | [], M => M
  | w :: r, M => linkP r (updP (updP M (wA w) (wB w)) (wB w) (wA w))
theorem linkM_P : ∀ (W : List Wr) (M : Lk), linkM W (fun p => (M p).map portV) = fun p => (linkP W M p).map portV
  | [], M => rfl
  | w :: r, M => by
    have key : ∀ (M : Lk) p q, updM (fun p => (M p).map portV) p (portV q) = fun x => (updP M p q x).map portV := by
      intro M p q; funext x; unfold updM updP; split <;> rfl
    simp only [linkM, linkP, key]
    exact linkM_P r _
def linksOf (W : List Wr) : Lk := linkP W fun _ => none
theorem linkM_of (W : List Wr) : linkM W (fun _ => none) = fun p => (linksOf W p).map portV := linkM_P W fun _ => none

theorem ld_val {P : Program} {t : TypeId} {p v : AV} {h : AH} (hl : vOf h (aLoad P t p h) = some (.ret v, h)) : aLoad P t p h = some v := by
  cases hv : aLoad P t p h with
  | none => rw [hv] at hl; cases hl
  | some u => rw [hv] at hl; simp only [vOf, Option.some.injEq, Prod.mk.injEq, AOut.ret.injEq] at hl; rw [hl.1]

def tidyN (s : List Ag) (n : Nt) : Nt := ⟨n.cells, n.free, wiresN (linksOf n.wires) (portsL s n) []⟩

structure C13 (call : CallT) (x : AV) (s : List Ag) (W : List Wr) : Prop where
  c25 : ∀ {v n} h, IsNet v n → n.wires.length ≤ 1000000000 → call (.func 102) [x, v] h = some (.ret (.int .i64 (netChk s n).1), h)
  c27 : ∀ {c w f} h, IsL w (W.map wireV) → W.length ≤ 1000000000 → c.scalar = true → ∃ r h', call (.func 103) [.agg [c, .int .i64 f, w]] h = some (.ret (.map r), h') ∧ MapAt h' r (linkM W fun _ => none) ∧ h.next.nat ≤ r.nat ∧ r.nat < h'.next.nat ∧ Kept h.next.nat h h'
  c26 : ∀ {c f cells r N} h, (∀ a, 0 ≤ portsN s a ∧ portsN s a ≤ 7) → IsL c (cells.map intV) → cells.length ≤ 4096 → f ≤ 64 → MapAt h r (fun p => (N p).map portV) → r.nat < h.next.nat →
    ∃ u h', call (.func 108) [x, c, .int .i64 f, .map r] h = some (.ret u, h') ∧ IsNet1 u ⟨cells, f, wiresN N (freePorts f ++ cellsPorts s cells 0) []⟩ ∧ KeptC h.next.nat h h'

theorem chk_ok {s : List Ag} {n : Nt} (h : (netChk s n).1 = 0) : (sigChk s).1 = 0 ∧ n.cells.length ≤ 4096 ∧ n.free ≤ 64 ∧ 0 ≤ n.free := by
  unfold netChk at h
  split at h
  · rename_i h0; exact absurd h h0
  · rename_i h0
    split at h
    · simp at h
    · rename_i h1
      split at h
      · simp at h
      · rename_i h2
        refine ⟨by simpa using h0, by omega, by omega, by omega⟩

theorem b13 (call rgn n) (x v : AV) (s : List Ag) (nt : Nt) (hx : IsSig x s) (hv : IsNet v nt) (hl : nt.wires.length ≤ 1000000000) (C : C13 call x s nt.wires) (hrg : ∀ id ops st, rgn id ops st = drawn ⟨Tryz.prog, mu0, call⟩ 80 ops st) (h : AH) :
    ((netChk s nt).1 = 0 → ∃ u h', B shT call rgn n 80 Tryz.f80 [x, v] h = some (.ret (.tup [u, .int .i64 0]), h') ∧ IsNet1 u (tidyN s nt)) ∧
    ((netChk s nt).1 ≠ 0 → ∃ h', B shT call rgn n 80 Tryz.f80 [x, v] h = some (.ret (.tup [.agg [.nilsl, .int .i64 0, .nilsl], .int .i64 (netChk s nt).1]), h')) := by
  suffices hq : ∀ Q : Option (AOut × AH) → Prop, ¬ Q none → ((netChk s nt).1 = 0 → ∀ u h', IsNet1 u (tidyN s nt) → Q (some (.ret (.tup [u, .int .i64 0]), h'))) →
      ((netChk s nt).1 ≠ 0 → ∀ h', Q (some (.ret (.tup [.agg [.nilsl, .int .i64 0, .nilsl], .int .i64 (netChk s nt).1]), h'))) → Q (B shT call rgn n 80 Tryz.f80 [x, v] h) by
    refine ⟨fun h0 => hq (fun y => ∃ u h', y = some (.ret (.tup [u, .int .i64 0]), h') ∧ IsNet1 u (tidyN s nt)) (by rintro ⟨_, _, h, _⟩; cases h) (fun _ u h' h1 => ⟨u, h', rfl, h1⟩) (fun h1 => absurd h0 h1),
      fun h0 => hq (fun y => ∃ h', y = some (.ret (.tup [.agg [.nilsl, .int .i64 0, .nilsl], .int .i64 (netChk s nt).1]), h')) (by rintro ⟨_, h⟩; cases h) (fun h1 => absurd h1 h0) (fun _ h' => ⟨h', rfl⟩)⟩
  intro Q hN hT hF
  obtain ⟨c, w, rfl, hc, hw⟩ := hv
  have hcs := isL_scalar hc
  have hws := isL_scalar hw
  conv => arg 1; whnf
  refine atCall_P (box_new (cs := [c, .int .i64 nt.free, w]) rfl (by simp only [List.all_cons, hcs, hws, List.all_nil]; rfl)) ?_
  generalize hh_h1 : h.alloc (.cells [c, .int .i64 nt.free, w] 43) = h1 at *
  obtain ⟨a_i3, n_i3, k_h1⟩ := alloc_facts hh_h1
  clear hh_h1 k_h1
  generalize hi_i3 : h.next = i3 at *
  clear hi_i3
  conv => arg 1; whnf
  refine atCall_P (alloc_new (z := .agg [.nilsl, .int .i64 0, .nilsl]) (cs := [.nilsl, .int .i64 0, .nilsl]) (by kernel_rfl) rfl rfl) ?_
  generalize hh_h2 : h1.alloc (.cells [.nilsl, .int .i64 0, .nilsl] 43) = h2 at *
  obtain ⟨a_i4, n_i4, k_h2⟩ := alloc_facts hh_h2
  replace a_i3 := k_h2 _ _ a_i3 (by omega)
  clear hh_h2 k_h2
  generalize hi_i4 : h1.next = i4 at *
  clear hi_i4
  have l3 : ∀ h2, h2.get i3 = some (.cells [c, .int .i64 nt.free, w] 43) → vOf h2 (aLoad Tryz.prog 43 (.ptr i3 0) h2) = some (.ret (.agg [c, .int .i64 nt.free, w]), h2) := fun h2 g => ld_agg (n := 3) g (by kernel_rfl) (by kernel_rfl) (by simp)
  conv => arg 1; whnf
  refine atCall_P (l3 h2 a_i3) ?_
  conv => arg 1; whnf
  refine atCall_P (C.c25 h2 ⟨c, w, rfl, hc, hw⟩ hl) ?_
  conv => arg 1; whnf
  cases e0 : ((netChk s nt).1 != 0)
  · have e1 : (netChk s nt).1 = 0 := by simpa using e0
    obtain ⟨p1, p2, p3, p4⟩ := chk_ok e1
    conv => arg 1; whnf
    refine atRgn_N true (fun hh => hh.get i3 = some (.cells [c, .int .i64 nt.free, w] 43)) (T := [0, 0, 2, 0, 8, 0, 32, 127, 255, 511]) (ord := [0, 1, 2, 3, 4, 5, 6, 7, 8, 9]) (by kernel_rfl) (hrg _ _ _) hN ?_
    have lc : ∀ h2, h2.get i3 = some (.cells [c, .int .i64 nt.free, w] 43) → vOf h2 (aLoad Tryz.prog 40 (.ptr i3 0) h2) = some (.ret c, h2) := fun h2 g => ld_ptr (n := 1) g (by kernel_rfl) (by kernel_rfl) rfl
    have lf : ∀ h2, h2.get i3 = some (.cells [c, .int .i64 nt.free, w] 43) → vOf h2 (aLoad Tryz.prog 3 (.ptr i3 1) h2) = some (.ret (.int .i64 nt.free), h2) := fun h2 g => ld_ptr (n := 1) g (by kernel_rfl) (by kernel_rfl) rfl
    obtain ⟨r, h3, q1, q2, q3, q4, q5⟩ := C.c27 (c := c) (f := nt.free) h2 hw hl hcs
    rw [linkM_of] at q2
    obtain ⟨u, h4, u1, u2, u3⟩ := C.c26 h3 (sigChk_ports p1) hc p2 p3 q2 q4
    have k3 := q5.1 _ _ a_i3 (by omega)
    have m3 := q5.1 _ _ a_i4 (by omega)
    have k4 := u3.1 _ _ k3 (by simp) (by have := q5.2; omega)
    have m4 := u3.1 _ _ m3 (by simp) (by have := q5.2; omega)
    conv => arg 1; whnf
    refine atCall_P (lc h2 a_i3) ?_
    conv => arg 1; whnf
    refine atCall_P (lf h2 a_i3) ?_
    conv => arg 1; whnf
    refine atCall_P (l3 h2 a_i3) ?_
    conv => arg 1; whnf
    refine atCall_P (q1) ?_
    conv => arg 1; whnf
    refine atCall_P (u1) ?_
    obtain ⟨cc, wl, rfl, hwl, hcc⟩ := u2
    have hwl' : wl.scalar = true := by rcases hwl with ⟨rfl, _⟩ | ⟨_, rfl, _⟩ <;> rfl
    have st : hOf (aStore Tryz.prog 43 (.ptr i4 0) (.agg [.vsl (nt.cells.map intV) cc, .int .i64 nt.free, wl]) h4) = some (.ret undefA, h4.set i4 (.cells [.vsl (nt.cells.map intV) cc, .int .i64 nt.free, wl] 43)) :=
      st_ptr (n := 3) m4 (by kernel_rfl) rfl (by simp) (by show (_ && (_ && (wl.scalar && true))) = true; rw [hwl']; rfl)
    conv => arg 1; whnf
    refine atCall_P (st) ?_
    have i34 : i3 ≠ i4 := by rintro rfl; omega
    have k5 : (h4.set i4 (.cells [.vsl (nt.cells.map intV) cc, .int .i64 nt.free, wl] 43)).get i3 = some (.cells [c, .int .i64 nt.free, w] 43) := by rw [AH.get_set, if_neg i34]; exact k4
    have ld : aLoad Tryz.prog 43 (.ptr i4 0) (h4.set i4 (.cells [.vsl (nt.cells.map intV) cc, .int .i64 nt.free, wl] 43)) = some (.agg [.vsl (nt.cells.map intV) cc, .int .i64 nt.free, wl]) :=
      ld_val (ld_agg (r := i4) (off := 0) (cs := [.vsl (nt.cells.map intV) cc, .int .i64 nt.free, wl]) (T := 43) (n := 3) (by rw [AH.get_set, if_pos rfl]) (by kernel_rfl) (by kernel_rfl) (by simp))
    conv => arg 1; whnf
    refine atP_P ⟨?_, (fun k hk hp => match k, hk, hp with | 0, _, _ => a_i3 | 1, _, _ => k3 | 2, _, _ => k4 | k + 3, _, _ => k5), (fun a ha => by cases ha), rfl⟩ ?_
    · refine ⟨trivial, trivial, fun _ hh g => ⟨hh, lc hh g⟩, trivial, fun _ hh g => ⟨hh, lf hh g⟩, fun _ hh g => ⟨hh, l3 hh g⟩, trivial, trivial, trivial, trivial, trivial⟩
    conv => arg 1; whnf
    refine atLeave_P (leave_plain (.inl rfl) (l := [.agg [.vsl (nt.cells.map intV) cc, .int .i64 nt.free, wl], .int .i64 0]) ?_) (hT e1 _ _ ⟨cc, wl, rfl, hwl, hcc⟩)
    show (match aLoad Tryz.prog 43 (.ptr i4 0) (h4.set i4 (.cells [.vsl (nt.cells.map intV) cc, .int .i64 nt.free, wl] 43)), some [AV.int .i64 0] with | some v, some l => some (v :: l) | _, _ => none) = _
    rw [ld]
  · have e1 : (netChk s nt).1 ≠ 0 := by simpa using e0
    conv => arg 1; whnf
    have st : hOf (aStore Tryz.prog 43 (.ptr i4 0) (.agg [.nilsl, .int .i64 0, .nilsl]) h2) = some (.ret undefA, h2.set i4 (.cells [.nilsl, .int .i64 0, .nilsl] 43)) := st_ptr (n := 3) a_i4 (by kernel_rfl) rfl (by simp) rfl
    refine atCall_P st ?_
    conv => arg 1; whnf
    have ld : aLoad Tryz.prog 43 (.ptr i4 0) (h2.set i4 (.cells [.nilsl, .int .i64 0, .nilsl] 43)) = some (.agg [.nilsl, .int .i64 0, .nilsl]) := ld_val (ld_agg (r := i4) (off := 0) (cs := [.nilsl, .int .i64 0, .nilsl]) (T := 43) (n := 3) (by rw [AH.get_set, if_pos rfl]) (by kernel_rfl) (by kernel_rfl) (by simp))
    refine atLeave_P (leave_plain (.inl rfl) (l := [.agg [.nilsl, .int .i64 0, .nilsl], .int .i64 (netChk s nt).1]) ?_) (hF e1 _)
    show (match aLoad Tryz.prog 43 (.ptr i4 0) (h2.set i4 (.cells [.nilsl, .int .i64 0, .nilsl] 43)), some [AV.int .i64 (netChk s nt).1] with | some v, some l => some (v :: l) | _, _ => none) = _
    rw [ld]
theorem h25_of {hk : Hooks} {n : Nat} (hk25' : ∀ args h, hk 102 args h = hk25 102 args h) (hn : 0 < n) {x v : AV} {s : List Ag} {nt : Nt} (h : AH) (hx : IsSig x s) (hv : IsNet v nt) (hl : nt.wires.length ≤ 1000000000) :
    evCall (mkEv Tryz.prog mu0 hk) n (.func 102) [x, v] h = some (.ret (.int .i64 (netChk s nt).1), h) := ev_hk (by
  rw [hk25']
  refine hk_top (by simp [freeL, sig_free hx, net_free hv]) ?_
  show (match sigOf (weakV x), netOf (weakV v) with
    | some s, some n => if n.wires.length ≤ 1000000000 then some (AV.int .i64 (netChk s n).1) else none
    | _, _ => none) = _
  rw [sigOf_of hx, netOf_of hv]; simp only [if_pos hl]) hn

theorem c13 {m : Nat} (x : AV) (s : List Ag) (W : List Wr) (hx : IsSig x s) (hm : W.length + 5010 < m) : C13 (evCall (mkEv Tryz.prog mu0 hk25) m) x s W where
  c25 := fun h hv hl => h25_of (fun _ _ => rfl) (by omega) h hx hv hl
  c27 := fun {c w f} h hw hl hc => by
    obtain ⟨k, rfl⟩ : ∃ k, m = k + 1 := ⟨m - 1, by omega⟩
    obtain ⟨r, h', q1, q2⟩ := b27 (evCall (mkEv Tryz.prog mu0 hk25) k) (rg Tryz.prog mu0 hk25 k 103) k c w f W hw hl (by omega) h hc
    exact ⟨r, h', ev_of_cBodyS tab27 rfl Tryz.func103 rfl fits27 q1, q2⟩
  c26 := fun {c f cells r N} h hP hc hcl hf hM hr => by
    obtain ⟨k, rfl⟩ : ∃ k, m = k + 1 + 1 := ⟨m - 2, by omega⟩
    have hpl : (freePorts f ++ cellsPorts s cells 0).length ≤ 100000000 := by
      have h1 : (freePorts f).length ≤ 64 := by unfold freePorts; rw [List.length_map, List.length_range']; omega
      have h2 : ∀ (cells : List Int) (i : Nat), (cellsPorts s cells i).length ≤ 7 * cells.length := by
        intro cells
        induction cells with
        | nil => intro i; simp [cellsPorts]
        | cons a r ih =>
          intro i
          have := ih (i + 1)
          have := hP a
          simp only [cellsPorts, cellPorts, List.length_append, List.length_map, List.length_range', List.length_cons]
          omega
      have := h2 cells 0
      rw [List.length_append]; omega
    obtain ⟨u, h', q1, q2⟩ := b26 (evCall (mkEv Tryz.prog mu0 hk25) (k + 1)) (evCall (mkEv Tryz.prog mu0 hk25) k) (rg Tryz.prog mu0 hk25 (k + 1) 108) (k + 1) x c (.map r) s cells f r N rfl hx hc (c26 (by omega) x s hx hP) hcl hf hpl h hM hr
    exact ⟨u, h', ev_of_cBodyS shT rfl Tryz.func108 rfl (by kernel_rfl) q1, q2⟩

/-- A net's value, as a contract answers it. -/
def netW (n : Nt) : AV := .agg [.vsl (n.cells.map intV) .unk, .int .i64 n.free, match n.wires with | [] => .nilsl | w :: r => .vsl ((w :: r).map wireV) .unk]
theorem isNet1_weak {u : AV} {n : Nt} (h : IsNet1 u n) : weakV u = netW n ∧ freeV u = true := by
  obtain ⟨cc, w, rfl, hw, hcc⟩ := h
  have e1 : weakL (n.cells.map intV) = n.cells.map intV := weakL_enc (fun _ => rfl) _
  have e2 : weakL (n.wires.map wireV) = n.wires.map wireV := weakL_enc (fun _ => rfl) _
  have f1 : freeL (n.cells.map intV) = true := freeL_enc (fun _ => rfl) _
  have f2 : freeL (n.wires.map wireV) = true := freeL_enc (fun _ => rfl) _
  rcases hw with ⟨rfl, h1⟩ | ⟨c, rfl, h1, hc⟩
  · constructor
    · show AV.agg [.vsl (weakL (n.cells.map intV)) (weakC cc), .int .i64 n.free, .nilsl] = _
      rw [e1, hcc]; unfold netW; rw [h1]
    · show (freeL (n.cells.map intV) && _) = true
      rw [f1]; rfl
  · constructor
    · show AV.agg [.vsl (weakL (n.cells.map intV)) (weakC cc), .int .i64 n.free, .vsl (weakL (n.wires.map wireV)) (weakC c)] = _
      rw [e1, e2, hcc, hc]; unfold netW
      cases hw : n.wires with
      | nil => exact absurd hw h1
      | cons w r => rfl
    · show (freeL (n.cells.map intV) && (true && (freeL (n.wires.map wireV) && true))) = true
      rw [f1, f2]; rfl

def zNet : AV := .agg [.nilsl, .int .i64 0, .nilsl]
def tidyV (s : List Ag) (n : Nt) : AV := if (netChk s n).1 = 0 then .tup [netW (tidyN s n), .int .i64 0] else .tup [zNet, .int .i64 (netChk s n).1]
def s13 : List AV → Option AV
  | [x, v] => match sigOf x, netOf v with
    | some s, some n => if n.wires.length ≤ 1000000000 then some (tidyV s n) else none
    | _, _ => none
  | _ => none
def hk13 := addHk hk25 80 s13

theorem E13 : EvOK (mkEv Tryz.prog mu0 hk13) := mkEv_add3 E25 fun args v hs => by
  unfold s13 at hs; split at hs
  · rename_i x v'
    split at hs
    · rename_i s n h1 h2
      split at hs
      · rename_i hl
        cases hs
        have hx := decL_inv h1
        obtain ⟨b1, b2⟩ := b13 (evCall (mkEv Tryz.prog mu0 hk25) (n.wires.length + 6000)) (rg Tryz.prog mu0 hk25 (n.wires.length + 6000) 80) (n.wires.length + 6000) x v' s n hx (netOf_inv h2) hl (c13 x s n.wires hx (by omega)) (fun _ _ _ => rfl) .empty
        by_cases h0 : (netChk s n).1 = 0
        · obtain ⟨u, h', q1, q2⟩ := b1 h0
          obtain ⟨w1, w2⟩ := isNet1_weak q2
          refine ⟨.tup [u, .int .i64 0], by show (freeV u && true) = true; rw [w2]; rfl, ?_, ev_ofS shT rfl Tryz.func80 rfl (by kernel_rfl) q1⟩
          unfold tidyV; rw [if_pos h0]
          show _ = AV.tup [weakV u, .int .i64 0]
          rw [w1]
        · obtain ⟨h', q1⟩ := b2 h0
          refine ⟨.tup [zNet, .int .i64 (netChk s n).1], rfl, ?_, ev_ofS shT rfl Tryz.func80 rfl (by kernel_rfl) q1⟩
          unfold tidyV; rw [if_neg h0]; rfl
      · cases hs
    · cases hs
  · cases hs

def h13 (call : CallT) : Prop := ∀ x v s n h, IsSig x s → IsNet v n → n.wires.length ≤ 1000000000 → call (.func 80) [x, v] h = some (.ret (tidyV s n), h)
theorem h13_of {hk : Hooks} {n : Nat} (hk13' : ∀ args h, hk 80 args h = hk13 80 args h) (hn : 0 < n) : h13 (evCall (mkEv Tryz.prog mu0 hk) n) := fun x v s nt h hx hv hl => ev_hk (by
  rw [hk13']
  refine hk_top (by simp [freeL, sig_free hx, net_free hv]) ?_
  show (match sigOf (weakV x), netOf (weakV v) with
    | some s, some n => if n.wires.length ≤ 1000000000 then some (tidyV s n) else none
    | _, _ => none) = _
  rw [sigOf_of hx, netOf_of hv]; simp only [if_pos hl]) hn
abbrev Pt := Int × Int
def mkW (p q : Pt) : Wr := (p.1, p.2, q.1, q.2)
theorem wA_mk (p q : Pt) : wA (mkW p q) = p := rfl
theorem wB_mk (p q : Pt) : wB (mkW p q) = q := rfl
def ends : List Wr → List Pt
  | [] => []
  | w :: r => wA w :: wB w :: ends r

theorem wiresF_ok {s : List Ag} {cells : List Int} {f : Int} : ∀ {W : List Wr} {i : Nat} {S S' : Sn}, wiresF s cells f W i S = .inr S' →
    (∀ p ∈ ends W, isPort s cells f p = true) ∧ (ends W).Nodup ∧ (∀ p ∈ ends W, S p = false) ∧ ∀ p, S' p = true ↔ S p = true ∨ p ∈ ends W
  | [], i, S, S', h => by
    simp only [wiresF, Sum.inr.injEq] at h; subst h
    simp [ends]
  | w :: r, i, S, S', h => by
    simp only [wiresF] at h
    cases e1 : (!isPort s cells f (wA w) || !isPort s cells f (wB w)) with
    | true => rw [e1] at h; cases h
    | false =>
      rw [e1] at h
      simp only [cond_false] at h
      cases e2 : (S (wA w) || S (wB w) || (wA w == wB w)) with
      | true => rw [e2] at h; cases h
      | false =>
        rw [e2] at h
        simp only [cond_false] at h
        obtain ⟨h1, h2, h3, h4⟩ := wiresF_ok h
        simp only [Bool.or_eq_false_iff, Bool.not_eq_false', beq_eq_false_iff_ne, ne_eq] at e1 e2
        obtain ⟨p1, p2⟩ := e1
        obtain ⟨⟨q1, q2⟩, q3⟩ := e2
        have k : ∀ p ∈ ends r, p ≠ wA w ∧ p ≠ wB w ∧ S p = false := fun p hp => by
          have := h3 p hp
          unfold addS at this
          split at this
          · cases this
          · rename_i n1
            split at this
            · cases this
            · rename_i n2; exact ⟨n2, n1, this⟩
        refine ⟨fun p hp => ?_, ?_, fun p hp => ?_, fun p => ?_⟩
        · simp only [ends, List.mem_cons] at hp
          rcases hp with rfl | rfl | hp
          · exact p1
          · exact p2
          · exact h1 p hp
        · simp only [ends, List.nodup_cons, List.mem_cons, not_or]
          exact ⟨⟨q3, fun hm => (k _ hm).1 rfl⟩, fun hm => (k _ hm).2.1 rfl, h2⟩
        · simp only [ends, List.mem_cons] at hp
          rcases hp with rfl | rfl | hp
          · exact q1
          · exact q2
          · exact (k p hp).2.2
        · rw [h4]
          simp only [ends, List.mem_cons, addS]
          by_cases n1 : p = wB w
          · simp [n1]
          · by_cases n2 : p = wA w
            · simp [n1, n2]
            · simp [n1, n2]

theorem wiresF_of {s : List Ag} {cells : List Int} {f : Int} : ∀ {W : List Wr} {i : Nat} {S : Sn}, (∀ p ∈ ends W, isPort s cells f p = true) → (ends W).Nodup → (∀ p ∈ ends W, S p = false) →
    ∃ S', wiresF s cells f W i S = .inr S' ∧ ∀ p, S' p = true ↔ S p = true ∨ p ∈ ends W
  | [], i, S, _, _, _ => ⟨S, rfl, by simp [ends]⟩
  | w :: r, i, S, h1, h2, h3 => by
    simp only [ends, List.nodup_cons, List.mem_cons, not_or] at h2
    obtain ⟨⟨n1, n2⟩, n3, n4⟩ := h2
    have a1 := h1 (wA w) (by simp [ends])
    have a2 := h1 (wB w) (by simp [ends])
    have b1 := h3 (wA w) (by simp [ends])
    have b2 := h3 (wB w) (by simp [ends])
    obtain ⟨S', e1, e2⟩ := wiresF_of (i := i + 1) (S := addS (addS S (wA w)) (wB w)) (fun p hp => h1 p (by simp [ends, hp])) n4 (fun p hp => by
      have hA : p ≠ wA w := by rintro rfl; exact n2 hp
      have hB : p ≠ wB w := by rintro rfl; exact n3 hp
      simp only [addS, if_neg hA, if_neg hB]
      exact h3 p (by simp [ends, hp]))
    refine ⟨S', ?_, fun p => ?_⟩
    · have : (wA w == wB w) = false := by simpa using n1
      simp only [wiresF, a1, a2, b1, b2, this, Bool.not_true, Bool.or_self, cond_false]
      exact e1
    · rw [e2]
      simp only [ends, List.mem_cons, addS]
      by_cases n1 : p = wB w
      · simp [n1]
      · by_cases n2 : p = wA w
        · simp [n1, n2]
        · simp [n1, n2]

theorem openF_ok {S : Sn} : ∀ {ps : List Pt} {i : Nat}, (openF S ps i).1 = 0 → ∀ p ∈ ps, S p = true
  | [], _, _ => by simp
  | p :: r, i, h => by
    simp only [openF] at h
    split at h
    · simp at h
    · rename_i hp
      intro q hq
      rcases List.mem_cons.1 hq with rfl | hq
      · simpa using hp
      · exact openF_ok h q hq
theorem openF_of {S : Sn} : ∀ {ps : List Pt} {i : Nat}, (∀ p ∈ ps, S p = true) → openF S ps i = (0, 0)
  | [], _, _ => rfl
  | p :: r, i, h => by
    simp only [openF]
    rw [if_neg (by simp [h p])]
    exact openF_of fun q hq => h q (List.mem_cons_of_mem _ hq)

structure Good (s : List Ag) (n : Nt) : Prop where
  sg : (sigChk s).1 = 0
  cl : n.cells.length ≤ 4096
  f1 : n.free ≤ 64
  f0 : 0 ≤ n.free
  bc : badCell s.length n.cells 0 = none
  ip : ∀ p ∈ ends n.wires, isPort s n.cells n.free p = true
  nd : (ends n.wires).Nodup
  al : ∀ p ∈ portsL s n, p ∈ ends n.wires

theorem good_of {s : List Ag} {n : Nt} (h : (netChk s n).1 = 0) : Good s n := by
  obtain ⟨p1, p2, p3, p4⟩ := chk_ok h
  unfold netChk at h
  rw [if_neg (by simpa using p1), if_neg (by omega), if_neg (by omega)] at h
  split at h
  · simp at h
  · rename_i hb
    split at h
    · rename_i e he
      -- an error is never zero
      have : ∀ {W : List Wr} {i : Nat} {S : Sn} {e : Int × Int}, wiresF s n.cells n.free W i S = .inl e → e.1 ≠ 0 := by
        intro W
        induction W with
        | nil => intro i S e h; cases h
        | cons w r ih =>
          intro i S e h
          simp only [wiresF] at h
          cases e1 : (!isPort s n.cells n.free (wA w) || !isPort s n.cells n.free (wB w)) with
          | true => rw [e1] at h; simp only [cond_true, Sum.inl.injEq] at h; subst h; simp
          | false =>
            rw [e1] at h
            simp only [cond_false] at h
            cases e2 : (S (wA w) || S (wB w) || (wA w == wB w)) with
            | true => rw [e2] at h; simp only [cond_true, Sum.inl.injEq] at h; subst h; simp
            | false => rw [e2] at h; exact ih h
      exact absurd h (this he)
    · rename_i S hS
      obtain ⟨h1, h2, h3, h4⟩ := wiresF_ok hS
      refine ⟨p1, p2, p3, p4, hb, h1, h2, fun p hp => ?_⟩
      have := (h4 p).1 (openF_ok h p hp)
      simpa using this

theorem Good.chk {s : List Ag} {n : Nt} (g : Good s n) : netChk s n = (0, 0) := by
  unfold netChk
  rw [if_neg (by simpa using g.sg), if_neg (by have := g.cl; have := g.f1; omega), if_neg (by have := g.f0; omega), g.bc]
  obtain ⟨S', e1, e2⟩ := wiresF_of (i := 0) (S := fun _ => false) g.ip g.nd (fun _ _ => rfl)
  simp only [e1]
  exact openF_of fun p hp => (e2 p).2 (.inr (g.al p hp))

/-! ### The ports -/

theorem mem_free {f : Int} {p : Pt} : p ∈ freePorts f ↔ p.1 = -1 ∧ 0 ≤ p.2 ∧ p.2 < f := by
  unfold freePorts
  simp only [List.mem_map, List.mem_range'_1]
  constructor
  · rintro ⟨k, hk, rfl⟩
    refine ⟨rfl, ?_, ?_⟩ <;> simp only <;> omega
  · rintro ⟨h1, h2, h3⟩
    exact ⟨p.2.toNat, by omega, by ext <;> simp [h1] <;> omega⟩
theorem mem_cellPorts {s : List Ag} {c : Nat} {a : Int} {p : Pt} : p ∈ cellPorts s c a ↔ p.1 = c ∧ 0 ≤ p.2 ∧ p.2 < portsN s a := by
  unfold cellPorts
  simp only [List.mem_map, List.mem_range'_1]
  constructor
  · rintro ⟨k, hk, rfl⟩
    refine ⟨rfl, ?_, ?_⟩ <;> simp only <;> omega
  · rintro ⟨h1, h2, h3⟩
    exact ⟨p.2.toNat, by omega, by ext <;> simp [h1] <;> omega⟩
theorem mem_cells {s : List Ag} {p : Pt} : ∀ {cells : List Int} {c : Nat}, p ∈ cellsPorts s cells c ↔ ∃ i a, cells[i]? = some a ∧ p.1 = ((c + i : Nat) : Int) ∧ 0 ≤ p.2 ∧ p.2 < portsN s a
  | [], c => by simp [cellsPorts]
  | a :: r, c => by
    simp only [cellsPorts, List.mem_append, mem_cellPorts, mem_cells (cells := r) (c := c + 1)]
    constructor
    · rintro (⟨h1, h2⟩ | ⟨i, b, h1, h2, h3⟩)
      · exact ⟨0, a, rfl, by simpa using h1, h2⟩
      · exact ⟨i + 1, b, by simpa using h1, by rw [h2]; congr 1; omega, h3⟩
    · rintro ⟨i, b, h1, h2, h3⟩
      cases i with
      | zero =>
        simp only [List.getElem?_cons_zero, Option.some.injEq] at h1
        subst h1
        exact .inl ⟨by simpa using h2, h3⟩
      | succ i => exact .inr ⟨i, b, by simpa using h1, by rw [h2]; congr 1; omega, h3⟩
theorem isPort_iff {s : List Ag} {n : Nt} {p : Pt} : isPort s n.cells n.free p = true ↔ p ∈ portsL s n := by
  unfold portsL
  rw [List.mem_append, mem_free, mem_cells]
  unfold isPort
  by_cases h : p.1 = -1
  · simp only [h, beq_self_eq_true, if_true, Bool.and_eq_true, decide_eq_true_eq, true_and]
    constructor
    · intro h1; exact .inl ⟨by omega, h1.2⟩
    · rintro (h1 | ⟨i, a, _, h1, _⟩)
      · exact ⟨by omega, h1.2⟩
      · omega
  · have hb : (p.1 == -1) = false := by simpa using h
    simp only [hb, Bool.false_eq_true, if_false, Bool.and_eq_true, decide_eq_true_eq, h, false_and, false_or]
    constructor
    · rintro ⟨⟨⟨h1, h2⟩, h3⟩, h4⟩
      split at h4
      · rename_i a ha
        exact ⟨p.1.toNat, a, ha, by simp; omega, by omega, by simpa using h4⟩
      · cases h4
    · rintro ⟨i, a, h1, h2, h3, h4⟩
      have e : p.1.toNat = i := by rw [h2]; simp
      have hi := (List.getElem?_eq_some_iff.1 h1).1
      rw [e, h1]
      refine ⟨⟨⟨by omega, by rw [h2]; simp; omega⟩, by omega⟩, by simpa using h4⟩

theorem nodup_map {α β : Type} {f : α → β} (hf : ∀ a b, f a = f b → a = b) : ∀ {l : List α}, l.Nodup → (l.map f).Nodup
  | [], _ => by simp
  | a :: r, h => by
    simp only [List.nodup_cons, List.map_cons] at h ⊢
    refine ⟨fun hm => ?_, nodup_map hf h.2⟩
    obtain ⟨b, hb, he⟩ := List.mem_map.1 hm
    exact h.1 (hf _ _ he ▸ hb)
theorem nodup_ports (s : List Ag) (n : Nt) : (portsL s n).Nodup := by
  have r : ∀ m : Nat, (List.range' 0 m).Nodup := fun m => List.nodup_range'
  have hc : ∀ (cells : List Int) (c : Nat), (cellsPorts s cells c).Nodup := by
    intro cells
    induction cells with
    | nil => intro c; simp [cellsPorts]
    | cons a t ih =>
      intro c
      simp only [cellsPorts]
      rw [List.nodup_append]
      refine ⟨nodup_map (fun a b h => by have h2 := congrArg Prod.snd h; simp only at h2; omega) (r _), ih _, fun x hx y hy => ?_⟩
      obtain ⟨h1, _⟩ := mem_cellPorts.1 hx
      obtain ⟨i, b, _, h2, _⟩ := mem_cells.1 hy
      rintro rfl
      omega
  unfold portsL
  rw [List.nodup_append]
  refine ⟨nodup_map (fun a b h => by have h2 := congrArg Prod.snd h; simp only at h2; omega) (r _), hc _ _, fun x hx y hy => ?_⟩
  obtain ⟨h1, _⟩ := mem_free.1 hx
  obtain ⟨i, b, _, h2, _⟩ := mem_cells.1 hy
  rintro rfl
  omega
theorem linkP_other : ∀ {W : List Wr} {M : Lk} {p : Pt}, p ∉ ends W → linkP W M p = M p
  | [], M, p, _ => rfl
  | w :: r, M, p, h => by
    simp only [ends, List.mem_cons, not_or] at h
    simp only [linkP]
    rw [linkP_other h.2.2]
    unfold updP
    rw [if_neg h.2.1, if_neg h.1]
theorem linkP_mem : ∀ {W : List Wr} {M : Lk}, (ends W).Nodup → ∀ w ∈ W, linkP W M (wA w) = some (wB w) ∧ linkP W M (wB w) = some (wA w)
  | [], M, _, w, h => by cases h
  | v :: r, M, hn, w, h => by
    simp only [ends, List.nodup_cons, List.mem_cons, not_or] at hn
    obtain ⟨⟨n1, n2⟩, n3, n4⟩ := hn
    simp only [linkP]
    rcases List.mem_cons.1 h with rfl | h
    · rw [linkP_other n2, linkP_other n3]
      unfold updP
      exact ⟨by rw [if_neg n1, if_pos rfl], by rw [if_pos rfl]⟩
    · exact linkP_mem n4 w h

theorem ends_mem {W : List Wr} {p : Pt} (h : p ∈ ends W) : ∃ w ∈ W, p = wA w ∨ p = wB w := by
  induction W with
  | nil => cases h
  | cons v r ih =>
    simp only [ends, List.mem_cons] at h
    rcases h with rfl | rfl | h
    · exact ⟨v, by simp, .inl rfl⟩
    · exact ⟨v, by simp, .inr rfl⟩
    · obtain ⟨w, hw, hp⟩ := ih h
      exact ⟨w, by simp [hw], hp⟩
theorem mem_ends {W : List Wr} {w : Wr} (h : w ∈ W) : wA w ∈ ends W ∧ wB w ∈ ends W := by
  induction W with
  | nil => cases h
  | cons v r ih =>
    rcases List.mem_cons.1 h with rfl | h
    · simp [ends]
    · have := ih h
      simp [ends, this]

theorem wires_ne : ∀ {W : List Wr}, (ends W).Nodup → ∀ w ∈ W, wA w ≠ wB w
  | [], _, w, h => by cases h
  | v :: r, hn, w, h => by
    simp only [ends, List.nodup_cons, List.mem_cons, not_or] at hn
    rcases List.mem_cons.1 h with rfl | h
    · exact hn.1.1
    · exact wires_ne hn.2.2 w h

/-- A linking by pairs. -/
structure Inv (M : Lk) (ps : List Pt) : Prop where
  nd : ps.Nodup
  of : ∀ p ∈ ps, ∃ q ∈ ps, M p = some q ∧ M q = some p ∧ q ≠ p

theorem Good.inv {s : List Ag} {n : Nt} (g : Good s n) : Inv (linksOf n.wires) (portsL s n) where
  nd := nodup_ports s n
  of := fun p hp => by
    obtain ⟨w, hw, h⟩ := ends_mem (g.al p hp)
    obtain ⟨m1, m2⟩ := linkP_mem (M := fun _ => none) g.nd w hw
    obtain ⟨e1, e2⟩ := mem_ends hw
    have hne : wA w ≠ wB w := wires_ne g.nd w hw
    rcases h with rfl | rfl
    · exact ⟨wB w, isPort_iff.1 (g.ip _ e2), m1, m2, hne.symm⟩
    · exact ⟨wA w, isPort_iff.1 (g.ip _ e1), m2, m1, hne⟩

theorem before_or {p q : Pt} (h : q ≠ p) : before p q = true ∨ before q p = true := by
  unfold before
  simp only [Bool.or_eq_true, Bool.and_eq_true, decide_eq_true_eq, beq_iff_eq]
  have : ¬ (p.1 = q.1 ∧ p.2 = q.2) := fun ⟨a, b⟩ => h (Prod.ext a.symm b.symm)
  omega
theorem before_not {p q : Pt} (h : before p q = true) : before q p = false := by
  unfold before at h ⊢
  simp only [Bool.or_eq_true, Bool.and_eq_true, decide_eq_true_eq, beq_iff_eq] at h
  rw [Bool.eq_false_iff]
  simp only [ne_eq, Bool.or_eq_true, Bool.and_eq_true, decide_eq_true_eq, beq_iff_eq]
  omega

/-- The wires of a linking, the ports in order. -/
def tw (M : Lk) : List Pt → List Wr
  | [] => []
  | p :: r => if before p (valN M p) then mkW p (valN M p) :: tw M r else tw M r
theorem wiresN_tw (M : Lk) : ∀ (ps : List Pt) (W : List Wr), wiresN M ps W = W ++ tw M ps
  | [], W => by simp [wiresN, tw]
  | p :: r, W => by
    simp only [wiresN, tw, addW]
    rw [wiresN_tw M r]
    split
    · simp [mkW]
    · rfl
theorem tw_mem {M : Lk} {w : Wr} : ∀ {ps : List Pt}, w ∈ tw M ps ↔ ∃ p ∈ ps, before p (valN M p) = true ∧ w = mkW p (valN M p)
  | [] => by simp [tw]
  | p :: r => by
    simp only [tw]
    by_cases h : before p (valN M p) = true
    · rw [if_pos h, List.mem_cons, tw_mem (ps := r)]
      constructor
      · rintro (rfl | ⟨q, h1, h2⟩)
        · exact ⟨p, by simp, h, rfl⟩
        · exact ⟨q, by simp [h1], h2⟩
      · rintro ⟨q, h1, h2⟩
        rcases List.mem_cons.1 h1 with rfl | h1
        · exact .inl h2.2
        · exact .inr ⟨q, h1, h2⟩
    · rw [if_neg h, tw_mem (ps := r)]
      constructor
      · rintro ⟨q, h1, h2⟩; exact ⟨q, by simp [h1], h2⟩
      · rintro ⟨q, h1, h2⟩
        rcases List.mem_cons.1 h1 with rfl | h1
        · exact absurd h2.1 h
        · exact ⟨q, h1, h2⟩
theorem tw_congr {M N : Lk} : ∀ {ps : List Pt}, (∀ p ∈ ps, valN M p = valN N p) → tw M ps = tw N ps
  | [], _ => rfl
  | p :: r, h => by
    simp only [tw]
    rw [h p (by simp), tw_congr (ps := r) fun q hq => h q (by simp [hq])]

theorem ends_app : ∀ (a b : List Wr), ends (a ++ b) = ends a ++ ends b
  | [], b => rfl
  | w :: r, b => by simp only [List.cons_append, ends, ends_app r b]

theorem Inv.val {M : Lk} {ps : List Pt} (i : Inv M ps) {p : Pt} (hp : p ∈ ps) : valN M p ∈ ps ∧ M p = some (valN M p) ∧ valN M (valN M p) = p ∧ valN M p ≠ p := by
  obtain ⟨q, h1, h2, h3, h4⟩ := i.of p hp
  have e : valN M p = q := by unfold valN; rw [h2]; rfl
  have e2 : valN M q = p := by unfold valN; rw [h3]; rfl
  rw [e]
  exact ⟨h1, h2, e2, h4⟩

theorem Inv.mem_ends {M : Lk} {ps : List Pt} (i : Inv M ps) (p : Pt) : p ∈ ends (tw M ps) ↔ p ∈ ps := by
  constructor
  · intro h
    obtain ⟨w, hw, hp⟩ := ends_mem h
    obtain ⟨q, hq, _, rfl⟩ := tw_mem.1 hw
    rcases hp with rfl | rfl
    · exact hq
    · exact (i.val hq).1
  · intro h
    obtain ⟨v1, v2, v3, v4⟩ := i.val h
    rcases before_or v4 with hb | hb
    · exact (Nt.mem_ends (tw_mem.2 ⟨p, h, hb, rfl⟩)).1
    · have := (Nt.mem_ends (tw_mem.2 ⟨valN M p, v1, by rw [v3]; exact hb, rfl⟩)).2
      rw [wB_mk, v3] at this; exact this

theorem Inv.nodup {M : Lk} {full : List Pt} (i : Inv M full) : ∀ {ps : List Pt}, (∀ p ∈ ps, p ∈ full) → ps.Nodup → (ends (tw M ps)).Nodup
  | [], _, _ => by simp [tw, ends]
  | p :: r, hs, hn => by
    simp only [List.nodup_cons] at hn
    have ih := i.nodup (ps := r) (fun q hq => hs q (by simp [hq])) hn.2
    simp only [tw]
    split
    · rename_i hb
      obtain ⟨v1, v2, v3, v4⟩ := i.val (hs p (by simp))
      have key : ∀ x ∈ ends (tw M r), x ≠ p ∧ x ≠ valN M p := fun x hx => by
        obtain ⟨w, hw, hx⟩ := ends_mem hx
        obtain ⟨q, hq, hqb, rfl⟩ := tw_mem.1 hw
        obtain ⟨u1, u2, u3, u4⟩ := i.val (hs q (by simp [hq]))
        have hqp : q ≠ p := by rintro rfl; exact hn.1 hq
        have n1 : valN M q ≠ p := fun e => by
          rw [e] at u3 hqb
          rw [u3] at hb
          have h1 := before_not hb
          rw [hqb] at h1; cases h1
        rcases hx with rfl | rfl
        · exact ⟨hqp, fun e => n1 (by have : q = valN M p := e; rw [this]; exact v3)⟩
        · refine ⟨n1, fun e => hqp ?_⟩
          have e : valN M q = valN M p := e
          rw [← u3, e, v3]
      simp only [ends, List.nodup_cons, List.mem_cons, not_or]
      exact ⟨⟨fun e => v4 e.symm, fun hm => (key _ hm).1 rfl⟩, fun hm => (key _ hm).2 rfl, ih⟩
    · exact ih

theorem Inv.links {M : Lk} {ps : List Pt} (i : Inv M ps) {p : Pt} (hp : p ∈ ps) : linksOf (tw M ps) p = M p := by
  have hn := i.nodup (fun _ h => h) i.nd
  obtain ⟨w, hw, h⟩ := ends_mem ((i.mem_ends p).2 hp)
  obtain ⟨m1, m2⟩ := linkP_mem (M := fun _ => none) hn w hw
  obtain ⟨q, hq, hqb, rfl⟩ := tw_mem.1 hw
  obtain ⟨u1, u2, u3, u4⟩ := i.val hq
  obtain ⟨v1, v2, v3, v4⟩ := i.val hp
  rcases h with rfl | rfl
  · rw [v2]; exact m1
  · rw [v2]
    have e : valN M (wB (mkW q (valN M q))) = q := u3
    rw [e]; exact m2

theorem tidyN_eq (s : List Ag) (n : Nt) : tidyN s n = ⟨n.cells, n.free, tw (linksOf n.wires) (portsL s n)⟩ := by
  unfold tidyN; rw [wiresN_tw]; rfl

/-- A net that is tidied. -/
theorem Good.tidy {s : List Ag} {n : Nt} (g : Good s n) : Good s (tidyN s n) ∧ (∀ p ∈ portsL s n, linksOf (tidyN s n).wires p = linksOf n.wires p) ∧ tidyN s (tidyN s n) = tidyN s n := by
  have i := g.inv
  have hl : ∀ p ∈ portsL s n, linksOf (tidyN s n).wires p = linksOf n.wires p := fun p hp => by
    rw [tidyN_eq]; exact i.links hp
  refine ⟨?_, hl, ?_⟩
  · rw [tidyN_eq]
    exact ⟨g.sg, g.cl, g.f1, g.f0, g.bc, fun p hp => isPort_iff (n := ⟨n.cells, n.free, _⟩).2 ((i.mem_ends p).1 hp), i.nodup (fun _ h => h) i.nd, fun p hp => (i.mem_ends p).2 hp⟩
  · rw [tidyN_eq s (tidyN s n)]
    have e1 : (tidyN s n).cells = n.cells := rfl
    have e2 : (tidyN s n).free = n.free := rfl
    have e3 : portsL s (tidyN s n) = portsL s n := rfl
    rw [e1, e2, e3, tw_congr (N := linksOf n.wires) (fun p hp => by unfold valN; rw [hl p hp]), ← tidyN_eq]
def firstL (s : List Ag) : List Int → Int → List Int
  | [], _ => []
  | a :: r, at0 => at0 :: firstL s r (at0 + portsN s a)
def mostN (s : List Ag) : List Int → Int → Int
  | [], at0 => at0
  | a :: r, at0 => mostN s r (at0 + portsN s a)

def placeN (s : List Ag) (n : Nt) (p : Pt) : Int :=
  if p.1 = -1 then (if p.2 < 0 ∨ p.2 ≥ n.free then -1 else p.2)
  else if isPort s n.cells n.free p = false then -1
  else (firstL s n.cells n.free).getD p.1.toNat 0 + p.2

theorem firstL_len (s : List Ag) : ∀ (cells : List Int) (a : Int), (firstL s cells a).length = cells.length
  | [], _ => rfl
  | x :: r, a => by simp [firstL, firstL_len s r]

theorem most_len {s : List Ag} (hP : ∀ a, 0 ≤ portsN s a) : ∀ (cells : List Int) (c : Nat) (X : List Pt), mostN s cells X.length = ((X ++ cellsPorts s cells c).length : Nat)
  | [], c, X => by simp [mostN, cellsPorts]
  | a :: r, c, X => by
    have h := most_len hP r (c + 1) (X ++ cellPorts s c a)
    have hl : ((X ++ cellPorts s c a).length : Nat) = (X.length : Int) + portsN s a := by
      have := hP a
      simp [cellPorts]; omega
    simp only [mostN, cellsPorts]
    rw [← hl, h, List.append_assoc]

theorem first_at {s : List Ag} (hP : ∀ a, 0 ≤ portsN s a) : ∀ (cells : List Int) (c : Nat) (X : List Pt) (i : Nat) (a : Int) (k : Nat), cells[i]? = some a → (k : Int) < portsN s a →
    ∃ v : Nat, (firstL s cells X.length)[i]? = some (v : Int) ∧ (X ++ cellsPorts s cells c)[v + k]? = some (((c + i : Nat) : Int), (k : Int))
  | [], c, X, i, a, k, h, _ => by simp at h
  | x :: r, c, X, 0, a, k, h, hk => by
    simp only [List.getElem?_cons_zero, Option.some.injEq] at h
    subst h
    refine ⟨X.length, rfl, ?_⟩
    rw [List.getElem?_append_right (by omega)]
    simp only [cellsPorts]
    rw [List.getElem?_append_left (by simp [cellPorts]; omega)]
    unfold cellPorts
    rw [List.getElem?_map, List.getElem?_range' (by omega)]
    simp
  | x :: r, c, X, i + 1, a, k, h, hk => by
    simp only [List.getElem?_cons_succ] at h
    obtain ⟨v, h1, h2⟩ := first_at hP r (c + 1) (X ++ cellPorts s c x) i a k h hk
    have hl : ((X ++ cellPorts s c x).length : Nat) = (X.length : Int) + portsN s x := by
      have := hP x
      simp [cellPorts]; omega
    rw [hl] at h1
    refine ⟨v, by simpa [firstL] using h1, ?_⟩
    simp only [cellsPorts]
    rw [← List.append_assoc, h2]
    congr 2
    omega

/-- A port's place is where it stands. -/
theorem place_at {s : List Ag} {n : Nt} (hP : ∀ a, 0 ≤ portsN s a) (hf : 0 ≤ n.free) {p : Pt} (h : isPort s n.cells n.free p = true) : ∃ v : Nat, placeN s n p = v ∧ (portsL s n)[v]? = some p := by
  have hm := isPort_iff.1 h
  unfold placeN
  by_cases h1 : p.1 = -1
  · rw [if_pos h1]
    have hp : p ∈ freePorts n.free := by
      unfold portsL at hm
      rcases List.mem_append.1 hm with h | h
      · exact h
      · obtain ⟨i, a, _, hc, _⟩ := mem_cells.1 h; omega
    obtain ⟨_, m2, m3⟩ := mem_free.1 hp
    rw [if_neg (by omega)]
    refine ⟨p.2.toNat, by omega, ?_⟩
    unfold portsL
    have hlt : p.2.toNat < (freePorts n.free).length := by unfold freePorts; simp; omega
    rw [List.getElem?_append_left hlt]
    unfold freePorts
    rw [List.getElem?_map, List.getElem?_range' (by omega)]
    simp only [Option.map_some, Option.some.injEq]
    ext
    · simp [h1]
    · simp; omega
  · rw [if_neg h1, if_neg (by rw [h]; simp)]
    have hp : p ∈ cellsPorts s n.cells 0 := by
      unfold portsL at hm
      rcases List.mem_append.1 hm with h | h
      · exact absurd (mem_free.1 h).1 h1
      · exact h
    obtain ⟨i, a, hi, hc, m2, m3⟩ := mem_cells.1 hp
    have hfl : (freePorts n.free).length = n.free.toNat := by unfold freePorts; simp
    obtain ⟨v, e1, e2⟩ := first_at hP n.cells 0 (freePorts n.free) i a p.2.toNat hi (by omega)
    rw [hfl, show ((n.free.toNat : Nat) : Int) = n.free by omega] at e1
    have e3 : p.1.toNat = i := by omega
    refine ⟨v + p.2.toNat, ?_, ?_⟩
    · rw [e3, List.getD_eq_getElem?_getD, e1]
      simp; omega
    · unfold portsL
      rw [e2]
      congr 1
      ext
      · simp; omega
      · simp; omega
theorem place_no {s : List Ag} {n : Nt} {p : Pt} (h : isPort s n.cells n.free p = false) : placeN s n p = -1 := by
  unfold placeN
  by_cases h1 : p.1 = -1
  · rw [if_pos h1]
    unfold isPort at h
    rw [if_pos (by simp [h1])] at h
    simp only [Bool.and_eq_false_iff, decide_eq_false_iff_not] at h
    rw [if_pos (by omega)]
  · rw [if_neg h1, if_pos h]
theorem place_inj {s : List Ag} {n : Nt} (hP : ∀ a, 0 ≤ portsN s a) (hf : 0 ≤ n.free) {p q : Pt} (hp : isPort s n.cells n.free p = true) (hq : isPort s n.cells n.free q = true) (h : placeN s n p = placeN s n q) : p = q := by
  obtain ⟨v, a1, a2⟩ := place_at hP hf hp
  obtain ⟨u, b1, b2⟩ := place_at hP hf hq
  have : v = u := by rw [a1, b1] at h; omega
  subst this
  rw [a2] at b2
  simpa using b2
/-- A contract that another evaluator shows: answers may lead to lists. -/
theorem mkEv_addx3 {P : Program} {mu : FuncId → Nat → Bool} {hk hk0 : Hooks} {f : FuncId} {s : List AV → Option AV} (hE : EvOK (mkEv P mu hk)) (hE0 : EvOK (mkEv P mu hk0))
    (hs : ∀ args v, s args = some v → ∃ u, freeV u = true ∧ v = weakV u ∧ ∃ n h', evCall (mkEv P mu hk0) n (.func f) args .empty = some (.ret u, h')) : EvOK (mkEv P mu (addHk hk f s)) where
  hk := fun g args hh v hh' h ρ w cargs hR hb ha => by
    by_cases hg : g = f
    · subst hg
      obtain ⟨hfr, h', rfl⟩ := addHk_inv h
      obtain ⟨u, p2, rfl, n, h1, he⟩ := hs _ v h'
      exact ev_hook3 hE0 he hR ha hfr p2
    · have h' : hk g args hh = some (v, hh') := by rw [← addHk_other hk s args hh hg]; exact h
      exact hE.hk g args hh v hh' h' ρ w cargs hR hb ha
  ng := hE.ng
  rgn := hE.rgn

theorem set_facts {h h1 : AH} {i : Sk.Id} {o : AO} (hh : h.set i o = h1) : h1.get i = some o ∧ h1.next = h.next ∧ ∀ q o', h.get q = some o' → q ≠ i → h1.get q = some o' := by
  subst hh
  exact ⟨by rw [AH.get_set, if_pos rfl], AH.next_set .., fun q o' hq hne => by rw [AH.get_set, if_neg hne]; exact hq⟩

section
variable {α : Type} {enc : α → AV}
/-- A list as a contract answers it: nil if it is empty. -/
def listW (enc : α → AV) (W : List α) : AV := match W with | [] => .nilsl | w :: r => .vsl ((w :: r).map enc) .unk
theorem listW_isL (W : List α) : IsL (listW enc W) (W.map enc) := by
  cases W with
  | nil => exact .inl ⟨rfl, rfl⟩
  | cons w r => exact .inr ⟨_, rfl⟩
/-- A list as it has come about: nil if it is empty. -/
def IsN (enc : α → AV) (l : AV) (W : List α) : Prop := (l = .nilsl ∧ W = []) ∨ ∃ c, l = .vsl (W.map enc) c ∧ W ≠ [] ∧ weakC c = .unk
theorem IsN.isL {l : AV} {W : List α} (h : IsN enc l W) : IsL l (W.map enc) := by
  rcases h with ⟨rfl, rfl⟩ | ⟨c, rfl, _⟩
  · exact .inl ⟨rfl, rfl⟩
  · exact .inr ⟨_, rfl⟩
theorem IsN.of_grow {h : AH} {l : AV} {W : List α} (hg : Grow h l (W.map enc)) : IsN enc l W := by
  rcases hg with ⟨h1, h2⟩ | ⟨g, h1, h2, _⟩
  · exact .inl ⟨h1, by simpa using h2⟩
  · exact .inr ⟨_, h1, by simpa using h2, rfl⟩
theorem IsN.weak (hw : ∀ a, weakV (enc a) = enc a) (hf : ∀ a, freeV (enc a) = true) {l : AV} {W : List α} (h : IsN enc l W) : weakV l = listW enc W ∧ freeV l = true := by
  rcases h with ⟨rfl, rfl⟩ | ⟨c, rfl, hne, hc⟩
  · exact ⟨rfl, rfl⟩
  · cases W with
    | nil => exact absurd rfl hne
    | cons w r =>
      refine ⟨?_, freeL_enc hf (w :: r)⟩
      show AV.vsl (weakL ((w :: r).map enc)) (weakC c) = _
      rw [weakL_enc hw, hc]; rfl
theorem IsN.listW (W : List α) : IsN enc (listW enc W) W := by
  cases W with
  | nil => exact .inl ⟨rfl, rfl⟩
  | cons w r => exact .inr ⟨_, rfl, by simp, rfl⟩
end

/-- A list, copied. -/
theorem copy_append {call : CallT} {α : Type} {enc : α → AV} {t e : TypeId} {sz : Nat} {z : AV} {W : List α} {h : AH} {x : AV} (ht : Tryz.prog.underlying t = some (.slice e)) (hn : sizeT Tryz.prog e = some sz) (hz : zeroT Tryz.prog e = some z) (hn0 : sz ≠ 0) (hzn : z.cells.length = sz) (hzs : z.cells.all AV.scalar = true)
    (hh : headOk sz (W.map enc) = true) (hx : IsL x (W.map enc)) (hb : W.length * Tryz.prog.bytesOf e ≤ 140737488355328) (hb2 : W.length ≤ 140737488355328) :
    ∃ l' h', aBuiltin ⟨Tryz.prog, mu0, call⟩ false .append #[t, t] [.nilsl, x] h = some (.ret l', h') ∧ IsN enc l' W := by
  have hel : aElems Tryz.prog e x h = some (W.map enc) := by rcases hx with ⟨rfl, h1⟩ | ⟨c, rfl⟩ <;> simp_all [aElems]
  by_cases hW : W = []
  · subst hW
    refine ⟨.nilsl, h, ?_, .inl ⟨rfl, rfl⟩⟩
    show vhOf (aAppend Tryz.prog false #[t, t] .nilsl x h) = _
    have : aAppend Tryz.prog false #[t, t] .nilsl x h = some (.nilsl, h) := by
      unfold aAppend
      simp only [show (#[t, t] : Array TypeId)[0]? = some t from rfl, show (#[t, t] : Array TypeId)[1]? = some t from rfl, ht, hel, hn, hz]
      rw [if_neg (by simp only [hh, hzn, hzs]; simp [hn0])]
      simp
    rw [this]; rfl
  · obtain ⟨l', h', h1, h2, h3, h4⟩ := append_grow (P := Tryz.prog) (types := #[t, t]) (t := t) (tx := t) (elem := e) (d := .slice e) (n := sz) (z := z) (l := .nilsl) (xs := []) (x := x) (ys := W.map enc) (h := h) rfl rfl ht ht
      (by intro k h; cases h) hel hn hz hn0 hzn hzs (by simpa using hW) hh rfl (.inl ⟨rfl, rfl⟩)
      (by simpa using hb) (by simpa using hb2)
    refine ⟨l', h', ?_, IsN.of_grow h2⟩
    show vhOf (aAppend Tryz.prog false #[t, t] _ _ h) = _
    rw [h1]; rfl

theorem bCI (call rgn n) (x : AV) (xs : List Int) (hx : IsL x (xs.map intV)) (hl : xs.length ≤ 1000000000) (h : AH) : ∃ l h', B shT call rgn n 60 Tryz.f60 [x] h = some (.ret l, h') ∧ IsN intV l xs := by
  suffices hq : ∀ Q : Option (AOut × AH) → Prop, (∀ l h', IsN intV l xs → Q (some (.ret l, h'))) → Q (B shT call rgn n 60 Tryz.f60 [x] h) from hq (fun y => ∃ l h', y = some (.ret l, h') ∧ IsN intV l xs) (fun l h' hl => ⟨l, h', rfl, hl⟩)
  intro Q hQ
  obtain ⟨l', h', a1, a2⟩ := copy_append (call := call) (h := h) (enc := intV) (t := 40) (e := 3) (sz := 1) (z := .int .i64 0) (by kernel_rfl) (by kernel_rfl) (by kernel_rfl) (by omega) rfl rfl (by cases xs <;> rfl) hx (by rw [show Tryz.prog.bytesOf 3 = 8 by kernel_rfl]; omega) (by omega)
  conv => arg 1; whnf
  refine atCall_P (a1) ?_
  conv => arg 1; whnf
  exact atLeave_P (leave_plain (.inl rfl) rfl) (hQ _ _ a2)
theorem bCW (call rgn n) (x : AV) (xs : List Wr) (hx : IsL x (xs.map wireV)) (hl : xs.length ≤ 1000000000) (h : AH) : ∃ l h', B shT call rgn n 61 Tryz.f61 [x] h = some (.ret l, h') ∧ IsN wireV l xs := by
  suffices hq : ∀ Q : Option (AOut × AH) → Prop, (∀ l h', IsN wireV l xs → Q (some (.ret l, h'))) → Q (B shT call rgn n 61 Tryz.f61 [x] h) from hq (fun y => ∃ l h', y = some (.ret l, h') ∧ IsN wireV l xs) (fun l h' hl => ⟨l, h', rfl, hl⟩)
  intro Q hQ
  obtain ⟨l', h', a1, a2⟩ := copy_append (call := call) (h := h) (enc := wireV) (t := 41) (e := 67) (sz := 4) (z := .agg [.int .i64 0, .int .i64 0, .int .i64 0, .int .i64 0]) (by kernel_rfl) (by kernel_rfl) (by kernel_rfl) (by omega) rfl rfl (by cases xs <;> rfl) hx (by rw [show Tryz.prog.bytesOf 67 = 32 by kernel_rfl]; omega) (by omega)
  conv => arg 1; whnf
  refine atCall_P (a1) ?_
  conv => arg 1; whnf
  exact atLeave_P (leave_plain (.inl rfl) rfl) (hQ _ _ a2)

def intsOf : AV → Option (List Int) := decL decInt intV
def wiresOf : AV → Option (List Wr) := decL decWire wireV
theorem intsOf_of {x : AV} {l : List Int} (h : IsL x (l.map intV)) : intsOf (weakV x) = some l ∧ freeV x = true := ⟨decL_of (dec := decInt) (enc := intV) (fun _ => rfl) (fun _ => rfl) h, freeL_of (enc := intV) (fun _ => rfl) h⟩
theorem wiresOf_of {x : AV} {l : List Wr} (h : IsL x (l.map wireV)) : wiresOf (weakV x) = some l ∧ freeV x = true := ⟨decL_of (dec := decWire) (enc := wireV) (fun _ => rfl) (fun _ => rfl) h, freeL_of (enc := wireV) (fun _ => rfl) h⟩

def sCI : List AV → Option AV | [x] => (match intsOf x with | some l => if l.length ≤ 1000000000 then some (listW intV l) else none | none => none) | _ => none
def sCW : List AV → Option AV | [x] => (match wiresOf x with | some l => if l.length ≤ 1000000000 then some (listW wireV l) else none | none => none) | _ => none
def hkCI := addHk hk13 60 sCI
def hkCW := addHk hkCI 61 sCW
theorem ECI : EvOK (mkEv Tryz.prog mu0 hkCI) := mkEv_add3 E13 fun args v hs => by
  unfold sCI at hs; split at hs
  · split at hs
    · rename_i x l h1
      split at hs
      · rename_i hl
        cases hs
        obtain ⟨u, h', q1, q2⟩ := bCI (evCall (mkEv Tryz.prog mu0 hk13) 1) (rg Tryz.prog mu0 hk13 1 60) 1 _ l (decL_inv h1) hl .empty
        obtain ⟨w1, w2⟩ := q2.weak (fun _ => rfl) (fun _ => rfl)
        exact ⟨u, w2, w1.symm, ev_ofS shT rfl Tryz.func60 rfl (by kernel_rfl) q1⟩
      · cases hs
    · cases hs
  · cases hs
theorem ECW : EvOK (mkEv Tryz.prog mu0 hkCW) := mkEv_add3 ECI fun args v hs => by
  unfold sCW at hs; split at hs
  · split at hs
    · rename_i x l h1
      split at hs
      · rename_i hl
        cases hs
        obtain ⟨u, h', q1, q2⟩ := bCW (evCall (mkEv Tryz.prog mu0 hkCI) 1) (rg Tryz.prog mu0 hkCI 1 61) 1 _ l (decL_inv h1) hl .empty
        obtain ⟨w1, w2⟩ := q2.weak (fun _ => rfl) (fun _ => rfl)
        exact ⟨u, w2, w1.symm, ev_ofS shT rfl Tryz.func61 rfl (by kernel_rfl) q1⟩
      · cases hs
    · cases hs
  · cases hs
def hCI (call : CallT) : Prop := ∀ x (l : List Int) h, IsL x (l.map intV) → l.length ≤ 1000000000 → call (.func 60) [x] h = some (.ret (listW intV l), h)
def hCW (call : CallT) : Prop := ∀ x (l : List Wr) h, IsL x (l.map wireV) → l.length ≤ 1000000000 → call (.func 61) [x] h = some (.ret (listW wireV l), h)
theorem hCI_of {hk : Hooks} {n : Nat} (hk' : ∀ args h, hk 60 args h = hkCI 60 args h) (hn : 0 < n) : hCI (evCall (mkEv Tryz.prog mu0 hk) n) := fun x l h hx hl => ev_hk (by
  rw [hk']
  refine hk_top (by simp [freeL, (intsOf_of hx).2]) ?_
  show (match intsOf (weakV x) with | some l => if l.length ≤ 1000000000 then some (listW intV l) else none | none => none) = _
  rw [(intsOf_of hx).1]; simp only [if_pos hl]) hn
theorem hCW_of {hk : Hooks} {n : Nat} (hk' : ∀ args h, hk 61 args h = hkCW 61 args h) (hn : 0 < n) : hCW (evCall (mkEv Tryz.prog mu0 hk) n) := fun x l h hx hl => ev_hk (by
  rw [hk']
  refine hk_top (by simp [freeL, (wiresOf_of hx).2]) ?_
  show (match wiresOf (weakV x) with | some l => if l.length ≤ 1000000000 then some (listW wireV l) else none | none => none) = _
  rw [(wiresOf_of hx).1]; simp only [if_pos hl]) hn

def netC (n : Nt) : AV := .agg [listW intV n.cells, .int .i64 n.free, listW wireV n.wires]
theorem bCN (call rgn n) (v : AV) (nt : Nt) (hv : IsNet v nt) (l1 : nt.cells.length ≤ 1000000000) (l2 : nt.wires.length ≤ 1000000000) (hCI : hCI call) (hCW : hCW call) (h : AH) : ∃ h', B shT call rgn n 21 Tryz.f21 [v] h = some (.ret (netC nt), h') := by
  suffices hq : ∀ Q : Option (AOut × AH) → Prop, (∀ h', Q (some (.ret (netC nt), h'))) → Q (B shT call rgn n 21 Tryz.f21 [v] h) from hq (fun y => ∃ h', y = some (.ret (netC nt), h')) (fun h' => ⟨h', rfl⟩)
  intro Q hQ
  obtain ⟨c, w, rfl, hc, hw⟩ := hv
  have hcs := isL_scalar hc
  have hws := isL_scalar hw
  have kc := isL_cells (listW_isL (enc := intV) nt.cells)
  have kw := isL_cells (listW_isL (enc := wireV) nt.wires)
  have sc := isL_scalar (listW_isL (enc := intV) nt.cells)
  have sw := isL_scalar (listW_isL (enc := wireV) nt.wires)
  conv => arg 1; whnf
  refine atCall_P (box_new (cs := [c, .int .i64 nt.free, w]) rfl (by simp only [List.all_cons, hcs, hws, List.all_nil]; rfl)) ?_
  generalize hh_h1 : h.alloc (.cells [c, .int .i64 nt.free, w] 43) = h1 at *
  obtain ⟨a_i1, n_i1, k_h1⟩ := alloc_facts hh_h1
  clear hh_h1 k_h1
  generalize hi_i1 : h.next = i1 at *
  clear hi_i1
  conv => arg 1; whnf
  refine atCall_P (alloc_new (z := .agg [.nilsl, .int .i64 0, .nilsl]) (cs := [.nilsl, .int .i64 0, .nilsl]) (by kernel_rfl) rfl rfl) ?_
  generalize hh_h2 : h1.alloc (.cells [.nilsl, .int .i64 0, .nilsl] 43) = h2 at *
  obtain ⟨a_i2, n_i2, k_h2⟩ := alloc_facts hh_h2
  replace a_i1 := k_h2 _ _ a_i1 (by omega)
  clear hh_h2 k_h2
  generalize hi_i2 : h1.next = i2 at *
  clear hi_i2
  have e1 : vOf h2 (aLoad Tryz.prog 40 (.ptr i1 0) h2) = some (.ret c, h2) := ld_ptr (n := 1) a_i1 (by kernel_rfl) (by kernel_rfl) rfl
  conv => arg 1; whnf
  refine atCall_P (e1) ?_
  conv => arg 1; whnf
  refine atCall_P (hCI c nt.cells h2 hc l1) ?_
  have s1 : hOf (aStore Tryz.prog 40 (.ptr i1 0) (listW intV nt.cells) h2) = some (.ret undefA, h2.set i1 (.cells [listW intV nt.cells, .int .i64 nt.free, w] 43)) := by
    rw [st_ptr (n := 1) a_i1 (by kernel_rfl) (by rw [kc]; rfl) (by simp) (by rw [kc]; simp only [List.all_cons, sc, List.all_nil]; rfl), kc]; rfl
  conv => arg 1; whnf
  refine atCall_P (s1) ?_
  generalize hh_h3 : h2.set i1 (.cells [listW intV nt.cells, .int .i64 nt.free, w] 43) = h3 at *
  obtain ⟨b_i1, n_h3, k_h3⟩ := set_facts hh_h3
  replace a_i2 := k_h3 _ _ a_i2 (by rintro rfl; omega)
  clear hh_h3 k_h3
  replace n_h3 : h3.next.nat = h2.next.nat := congrArg Id.nat n_h3
  have e2 : vOf h3 (aLoad Tryz.prog 41 (.ptr i1 2) h3) = some (.ret w, h3) := ld_ptr (n := 1) b_i1 (by kernel_rfl) (by kernel_rfl) rfl
  conv => arg 1; whnf
  refine atCall_P (e2) ?_
  conv => arg 1; whnf
  refine atCall_P (hCW w nt.wires h3 hw l2) ?_
  have s2 : hOf (aStore Tryz.prog 41 (.ptr i1 2) (listW wireV nt.wires) h3) = some (.ret undefA, h3.set i1 (.cells [listW intV nt.cells, .int .i64 nt.free, listW wireV nt.wires] 43)) := by
    rw [st_ptr (n := 1) b_i1 (by kernel_rfl) (by rw [kw]; rfl) (by simp) (by rw [kw]; simp only [List.all_cons, sw, List.all_nil]; rfl), kw]; rfl
  conv => arg 1; whnf
  refine atCall_P (s2) ?_
  replace b_i1' := b_i1
  clear b_i1
  generalize hh_h4 : h3.set i1 (.cells [listW intV nt.cells, .int .i64 nt.free, listW wireV nt.wires] 43) = h4 at *
  obtain ⟨b_i1, n_h4, k_h4⟩ := set_facts hh_h4
  replace a_i2 := k_h4 _ _ a_i2 (by rintro rfl; omega)
  clear hh_h4 k_h4
  replace n_h4 : h4.next.nat = h3.next.nat := congrArg Id.nat n_h4
  have e3 : vOf h4 (aLoad Tryz.prog 43 (.ptr i1 0) h4) = some (.ret (netC nt), h4) := ld_agg (n := 3) b_i1 (by kernel_rfl) (by kernel_rfl) (by simp)
  conv => arg 1; whnf
  refine atCall_P (e3) ?_
  have s3 : hOf (aStore Tryz.prog 43 (.ptr i2 0) (netC nt) h4) = some (.ret undefA, h4.set i2 (.cells [listW intV nt.cells, .int .i64 nt.free, listW wireV nt.wires] 43)) :=
    st_ptr (n := 3) a_i2 (by kernel_rfl) rfl (by simp) (by show ((listW intV nt.cells).scalar && (_ && ((listW wireV nt.wires).scalar && true))) = true; rw [sc, sw]; rfl)
  conv => arg 1; whnf
  refine atCall_P (s3) ?_
  conv => arg 1; whnf
  have ld : aLoad Tryz.prog 43 (.ptr i2 0) (h4.set i2 (.cells [listW intV nt.cells, .int .i64 nt.free, listW wireV nt.wires] 43)) = some (netC nt) :=
    ld_val (ld_agg (r := i2) (off := 0) (cs := [listW intV nt.cells, .int .i64 nt.free, listW wireV nt.wires]) (T := 43) (n := 3) (by rw [AH.get_set, if_pos rfl]) (by kernel_rfl) (by kernel_rfl) (by simp))
  refine atLeave_P (leave_plain (.inl rfl) (l := [netC nt]) ?_) (hQ _)
  show (match aLoad Tryz.prog 43 (.ptr i2 0) (h4.set i2 (.cells [listW intV nt.cells, .int .i64 nt.free, listW wireV nt.wires] 43)), some ([] : List AV) with | some v, some l => some (v :: l) | _, _ => none) = _
  rw [ld]

theorem netC_weak (n : Nt) : weakV (netC n) = netC n ∧ freeV (netC n) = true := by
  obtain ⟨e1, f1⟩ := (IsN.listW (enc := intV) n.cells).weak (fun _ => rfl) (fun _ => rfl)
  obtain ⟨e2, f2⟩ := (IsN.listW (enc := wireV) n.wires).weak (fun _ => rfl) (fun _ => rfl)
  constructor
  · show AV.agg [weakV (listW intV n.cells), .int .i64 n.free, weakV (listW wireV n.wires)] = _
    rw [e1, e2]; rfl
  · show (freeV (listW intV n.cells) && (true && (freeV (listW wireV n.wires) && true))) = true
    rw [f1, f2]; rfl
def sCN : List AV → Option AV | [x] => (match netOf x with | some n => if n.cells.length ≤ 1000000000 ∧ n.wires.length ≤ 1000000000 then some (netC n) else none | none => none) | _ => none
def hkCN := addHk hkCW 21 sCN
theorem ECN : EvOK (mkEv Tryz.prog mu0 hkCN) := mkEv_add3 ECW fun args v hs => by
  unfold sCN at hs; split at hs
  · split at hs
    · rename_i x n h1
      split at hs
      · rename_i hl
        cases hs
        obtain ⟨h', q1⟩ := bCN (evCall (mkEv Tryz.prog mu0 hkCW) 1) (rg Tryz.prog mu0 hkCW 1 21) 1 _ n (netOf_inv h1) hl.1 hl.2 (hCI_of (fun _ _ => rfl) (by omega)) (hCW_of (fun _ _ => rfl) (by omega)) .empty
        exact ⟨_, (netC_weak n).2, (netC_weak n).1.symm, ev_ofS shT rfl Tryz.func21 rfl (by kernel_rfl) q1⟩
      · cases hs
    · cases hs
  · cases hs
def hCN (call : CallT) : Prop := ∀ x n h, IsNet x n → n.cells.length ≤ 1000000000 → n.wires.length ≤ 1000000000 → call (.func 21) [x] h = some (.ret (netC n), h)
/-! ### The signature of numbers -/

def sigU : List Ag := [([90], 0), ([83], 1), ([65, 100, 100], 2), ([77, 117, 108], 2), ([68, 117, 112], 2), ([69, 114, 97], 0)]
def sigUV : AV := .vsl (sigU.map agV) .unk
theorem isSig_U : IsSig sigUV sigU := .inr ⟨_, rfl⟩
def sSU : List AV → Option AV | [] => some sigUV | _ => none
def hkSU := addHk hkCN 71 sSU
def hkSR := addHk hkSU 72 sSU
theorem retV_ex {x : Option (AOut × AH)} {v : AV} (h : retV x v = true) : ∃ h', x = some (.ret v, h') := retV_spec h
theorem runSU : ∃ h', fCallH Tryz.prog mu0 noHooks 5 (.func 71) [] .empty = some (.ret (.vsl (sigU.map agV) .lit), h') := retV_ex (by kernel_rfl)
theorem runSR : ∃ h', fCallH Tryz.prog mu0 noHooks 5 (.func 72) [] .empty = some (.ret (.vsl (sigU.map agV) .lit), h') := retV_ex (by kernel_rfl)
theorem ESU : EvOK (mkEv Tryz.prog mu0 hkSU) := mkEv_addx3 ECN E0 fun args v hs => by
  unfold sSU at hs; split at hs <;> cases hs
  obtain ⟨h', he⟩ := runSU
  exact ⟨_, rfl, rfl, 5, h', by rw [fCallH_eq]; exact he⟩
theorem ESR : EvOK (mkEv Tryz.prog mu0 hkSR) := mkEv_addx3 ESU E0 fun args v hs => by
  unfold sSU at hs; split at hs <;> cases hs
  obtain ⟨h', he⟩ := runSR
  exact ⟨_, rfl, rfl, 5, h', by rw [fCallH_eq]; exact he⟩
theorem hSU_of {hk : Hooks} {n : Nat} (hk' : ∀ args h, hk 71 args h = hkSU 71 args h) (hn : 0 < n) (h : AH) : evCall (mkEv Tryz.prog mu0 hk) n (.func 71) [] h = some (.ret sigUV, h) := ev_hk (by
  rw [hk']; exact hk_top rfl rfl) hn
theorem hSR_of {hk : Hooks} {n : Nat} (hk' : ∀ args h, hk 72 args h = hkSR 72 args h) (hn : 0 < n) (h : AH) : evCall (mkEv Tryz.prog mu0 hk) n (.func 72) [] h = some (.ret sigUV, h) := ev_hk (by
  rw [hk']; exact hk_top rfl rfl) hn
theorem notGrp {h : AH} {q : Sk.Id} {cs : List AV} {T : TypeId} (hg : h.get q = some (.cells cs T)) : NotGrp h q := fun n => by rw [hg]; simp
theorem wrap_small {a : Int} (h1 : -1000000000 ≤ a) (h2 : a ≤ 1000000000) : IntKind.i64.wrap a = a := by
  simp [IntKind.wrap, IntKind.bits, IntKind.signed]; omega

/-- One more element. -/
theorem one_append {call : CallT} {α : Type} {enc : α → AV} {t e : TypeId} {sz bs : Nat} {z : AV} {W : List α} {a : α} {h : AH} {l : AV} {c : Cap} (ht : Tryz.prog.underlying t = some (.slice e)) (hn : sizeT Tryz.prog e = some sz) (hz : zeroT Tryz.prog e = some z) (hbs : Tryz.prog.bytesOf e = bs) (hbs2 : bs ≤ 1000) (hn0 : sz ≠ 0) (hzn : z.cells.length = sz) (hzs : z.cells.all AV.scalar = true)
    (hh : ∀ W : List α, headOk sz (W.map enc) = true) (hl : Grow h l (W.map enc)) (hb : W.length ≤ 1000000000) :
    ∃ l' h', aBuiltin ⟨Tryz.prog, mu0, call⟩ false .append #[t, t] [l, .vsl [enc a] c] h = some (.ret l', h') ∧ Grow h' l' ((W ++ [a]).map enc) ∧ h.next.nat ≤ h'.next.nat ∧ (∀ q o, h.get q = some o → NotGrp h q → q.nat < h.next.nat → h'.get q = some o) := by
  have hb2 : (W.length + 1) * bs ≤ 140737488355328 := Nat.le_trans (Nat.mul_le_mul (show W.length + 1 ≤ 1000000001 by omega) hbs2) (by decide)
  obtain ⟨l', h', h1, h2, h3, h4⟩ := append_grow (P := Tryz.prog) (types := #[t, t]) (t := t) (tx := t) (elem := e) (d := .slice e) (n := sz) (z := z) (x := .vsl [enc a] c) (ys := [enc a]) (h := h) rfl rfl ht ht
    (by intro k h; cases h) rfl hn hz hn0 hzn hzs (by simp) (hh [a]) (hh W) hl
    (by rw [hbs]; simpa using hb2) (by simp; omega)
  refine ⟨l', h', ?_, by rw [List.map_append]; exact h2, h3, fun q o hq hn hlt => h4 q o hq (grow_own hl hn) hlt⟩
  show vhOf (aAppend Tryz.prog false #[t, t] _ _ h) = _
  rw [h1]; rfl
theorem ints_app {call : CallT} {W : List Int} {a : Int} {h : AH} {l : AV} {c : Cap} (hl : Grow h l (W.map intV)) (hb : W.length ≤ 1000000000) :
    ∃ l' h', aBuiltin ⟨Tryz.prog, mu0, call⟩ false .append #[40, 40] [l, .vsl [intV a] c] h = some (.ret l', h') ∧ Grow h' l' ((W ++ [a]).map intV) ∧ h.next.nat ≤ h'.next.nat ∧ (∀ q o, h.get q = some o → NotGrp h q → q.nat < h.next.nat → h'.get q = some o) :=
  one_append (e := 3) (sz := 1) (bs := 8) (z := .int .i64 0) (by kernel_rfl) (by kernel_rfl) (by kernel_rfl) (by kernel_rfl) (by omega) (by omega) rfl rfl (fun W => by cases W <;> rfl) hl hb
theorem ports_app {call : CallT} {W : List Pt} {a : Pt} {h : AH} {l : AV} {c : Cap} (hl : Grow h l (W.map portV)) (hb : W.length ≤ 1000000000) :
    ∃ l' h', aBuiltin ⟨Tryz.prog, mu0, call⟩ false .append #[89, 89] [l, .vsl [portV a] c] h = some (.ret l', h') ∧ Grow h' l' ((W ++ [a]).map portV) ∧ h.next.nat ≤ h'.next.nat ∧ (∀ q o, h.get q = some o → NotGrp h q → q.nat < h.next.nat → h'.get q = some o) :=
  one_append (e := 65) (sz := 2) (bs := 16) (z := .agg [.int .i64 0, .int .i64 0]) (by kernel_rfl) (by kernel_rfl) (by kernel_rfl) (by kernel_rfl) (by omega) (by omega) rfl rfl (fun W => by cases W <;> rfl) hl hb

theorem idx_ints {x : AV} {xs : List Int} {a : Int} {h : AH} (hx : IsL x (xs.map intV)) (h0 : 0 ≤ a) (h1 : a < xs.length) : ∃ y, xs[a.toNat]? = some y ∧ vOf h (aIndexAddr Tryz.prog 40 x (.int .i64 a)) = some (.ret (.ref (.int .i64 y)), h) := by
  have u : Tryz.prog.underlying 40 = some (.slice 3) := by kernel_rfl
  have hlt : a.toNat < xs.length := by omega
  refine ⟨xs[a.toNat], List.getElem?_eq_getElem hlt, ?_⟩
  have hg : (xs.map intV)[a.toNat]? = some (intV xs[a.toNat]) := by rw [List.getElem?_map, List.getElem?_eq_getElem hlt]; rfl
  rw [idx_L (P := Tryz.prog) (t := 40) (e := 3) (n := 1) (h := h) (k := .i64) u (by kernel_rfl) hx (i := a.toNat) (by omega) hg rfl]
  rfl
theorem idx_ports {x : AV} {xs : List Pt} {a : Int} {h : AH} (hx : IsL x (xs.map portV)) (h0 : 0 ≤ a) (h1 : a < xs.length) : ∃ y, xs[a.toNat]? = some y ∧ vOf h (aIndexAddr Tryz.prog 89 x (.int .i64 a)) = some (.ret (.ref (portV y)), h) := by
  have u : Tryz.prog.underlying 89 = some (.slice 65) := by kernel_rfl
  have hlt : a.toNat < xs.length := by omega
  refine ⟨xs[a.toNat], List.getElem?_eq_getElem hlt, ?_⟩
  have hg : (xs.map portV)[a.toNat]? = some (portV xs[a.toNat]) := by rw [List.getElem?_map, List.getElem?_eq_getElem hlt]; rfl
  rw [idx_L (P := Tryz.prog) (t := 89) (e := 65) (n := 2) (h := h) (k := .i64) u (by kernel_rfl) hx (i := a.toNat) (by omega) hg rfl]

theorem bP2 (call rgn n) (x : AV) (s : List Ag) (a : Int) (h : AH) (hx : IsSig x s) : B shT call rgn n 66 Tryz.f66 [x, .int .i64 a] h = some (.ret (.int .i64 (portsN s a)), h) := by
  suffices hq : ∀ Q : Option (AOut × AH) → Prop, (∀ v, portsN s a = v → Q (some (.ret (.int .i64 v), h))) → Q (B shT call rgn n 66 Tryz.f66 [x, .int .i64 a] h) from
    hq (fun y => y = some (.ret (.int .i64 (portsN s a)), h)) (fun v e => by rw [e])
  intro Q hQ
  have u : Tryz.prog.underlying 22 = some (.slice 63) := by kernel_rfl
  have hlen := fun h => len_L (X := ⟨Tryz.prog, mu0, call⟩) (mu := false) (h := h) u hx
  rw [List.length_map] at hlen
  conv => arg 1; whnf
  cases e1 : decide (a < 0)
  rotate_left
  · conv => arg 1; whnf
    exact atLeave_P (leave_plain (.inl rfl) rfl) (hQ _ (by unfold portsN; rw [if_pos (by simpa using e1)]))
  conv => arg 1; whnf
  refine atCall_P (hlen _) ?_
  conv => arg 1; whnf
  cases e2 : decide (a ≥ (s.length : Int))
  rotate_left
  · conv => arg 1; whnf
    exact atLeave_P (leave_plain (.inl rfl) rfl) (hQ _ (by
      have : s[a.toNat]? = none := List.getElem?_eq_none (by simp at e2; omega)
      unfold portsN; rw [if_neg (by simpa using e1), this]))
  have h0 : 0 ≤ a := by simpa using e1
  have hlt : a.toNat < s.length := by simp at e2; omega
  have hg : (s.map agV)[a.toNat]? = some (agV s[a.toNat]) := by rw [List.getElem?_map, List.getElem?_eq_getElem hlt]; rfl
  have hidx := fun h => idx_L (P := Tryz.prog) (t := 22) (e := 63) (n := 2) (h := h) (k := .i64) (y := a) (i := a.toNat) u (by kernel_rfl) hx (by omega) hg rfl
  have hp : portsN s a = if s[a.toNat].2 < 0 then 0 else IntKind.i64.wrap (s[a.toNat].2 + 1) := by
    unfold portsN; rw [if_neg (by omega), List.getElem?_eq_getElem hlt]
  generalize s[a.toNat] = g at hidx hp
  obtain ⟨nm, ar⟩ := g
  conv => arg 1; whnf
  refine atCall_P (hidx _) ?_
  conv => arg 1; whnf
  cases e3 : decide (ar < 0)
  · conv => arg 1; whnf
    refine atCall_P (hidx _) ?_
    conv => arg 1; whnf
    exact atLeave_P (leave_plain (.inl rfl) rfl) (hQ _ (by rw [hp, if_neg (by simpa using e3), Int.add_comm]))
  · conv => arg 1; whnf
    exact atLeave_P (leave_plain (.inl rfl) rfl) (hQ _ (by rw [hp, if_pos (by simpa using e3)]))

def hkP2 := addHk hkSR 66 s31
theorem EP2 : EvOK (mkEv Tryz.prog mu0 hkP2) := mkEv_add ESR fun args v hs => by
  unfold s31 at hs; split at hs
  · split at hs
    · rename_i x a _ s hb
      cases hs
      exact ⟨rfl, ev_ofS shT (n := 1) rfl Tryz.func66 rfl (by kernel_rfl) (bP2 _ _ _ x s a _ (decL_inv hb))⟩
    · cases hs
  · cases hs
def hP2 (call : CallT) : Prop := ∀ x s a h, IsSig x s → call (.func 66) [x, .int .i64 a] h = some (.ret (.int .i64 (portsN s a)), h)
theorem hP2_of {hk : Hooks} {n : Nat} (hk' : ∀ args h, hk 66 args h = hkP2 66 args h) (hn : 0 < n) : hP2 (evCall (mkEv Tryz.prog mu0 hk) n) := fun x s a h hx => ev_hk (by
  rw [hk']
  refine hk_top (by simp [freeL, freeV, sig_free hx]) ?_
  show (match sigOf (weakV x) with | some s => some (AV.int .i64 (portsN s a)) | none => none) = _
  rw [sigOf_of hx]) hn

/-! ### First -/

theorem lF1 (call rgn n) (x c w : AV) (f : Int) (s : List Ag) (cells : List Int) (i3 : Sk.Id) (hx : IsSig x s) (hc : IsL c (cells.map intV)) (hP : ∀ a, 0 ≤ portsN s a ∧ portsN s a ≤ 7) (hlen : cells.length ≤ 100000) (hP2 : hP2 call) {R1 : List Int} {R2 : Int} {K : KC (AOut × AH)} {Q : Option (AOut × AH) → Prop}
    (hK : ∀ {l : AV} {h : AH} {g0 g1 g2 g3 g4 g5 g8 g9 aA aB aC aD aE aF aG aH aI aJ aK aL aM aN aO aP aQ aR aS aT aU aV aW : AV}, IsN intV l R1 → Q (K (.exit 0) ⟨[g0,g1,g2,g3,g4,g5,l,.int .i64 R2,g8,g9,aA,aB,aC,aD,aE,aF,aG,aH,aI,aJ,aK,aL,aM,aN,aO,aP,aQ,aR,aS,aT,aU,aV,aW], [], h⟩)) :
    ∀ (m i : Nat) {z a : Int} {l : AV} {W : List Int} {h : AH} {g1 g2 g4 g5 g9 aA aB aC aD aE aF aG aH aI aJ aK aL aM aN aO aP aQ aR aS aT aU aV aW : AV}, z = i → i ≤ cells.length → cells.length - i < m → W.length ≤ i → -1000 ≤ a → a ≤ 1000 + 7 * i → h.get i3 = some (.cells [c, .int .i64 f, w] 43) → i3.nat < h.next.nat → Grow h l (W.map intV) → R1 = W ++ firstL s (cells.drop i) a → R2 = mostN s (cells.drop i) a →
    Q (cIter (LB shT call rgn n 62 Tryz.f62 0) m ⟨[x,g1,g2,.ptr i3 0,g4,g5,l,.int .i64 a,.int .i64 z,g9,aA,aB,aC,aD,aE,aF,aG,aH,aI,aJ,aK,aL,aM,aN,aO,aP,aQ,aR,aS,aT,aU,aV,aW], [], h⟩ K) := by
  have u : Tryz.prog.underlying 40 = some (.slice 3) := by kernel_rfl
  have hlc := fun h => len_L (X := ⟨Tryz.prog, mu0, call⟩) (mu := false) (h := h) u hc
  rw [List.length_map] at hlc
  intro m
  induction m with
  | zero => intros; omega
  | succ m ih =>
    intro i z a l W h g1 g2 g4 g5 g9 aA aB aC aD aE aF aG aH aI aJ aK aL aM aN aO aP aQ aR aS aT aU aV aW hz hi hm hW ha1 ha2 g3 l3 gl hR1 hR2
    rw [cIter_succ]
    have lc : ∀ h, h.get i3 = some (.cells [c, .int .i64 f, w] 43) → vOf h (aLoad Tryz.prog 40 (.ptr i3 0) h) = some (.ret c, h) := fun h g => ld_ptr (n := 1) g (by kernel_rfl) (by kernel_rfl) rfl
    conv => arg 1; whnf
    refine atCall_P (lc h g3) ?_
    conv => arg 1; whnf
    refine atCall_P (hlc _) ?_
    conv => arg 1; whnf
    split
    · rename_i hd
      have hlt : i < cells.length := by simp at hd; omega
      have hdrop : cells.drop i = cells[i] :: cells.drop (i + 1) := List.drop_eq_getElem_cons hlt
      rw [hdrop] at hR1 hR2
      simp only [firstL, mostN] at hR1 hR2
      obtain ⟨l', h2, a1, a2, a3, a4⟩ := ints_app (call := call) (a := a) (c := .lit) gl (by omega)
      conv => arg 1; whnf
      refine atCall_P (a1) ?_
      have aW := a4 _ _ g3 (notGrp g3) l3
      obtain ⟨y, y1, y2⟩ := idx_ints (h := h2) (a := z) hc (by omega) (by omega)
      have hy : cells[i] = y := by
        rw [hz, Int.toNat_natCast, List.getElem?_eq_getElem hlt] at y1
        simpa using y1
      rw [hy] at hR1 hR2
      conv => arg 1; whnf
      refine atCall_P (lc h2 aW) ?_
      conv => arg 1; whnf
      refine atCall_P (y2) ?_
      conv => arg 1; whnf
      refine atCall_P (hP2 x s y h2 hx) ?_
      conv => arg 1; whnf
      obtain ⟨p0, p7⟩ := hP y
      have hw : IntKind.i64.wrap (a + portsN s y) = a + portsN s y := wrap_small (by omega) (by omega)
      refine ih (i + 1) (W := W ++ [a]) (a := IntKind.i64.wrap (a + portsN s y)) (by rw [hz]; exact wrap_succ (by omega)) (by omega) (by omega) (by simp; omega) (by omega) (by omega) aW (by omega) a2 (by rw [hR1, hw]; simp) (by rw [hR2, hw])
    · rename_i hd
      have hlt : ¬ i < cells.length := by simp at hd; omega
      rw [List.drop_eq_nil_of_le (by omega)] at hR1 hR2
      simp only [firstL, mostN, List.append_nil] at hR1 hR2
      subst hR2
      subst hR1
      exact hK (IsN.of_grow gl)

theorem bF1 (call rgn n) (x v : AV) (s : List Ag) (nt : Nt) (hx : IsSig x s) (hv : IsNet v nt) (hP : ∀ a, 0 ≤ portsN s a ∧ portsN s a ≤ 7) (hlen : nt.cells.length ≤ 100000) (hf0 : -1000 ≤ nt.free) (hf1 : nt.free ≤ 1000) (hn : nt.cells.length < n) (hP2 : hP2 call) (h : AH) :
    ∃ l h', B shT call rgn n 62 Tryz.f62 [x, v] h = some (.ret (.tup [l, .int .i64 (mostN s nt.cells nt.free)]), h') ∧ IsN intV l (firstL s nt.cells nt.free) := by
  suffices hq : ∀ Q : Option (AOut × AH) → Prop, (∀ l h', IsN intV l (firstL s nt.cells nt.free) → Q (some (.ret (.tup [l, .int .i64 (mostN s nt.cells nt.free)]), h'))) → Q (B shT call rgn n 62 Tryz.f62 [x, v] h) from
    hq (fun y => ∃ l h', y = some (.ret (.tup [l, .int .i64 (mostN s nt.cells nt.free)]), h') ∧ IsN intV l (firstL s nt.cells nt.free)) (fun l h' hl => ⟨l, h', rfl, hl⟩)
  intro Q hQ
  obtain ⟨c, w, rfl, hc, hw⟩ := hv
  have hcs := isL_scalar hc
  have hws := isL_scalar hw
  conv => arg 1; whnf
  refine atCall_P (box_new (cs := [c, .int .i64 nt.free, w]) rfl (by simp only [List.all_cons, hcs, hws, List.all_nil]; rfl)) ?_
  generalize hh_h1 : h.alloc (.cells [c, .int .i64 nt.free, w] 43) = h1 at *
  obtain ⟨a_i3, n_i3, k_h1⟩ := alloc_facts hh_h1
  clear hh_h1 k_h1
  generalize hi_i3 : h.next = i3 at *
  clear hi_i3
  have lf : vOf h1 (aLoad Tryz.prog 3 (.ptr i3 1) h1) = some (.ret (.int .i64 nt.free), h1) := ld_ptr (n := 1) a_i3 (by kernel_rfl) (by kernel_rfl) rfl
  conv => arg 1; whnf
  refine atCall_P (lf) ?_
  conv => arg 1; whnf
  refine lF1 call rgn n x c w nt.free s nt.cells i3 hx hc hP hlen hP2 (R1 := firstL s nt.cells nt.free) (R2 := mostN s nt.cells nt.free) ?_ n 0 (z := 0) (W := []) rfl (Nat.zero_le _) (by omega) (Nat.zero_le _) hf0 (by omega) a_i3 (by omega) (.inl ⟨rfl, rfl⟩) (by simp) (by simp)
  intro l h2
  intros
  rename_i hl
  rcases hl with ⟨rfl, h0⟩ | ⟨c', rfl, h0⟩
  · conv => arg 1; whnf
    exact atLeave_P (leave_plain (.inl rfl) rfl) (hQ _ _ (.inl ⟨rfl, h0⟩))
  · conv => arg 1; whnf
    exact atLeave_P (leave_plain (.inl rfl) rfl) (hQ _ _ (.inr ⟨c', rfl, h0⟩))

def okF (s : List Ag) (n : Nt) : Prop := (sigChk s).1 = 0 ∧ n.cells.length ≤ 100000 ∧ -1000 ≤ n.free ∧ n.free ≤ 1000 ∧ n.wires.length ≤ 1000000
instance (s : List Ag) (n : Nt) : Decidable (okF s n) := by unfold okF; infer_instance
def firstV (s : List Ag) (n : Nt) : AV := .tup [listW intV (firstL s n.cells n.free), .int .i64 (mostN s n.cells n.free)]
def sF1 : List AV → Option AV
  | [x, v] => match sigOf x, netOf v with | some s, some n => if okF s n then some (firstV s n) else none | _, _ => none
  | _ => none
def hkF1 := addHk hkP2 62 sF1
theorem EF1 : EvOK (mkEv Tryz.prog mu0 hkF1) := mkEv_add3 EP2 fun args v hs => by
  unfold sF1 at hs; split at hs
  · rename_i x v'
    split at hs
    · rename_i s n h1 h2
      split at hs
      · rename_i hl
        obtain ⟨o1, o2, o3, o4, o5⟩ := hl
        cases hs
        obtain ⟨N, hN⟩ : ∃ N, N = n.cells.length + 1 := ⟨_, rfl⟩
        obtain ⟨l, h', q1, q2⟩ := bF1 (evCall (mkEv Tryz.prog mu0 hkP2) N) (rg Tryz.prog mu0 hkP2 N 62) N x v' s n (decL_inv h1) (netOf_inv h2) (sigChk_ports o1) o2 o3 o4 (by omega) (hP2_of (fun _ _ => rfl) (by omega)) .empty
        obtain ⟨w1, w2⟩ := q2.weak (fun _ => rfl) (fun _ => rfl)
        refine ⟨_, ?_, ?_, ev_ofS shT rfl Tryz.func62 rfl (by kernel_rfl) q1⟩
        · show (freeV l && (true && true)) = true
          rw [w2]; rfl
        · show _ = AV.tup [weakV l, _]
          rw [w1]; rfl
      · cases hs
    · cases hs
  · cases hs
def hF1 (call : CallT) : Prop := ∀ x v s n h, IsSig x s → IsNet v n → okF s n → call (.func 62) [x, v] h = some (.ret (firstV s n), h)
theorem hF1_of {hk : Hooks} {n : Nat} (hk' : ∀ args h, hk 62 args h = hkF1 62 args h) (hn : 0 < n) : hF1 (evCall (mkEv Tryz.prog mu0 hk) n) := fun x v s nt h hx hv ho => ev_hk (by
  rw [hk']
  refine hk_top (by simp [freeL, sig_free hx, net_free hv]) ?_
  show (match sigOf (weakV x), netOf (weakV v) with | some s, some n => if okF s n then some (firstV s n) else none | _, _ => none) = _
  rw [sigOf_of hx, netOf_of hv]; simp only [if_pos ho]) hn
def tab55 : Nat → Option (List Nat) := fun id => match Nat.beq id 999999 with | true => some [] | false => match Nat.beq id 5 with | true => some [0, 1, 2, 3, 4, 5, 6, 7, 8, 9, 10, 11, 12, 13, 14, 15, 16, 17, 18, 19, 20, 21, 22, 23, 24, 25, 26, 27, 28] | false => match Nat.beq id 7 with | true => some [0, 1, 2, 3, 4, 5, 6, 7, 8] | false => none
theorem fits55 : tabFits Tryz.prog (mu0 63) tab55 (codeOf Tryz.f63) = true := by kernel_rfl

theorem firstL_bound {s : List Ag} (hP : ∀ a, 0 ≤ portsN s a ∧ portsN s a ≤ 7) : ∀ (cells : List Int) (a : Int) (i : Nat) (y : Int), (firstL s cells a)[i]? = some y → a ≤ y ∧ y ≤ a + 7 * cells.length
  | [], a, i, y, h => by simp [firstL] at h
  | x :: r, a, 0, y, h => by
    simp only [firstL, List.getElem?_cons_zero, Option.some.injEq] at h
    subst h
    simp only [List.length_cons]; omega
  | x :: r, a, i + 1, y, h => by
    simp only [firstL, List.getElem?_cons_succ] at h
    have := firstL_bound hP r _ i y h
    have := hP x
    simp only [List.length_cons]; omega

theorem bPl (call rgn n) (x v fv pv : AV) (s : List Ag) (nt : Nt) (p : Pt) (hx : IsSig x s) (hv : IsNet v nt) (hfv : IsL fv ((firstL s nt.cells nt.free).map intV)) (hpv : pv = portV p) (ho : okF s nt) (hP2 : hP2 call) (h : AH) :
    ∃ h', B tab55 call rgn n 63 Tryz.f63 [x, v, fv, pv] h = some (.ret (.int .i64 (placeN s nt p)), h') := by
  suffices hq : ∀ Q : Option (AOut × AH) → Prop, (∀ y h', placeN s nt p = y → Q (some (.ret (.int .i64 y), h'))) → Q (B tab55 call rgn n 63 Tryz.f63 [x, v, fv, pv] h) from
    hq (fun y => ∃ h', y = some (.ret (.int .i64 (placeN s nt p)), h')) (fun y h' e => ⟨h', by rw [e]⟩)
  intro Q hQ
  obtain ⟨o1, o2, o3, o4, o5⟩ := ho
  obtain ⟨c, w, rfl, hc, hw⟩ := hv
  obtain ⟨cells, f, wires⟩ := nt
  simp only at hc hw hfv o2 o3 o4 hQ ⊢
  obtain ⟨p1, p2⟩ := p
  have hcs := isL_scalar hc
  have hws := isL_scalar hw
  have u : Tryz.prog.underlying 40 = some (.slice 3) := by kernel_rfl
  have hlc := fun h => len_L (X := ⟨Tryz.prog, mu0, call⟩) (mu := false) (h := h) u hc
  rw [List.length_map] at hlc
  conv => arg 1; whnf
  refine atCall_P (box_new (cs := [c, .int .i64 f, w]) rfl (by simp only [List.all_cons, hcs, hws, List.all_nil]; rfl)) ?_
  generalize hh_h1 : h.alloc (.cells [c, .int .i64 f, w] 43) = h1 at *
  obtain ⟨a_i5, n_i5, k_h1⟩ := alloc_facts hh_h1
  clear hh_h1 k_h1
  generalize hi_i5 : h.next = i5 at *
  clear hi_i5
  conv => arg 1; whnf
  refine atCall_P (box_new (cs := [.int .i64 p1, .int .i64 p2]) (by rw [hpv]; rfl) rfl) ?_
  generalize hh_h2 : h1.alloc (.cells [.int .i64 p1, .int .i64 p2] 65) = h2 at *
  obtain ⟨a_i7, n_i7, k_h2⟩ := alloc_facts hh_h2
  replace a_i5 := k_h2 _ _ a_i5 (by omega)
  clear hh_h2 k_h2
  generalize hi_i7 : h1.next = i7 at *
  clear hi_i7
  have l0 : vOf h2 (aLoad Tryz.prog 3 (.ptr i7 0) h2) = some (.ret (.int .i64 p1), h2) := ld_ptr (n := 1) a_i7 (by kernel_rfl) (by kernel_rfl) rfl
  have l1 : vOf h2 (aLoad Tryz.prog 3 (.ptr i7 1) h2) = some (.ret (.int .i64 p2), h2) := ld_ptr (n := 1) a_i7 (by kernel_rfl) (by kernel_rfl) rfl
  have lf : vOf h2 (aLoad Tryz.prog 3 (.ptr i5 1) h2) = some (.ret (.int .i64 f), h2) := ld_ptr (n := 1) a_i5 (by kernel_rfl) (by kernel_rfl) rfl
  have lc : vOf h2 (aLoad Tryz.prog 40 (.ptr i5 0) h2) = some (.ret c, h2) := ld_ptr (n := 1) a_i5 (by kernel_rfl) (by kernel_rfl) rfl
  conv => arg 1; whnf
  refine atCall_P (l0) ?_
  conv => arg 1; whnf
  cases e0 : (p1 == -1)
  rotate_left
  · have e0' : p1 = -1 := by simpa using e0
    conv => arg 1; whnf
    refine atCall_P (l1) ?_
    conv => arg 1; whnf
    cases e1 : decide (p2 < 0)
    rotate_left
    · conv => arg 1; whnf
      exact atLeave_P (leave_plain (.inl rfl) rfl) (hQ _ _ (by unfold placeN; rw [if_pos e0', if_pos (.inl (by simpa using e1))]))
    conv => arg 1; whnf
    refine atCall_P (l1) ?_
    conv => arg 1; whnf
    refine atCall_P (lf) ?_
    conv => arg 1; whnf
    cases e2 : decide (p2 ≥ f)
    rotate_left
    · conv => arg 1; whnf
      exact atLeave_P (leave_plain (.inl rfl) rfl) (hQ _ _ (by unfold placeN; rw [if_pos e0', if_pos (.inr (by simpa using e2))]))
    conv => arg 1; whnf
    refine atCall_P (l1) ?_
    conv => arg 1; whnf
    exact atLeave_P (leave_plain (.inl rfl) rfl) (hQ _ _ (by unfold placeN; rw [if_pos e0', if_neg (by simp at e1 e2 ⊢; omega)]))
  have e0' : ¬ p1 = -1 := by simpa using e0
  have bad : isPort s cells f (p1, p2) = false → placeN s ⟨cells, f, wires⟩ (p1, p2) = -1 := fun hb => by unfold placeN; rw [if_neg e0', if_pos hb]
  conv => arg 1; whnf
  refine atCall_P (l0) ?_
  conv => arg 1; whnf
  cases e1 : decide (p1 < 0)
  rotate_left
  · conv => arg 1; whnf
    exact atLeave_P (leave_plain (.inl rfl) rfl) (hQ _ _ (bad (by
      have : decide (p1 ≥ 0) = false := by simp at e1 ⊢; omega
      simp only [isPort, e0, this, Bool.false_and, Bool.false_eq_true, if_false])))
  conv => arg 1; whnf
  refine atCall_P (l0) ?_
  conv => arg 1; whnf
  refine atCall_P (lc) ?_
  conv => arg 1; whnf
  refine atCall_P (hlc _) ?_
  conv => arg 1; whnf
  cases e2 : decide (p1 ≥ (cells.length : Int))
  rotate_left
  · conv => arg 1; whnf
    exact atLeave_P (leave_plain (.inl rfl) rfl) (hQ _ _ (bad (by
      have : decide (p1 < (cells.length : Int)) = false := by simp at e2 ⊢; omega
      simp only [isPort, e0, this, Bool.false_and, Bool.and_false, Bool.false_eq_true, if_false])))
  conv => arg 1; whnf
  refine atCall_P (l1) ?_
  conv => arg 1; whnf
  cases e3 : decide (p2 < 0)
  rotate_left
  · conv => arg 1; whnf
    exact atLeave_P (leave_plain (.inl rfl) rfl) (hQ _ _ (bad (by
      have : decide (p2 ≥ 0) = false := by simp at e3 ⊢; omega
      simp only [isPort, e0, this, Bool.false_and, Bool.and_false, Bool.false_eq_true, if_false])))
  obtain ⟨y, y1, y2⟩ := idx_ints (h := h2) (a := p1) hc (by simpa using e1) (by simpa using e2)
  conv => arg 1; whnf
  refine atCall_P (l1) ?_
  conv => arg 1; whnf
  refine atCall_P (lc) ?_
  conv => arg 1; whnf
  refine atCall_P (l0) ?_
  conv => arg 1; whnf
  refine atCall_P (y2) ?_
  conv => arg 1; whnf
  refine atQuiet_P (hP2 x s y h2 hx) ?_
  have hi : isPort s cells f (p1, p2) = decide (p2 < portsN s y) := by
    have a1 : decide (p1 ≥ 0) = true := by simp at e1 ⊢; omega
    have a2 : decide (p1 < (cells.length : Int)) = true := by simp at e2 ⊢; omega
    have a3 : decide (p2 ≥ 0) = true := by simp at e3 ⊢; omega
    simp only [isPort, e0, a1, a2, a3, Bool.true_and, Bool.false_eq_true, if_false, y1]
  conv => arg 1; whnf
  cases e4 : decide (p2 ≥ portsN s y)
  rotate_left
  · conv => arg 1; whnf
    exact atLeave_P (leave_plain (.inl rfl) rfl) (hQ _ _ (bad (by rw [hi]; simp at e4 ⊢; omega)))
  obtain ⟨q0, q7⟩ := sigChk_ports o1 y
  obtain ⟨v, v1, v2⟩ := idx_ints (h := h2) (a := p1) hfv (by simpa using e1) (by rw [firstL_len]; simpa using e2)
  obtain ⟨b1, b2⟩ := firstL_bound (sigChk_ports o1) _ _ _ _ v1
  have hw : IntKind.i64.wrap (v + p2) = v + p2 := wrap_small (by simp at e3; omega) (by simp at e4; omega)
  conv => arg 1; whnf
  refine atCall_P (l0) ?_
  conv => arg 1; whnf
  refine atCall_P (v2) ?_
  conv => arg 1; whnf
  refine atCall_P (l1) ?_
  conv => arg 1; whnf
  refine atLeave_P (leave_plain (.inl rfl) rfl) (hQ _ _ ?_)
  unfold placeN
  rw [if_neg e0', if_neg (by rw [hi]; simp at e4 ⊢; omega), hw, List.getD_eq_getElem?_getD, v1]
  rfl

def sPl : List AV → Option AV
  | [x, v, f, p] => match sigOf x, netOf v, intsOf f, decPort p with
    | some s, some n, some l, some p => if okF s n ∧ l = firstL s n.cells n.free then some (.int .i64 (placeN s n p)) else none
    | _, _, _, _ => none
  | _ => none
def hkPl := addHk hkF1 63 sPl
theorem EPl : EvOK (mkEv Tryz.prog mu0 hkPl) := mkEv_add EF1 fun args v hs => by
  unfold sPl at hs; split at hs
  · rename_i x v' f p
    split at hs
    · rename_i s n l q h1 h2 h3 h4
      split at hs
      · rename_i hl
        obtain ⟨ho, rfl⟩ := hl
        cases hs
        obtain ⟨h', hb⟩ := bPl (evCall (mkEv Tryz.prog mu0 hkF1) 1) (rg Tryz.prog mu0 hkF1 1 63) 1 x v' f p s n q (decL_inv h1) (netOf_inv h2) (decL_inv h3) (decPort_inv h4) ho (hP2_of (fun _ _ => rfl) (by omega)) .empty
        exact ⟨rfl, ev_ofS tab55 rfl Tryz.func63 rfl fits55 hb⟩
      · cases hs
    · cases hs
  · cases hs
def hPl (call : CallT) : Prop := ∀ x v f pv s n p h, IsSig x s → IsNet v n → IsL f ((firstL s n.cells n.free).map intV) → pv = portV p → okF s n → call (.func 63) [x, v, f, pv] h = some (.ret (.int .i64 (placeN s n p)), h)
theorem hPl_of {hk : Hooks} {n : Nat} (hk' : ∀ args h, hk 63 args h = hkPl 63 args h) (hn : 0 < n) : hPl (evCall (mkEv Tryz.prog mu0 hk) n) := fun x v f pv s nt p h hx hv hf hp ho => ev_hk (by
  rw [hk', hp]
  refine hk_top (by simp [freeL, sig_free hx, net_free hv, (intsOf_of hf).2]; rfl) ?_
  show (match sigOf (weakV x), netOf (weakV v), intsOf (weakV f), decPort (portV p) with
    | some s, some n, some l, some p => if okF s n ∧ l = firstL s n.cells n.free then some (AV.int .i64 (placeN s n p)) else none
    | _, _, _, _ => none) = _
  rw [sigOf_of hx, netOf_of hv, (intsOf_of hf).1]
  show (if okF s nt ∧ firstL s nt.cells nt.free = firstL s nt.cells nt.free then some (AV.int .i64 (placeN s nt p)) else none) = _
  rw [if_pos ⟨ho, rfl⟩]) hn

/-! ### All -/

section
variable {i3 : Sk.Id} {c w : AV} {f : Int}

theorem lA0 (call rgn n) (x : AV) (hf1 : f ≤ 1000) {K : KC (AOut × AH)} {Q : Option (AOut × AH) → Prop}
    (hK : ∀ {l : AV} {h : AH} {g1 g2 g4 g6 g7 g8 g9 aA aB aC aD aE aF aG aH aI aJ aK aL aM aN aO aP aQ aR aS aT aU aV aW aX aY aZ bA bB bC bD bE bF bG bH bI : AV}, h.get i3 = some (.cells [c, .int .i64 f, w] 43) → i3.nat < h.next.nat → Grow h l ((freePorts f).map portV) → Q (K (.exit 0) ⟨[x,g1,g2,.ptr i3 0,g4,l,g6,g7,g8,g9,aA,aB,aC,aD,aE,aF,aG,aH,aI,aJ,aK,aL,aM,aN,aO,aP,aQ,aR,aS,aT,aU,aV,aW,aX,aY,aZ,bA,bB,bC,bD,bE,bF,bG,bH,bI], [], h⟩)) :
    ∀ (m i : Nat) {z : Int} {l : AV} {h : AH} {g1 g2 g4 g7 g8 g9 aA aB aC aD aE aF aG aH aI aJ aK aL aM aN aO aP aQ aR aS aT aU aV aW aX aY aZ bA bB bC bD bE bF bG bH bI : AV}, z = i → i ≤ f.toNat → f.toNat - i < m → h.get i3 = some (.cells [c, .int .i64 f, w] 43) → i3.nat < h.next.nat → Grow h l (((List.range' 0 i).map fun (k : Nat) => ((-1 : Int), (k : Int))).map portV) →
    Q (cIter (LB shT call rgn n 64 Tryz.f64 0) m ⟨[x,g1,g2,.ptr i3 0,g4,l,.int .i64 z,g7,g8,g9,aA,aB,aC,aD,aE,aF,aG,aH,aI,aJ,aK,aL,aM,aN,aO,aP,aQ,aR,aS,aT,aU,aV,aW,aX,aY,aZ,bA,bB,bC,bD,bE,bF,bG,bH,bI], [], h⟩ K) := by
  intro m
  induction m with
  | zero => intros; omega
  | succ m ih =>
    intro i z l h g1 g2 g4 g7 g8 g9 aA aB aC aD aE aF aG aH aI aJ aK aL aM aN aO aP aQ aR aS aT aU aV aW aX aY aZ bA bB bC bD bE bF bG bH bI hz hi hm g3 l3 gl
    rw [cIter_succ]
    have lf : vOf h (aLoad Tryz.prog 3 (.ptr i3 1) h) = some (.ret (.int .i64 f), h) := ld_ptr (n := 1) g3 (by kernel_rfl) (by kernel_rfl) rfl
    conv => arg 1; whnf
    refine atCall_P (lf) ?_
    conv => arg 1; whnf
    split
    · rename_i hd
      have hlt : i < f.toNat := by simp at hd; omega
      obtain ⟨l', h2, a1, a2, a3, a4⟩ := ports_app (call := call) (a := (-1, z)) (c := .lit) gl (by simp; omega)
      conv => arg 1; whnf
      refine atCall_P (a1) ?_
      conv => arg 1; whnf
      refine ih (i + 1) (by rw [hz]; exact wrap_succ (by omega)) (by omega) (by omega) (a4 _ _ g3 (notGrp g3) l3) (by omega) ?_
      rw [hz] at a2
      rw [show List.range' 0 (i + 1) = List.range' 0 i ++ [i] by rw [List.range'_concat]; simp, List.map_append]
      exact a2
    · rename_i hd
      have hlt : ¬ i < f.toNat := by simp at hd; omega
      refine hK g3 l3 ?_
      unfold freePorts
      rw [show f.toNat = i by omega]
      exact gl

theorem lA2 (call rgn n) (x : AV) (s : List Ag) (cells : List Int) (hx : IsSig x s) (hc : IsL c (cells.map intV)) (hP : ∀ a, 0 ≤ portsN s a ∧ portsN s a ≤ 7) (hP2 : hP2 call) (i : Nat) (hi : i < cells.length) (W0 : List Pt) (hW0 : W0.length ≤ 100000000) {zi : Int} (hzi : zi = i) {K : KC (AOut × AH)} {Q : Option (AOut × AH) → Prop}
    (hK : ∀ {l : AV} {h : AH} {g1 g2 g4 g6 g8 g9 aA aB aC aD aE aF aG aH aI aJ aK aL aM aN aO aP aQ aR aS aT aU aV aW aX aY aZ bA bB bC bD bE bF bG bH bI : AV}, h.get i3 = some (.cells [c, .int .i64 f, w] 43) → i3.nat < h.next.nat → Grow h l ((W0 ++ cellPorts s i cells[i]).map portV) → Q (K (.exit 4) ⟨[x,g1,g2,.ptr i3 0,g4,l,g6,.int .i64 zi,g8,g9,aA,aB,aC,aD,aE,aF,aG,aH,aI,aJ,aK,aL,aM,aN,aO,aP,aQ,aR,aS,aT,aU,aV,aW,aX,aY,aZ,bA,bB,bC,bD,bE,bF,bG,bH,bI], [], h⟩)) :
    ∀ (m k : Nat) {z : Int} {l : AV} {h : AH} {g1 g2 g4 g6 g9 aA aB aC aD aE aF aG aH aI aJ aK aL aM aN aO aP aQ aR aS aT aU aV aW aX aY aZ bA bB bC bD bE bF bG bH bI : AV}, z = k → k ≤ (portsN s cells[i]).toNat → (portsN s cells[i]).toNat - k < m → h.get i3 = some (.cells [c, .int .i64 f, w] 43) → i3.nat < h.next.nat → Grow h l ((W0 ++ (List.range' 0 k).map fun (k : Nat) => ((i : Int), (k : Int))).map portV) →
    Q (cIter (LB shT call rgn n 64 Tryz.f64 2) m ⟨[x,g1,g2,.ptr i3 0,g4,l,g6,.int .i64 zi,.int .i64 z,g9,aA,aB,aC,aD,aE,aF,aG,aH,aI,aJ,aK,aL,aM,aN,aO,aP,aQ,aR,aS,aT,aU,aV,aW,aX,aY,aZ,bA,bB,bC,bD,bE,bF,bG,bH,bI], [], h⟩ K) := by
  intro m
  induction m with
  | zero => intros; omega
  | succ m ih =>
    intro k z l h g1 g2 g4 g6 g9 aA aB aC aD aE aF aG aH aI aJ aK aL aM aN aO aP aQ aR aS aT aU aV aW aX aY aZ bA bB bC bD bE bF bG bH bI hz hk hm g3 l3 gl
    rw [cIter_succ]
    have lc : vOf h (aLoad Tryz.prog 40 (.ptr i3 0) h) = some (.ret c, h) := ld_ptr (n := 1) g3 (by kernel_rfl) (by kernel_rfl) rfl
    obtain ⟨y, y1, y2⟩ := idx_ints (h := h) (a := zi) hc (by omega) (by omega)
    have hy : y = cells[i] := by
      rw [hzi, Int.toNat_natCast, List.getElem?_eq_getElem hi] at y1
      simpa using y1.symm
    subst hy
    obtain ⟨p0, p7⟩ := hP cells[i]
    conv => arg 1; whnf
    refine atCall_P (lc) ?_
    conv => arg 1; whnf
    refine atCall_P (y2) ?_
    conv => arg 1; whnf
    refine atCall_P (hP2 x s cells[i] h hx) ?_
    conv => arg 1; whnf
    split
    · rename_i hd
      have hlt : k < (portsN s cells[i]).toNat := by simp at hd; omega
      obtain ⟨l', h2, a1, a2, a3, a4⟩ := ports_app (call := call) (a := (zi, z)) (c := .lit) gl (by simp; omega)
      conv => arg 1; whnf
      refine atCall_P (a1) ?_
      conv => arg 1; whnf
      refine ih (k + 1) (by rw [hz]; exact wrap_succ (by omega)) (by omega) (by omega) (a4 _ _ g3 (notGrp g3) l3) (by omega) ?_
      rw [hz, hzi] at a2
      have e : ((List.range' 0 (k + 1)).map fun (k : Nat) => ((i : Int), (k : Int))) = ((List.range' 0 k).map fun (k : Nat) => ((i : Int), (k : Int))) ++ [((i : Int), (k : Int))] := by rw [List.range'_concat]; simp
      rw [e, ← List.append_assoc]
      exact a2
    · rename_i hd
      have hlt : ¬ k < (portsN s cells[i]).toNat := by simp at hd; omega
      refine hK g3 l3 ?_
      unfold cellPorts
      rw [show (portsN s cells[i]).toNat = k by omega]
      exact gl

theorem lA1 (call rgn n) (x : AV) (s : List Ag) (cells : List Int) (hx : IsSig x s) (hc : IsL c (cells.map intV)) (hP : ∀ a, 0 ≤ portsN s a ∧ portsN s a ≤ 7) (hP2 : hP2 call) (hlen : cells.length ≤ 100000) (hn : 7 < n) {R : List Pt} {K : KC (AOut × AH)} {Q : Option (AOut × AH) → Prop}
    (hK : ∀ {l : AV} {h : AH} {g0 g1 g2 g3 g4 g6 g7 g8 g9 aA aB aC aD aE aF aG aH aI aJ aK aL aM aN aO aP aQ aR aS aT aU aV aW aX aY aZ bA bB bC bD bE bF bG bH bI : AV}, IsN portV l R → Q (K (.exit 2) ⟨[g0,g1,g2,g3,g4,l,g6,g7,g8,g9,aA,aB,aC,aD,aE,aF,aG,aH,aI,aJ,aK,aL,aM,aN,aO,aP,aQ,aR,aS,aT,aU,aV,aW,aX,aY,aZ,bA,bB,bC,bD,bE,bF,bG,bH,bI], [], h⟩)) :
    ∀ (m i : Nat) {z : Int} {l : AV} {W : List Pt} {h : AH} {g1 g2 g4 g6 g8 g9 aA aB aC aD aE aF aG aH aI aJ aK aL aM aN aO aP aQ aR aS aT aU aV aW aX aY aZ bA bB bC bD bE bF bG bH bI : AV}, z = i → i ≤ cells.length → cells.length - i < m → W.length ≤ 1000 + 7 * i → h.get i3 = some (.cells [c, .int .i64 f, w] 43) → i3.nat < h.next.nat → Grow h l (W.map portV) → R = W ++ cellsPorts s (cells.drop i) i →
    Q (cIter (LB shT call rgn n 64 Tryz.f64 1) m ⟨[x,g1,g2,.ptr i3 0,g4,l,g6,.int .i64 z,g8,g9,aA,aB,aC,aD,aE,aF,aG,aH,aI,aJ,aK,aL,aM,aN,aO,aP,aQ,aR,aS,aT,aU,aV,aW,aX,aY,aZ,bA,bB,bC,bD,bE,bF,bG,bH,bI], [], h⟩ K) := by
  have u : Tryz.prog.underlying 40 = some (.slice 3) := by kernel_rfl
  have hlc := fun h => len_L (X := ⟨Tryz.prog, mu0, call⟩) (mu := false) (h := h) u hc
  rw [List.length_map] at hlc
  intro m
  induction m with
  | zero => intros; omega
  | succ m ih =>
    intro i z l W h g1 g2 g4 g6 g8 g9 aA aB aC aD aE aF aG aH aI aJ aK aL aM aN aO aP aQ aR aS aT aU aV aW aX aY aZ bA bB bC bD bE bF bG bH bI hz hi hm hW g3 l3 gl hR
    rw [cIter_succ]
    have lc : vOf h (aLoad Tryz.prog 40 (.ptr i3 0) h) = some (.ret c, h) := ld_ptr (n := 1) g3 (by kernel_rfl) (by kernel_rfl) rfl
    conv => arg 1; whnf
    refine atCall_P (lc) ?_
    conv => arg 1; whnf
    refine atCall_P (hlc _) ?_
    conv => arg 1; whnf
    split
    · rename_i hd
      have hlt : i < cells.length := by simp at hd; omega
      have hdrop : cells.drop i = cells[i] :: cells.drop (i + 1) := List.drop_eq_getElem_cons hlt
      rw [hdrop] at hR
      simp only [cellsPorts] at hR
      obtain ⟨p0, p7⟩ := hP cells[i]
      conv => arg 1; whnf
      refine lA2 call rgn n x s cells hx hc hP hP2 i hlt W (by omega) hz ?_ n 0 (z := 0) rfl (Nat.zero_le _) (by omega) g3 l3 (by simpa using gl)
      intro l2 h2
      intros
      rename_i q1 q2 q3
      conv => arg 1; whnf
      refine ih (i + 1) (W := W ++ cellPorts s i cells[i]) (by rw [hz]; exact wrap_succ (by omega)) (by omega) (by omega) (by simp [cellPorts]; omega) q1 q2 q3 (by rw [hR]; simp)
    · rename_i hd
      have hlt : ¬ i < cells.length := by simp at hd; omega
      rw [List.drop_eq_nil_of_le (by omega)] at hR
      simp only [cellsPorts, List.append_nil] at hR
      subst hR
      exact hK (IsN.of_grow gl)
end

theorem bAl (call rgn n) (x v : AV) (s : List Ag) (nt : Nt) (hx : IsSig x s) (hv : IsNet v nt) (ho : okF s nt) (hn : nt.cells.length < n) (hn2 : 1010 < n) (hP2 : hP2 call) (h : AH) :
    ∃ l h', B shT call rgn n 64 Tryz.f64 [x, v] h = some (.ret l, h') ∧ IsN portV l (portsL s nt) := by
  suffices hq : ∀ Q : Option (AOut × AH) → Prop, (∀ l h', IsN portV l (portsL s nt) → Q (some (.ret l, h'))) → Q (B shT call rgn n 64 Tryz.f64 [x, v] h) from
    hq (fun y => ∃ l h', y = some (.ret l, h') ∧ IsN portV l (portsL s nt)) (fun l h' hl => ⟨l, h', rfl, hl⟩)
  intro Q hQ
  obtain ⟨o1, o2, o3, o4, o5⟩ := ho
  obtain ⟨c, w, rfl, hc, hw⟩ := hv
  have hcs := isL_scalar hc
  have hws := isL_scalar hw
  conv => arg 1; whnf
  refine atCall_P (box_new (cs := [c, .int .i64 nt.free, w]) rfl (by simp only [List.all_cons, hcs, hws, List.all_nil]; rfl)) ?_
  generalize hh_h1 : h.alloc (.cells [c, .int .i64 nt.free, w] 43) = h1 at *
  obtain ⟨a_i3, n_i3, k_h1⟩ := alloc_facts hh_h1
  clear hh_h1 k_h1
  generalize hi_i3 : h.next = i3 at *
  clear hi_i3
  conv => arg 1; whnf
  refine lA0 (i3 := i3) (c := c) (w := w) (f := nt.free) call rgn n x o4 ?_ n 0 (z := 0) rfl (Nat.zero_le _) (by omega) a_i3 (by omega) (.inl ⟨rfl, rfl⟩)
  intro l2 h2
  intros
  rename_i q1 q2 q3
  conv => arg 1; whnf
  have hfl : (freePorts nt.free).length ≤ 1000 := by unfold freePorts; simp; omega
  refine lA1 (f := nt.free) (w := w) call rgn n x s nt.cells hx hc (sigChk_ports o1) hP2 o2 (by omega) (R := portsL s nt) ?_ n 0 (z := 0) (W := freePorts nt.free) rfl (Nat.zero_le _) (by omega) (by omega) q1 q2 q3 (by rw [List.drop_zero]; rfl)
  intro l3 h3
  intros
  rename_i hl
  conv => arg 1; whnf
  rcases hl with ⟨rfl, h0⟩ | ⟨c', rfl, h0⟩
  · exact atLeave_P (leave_plain (.inl rfl) rfl) (hQ _ _ (.inl ⟨rfl, h0⟩))
  · exact atLeave_P (leave_plain (.inl rfl) rfl) (hQ _ _ (.inr ⟨c', rfl, h0⟩))

def sAl : List AV → Option AV
  | [x, v] => match sigOf x, netOf v with | some s, some n => if okF s n then some (listW portV (portsL s n)) else none | _, _ => none
  | _ => none
def hkAl := addHk hkPl 64 sAl
theorem EAl : EvOK (mkEv Tryz.prog mu0 hkAl) := mkEv_add3 EPl fun args v hs => by
  unfold sAl at hs; split at hs
  · rename_i x v'
    split at hs
    · rename_i s n h1 h2
      split at hs
      · rename_i ho
        cases hs
        obtain ⟨N, hN⟩ : ∃ N, N = n.cells.length + 2000 := ⟨_, rfl⟩
        obtain ⟨l, h', q1, q2⟩ := bAl (evCall (mkEv Tryz.prog mu0 hkPl) N) (rg Tryz.prog mu0 hkPl N 64) N x v' s n (decL_inv h1) (netOf_inv h2) ho (by omega) (by omega) (hP2_of (fun _ _ => rfl) (by omega)) .empty
        obtain ⟨w1, w2⟩ := q2.weak (fun _ => rfl) (fun _ => rfl)
        exact ⟨l, w2, w1.symm, ev_ofS shT rfl Tryz.func64 rfl (by kernel_rfl) q1⟩
      · cases hs
    · cases hs
  · cases hs
def hAl (call : CallT) : Prop := ∀ x v s n h, IsSig x s → IsNet v n → okF s n → call (.func 64) [x, v] h = some (.ret (listW portV (portsL s n)), h)
theorem hAl_of {hk : Hooks} {n : Nat} (hk' : ∀ args h, hk 64 args h = hkAl 64 args h) (hn : 0 < n) : hAl (evCall (mkEv Tryz.prog mu0 hk) n) := fun x v s nt h hx hv ho => ev_hk (by
  rw [hk']
  refine hk_top (by simp [freeL, sig_free hx, net_free hv]) ?_
  show (match sigOf (weakV x), netOf (weakV v) with | some s, some n => if okF s n then some (listW portV (portsL s n)) else none | _, _ => none) = _
  rw [sigOf_of hx, netOf_of hv]; simp only [if_pos ho]) hn
def wires03 (s : List Ag) (n : Nt) : List Wr → Nat → List Bool → (Int × Int) ⊕ List Bool
  | [], _, L => .inr L
  | w :: r, i, L =>
    if placeN s n (wA w) < 0 ∨ placeN s n (wB w) < 0 then .inl (30, i)
    else if L.getD (placeN s n (wA w)).toNat false = true ∨ L.getD (placeN s n (wB w)).toNat false = true ∨ placeN s n (wA w) = placeN s n (wB w) then .inl (31, i)
    else wires03 s n r (i + 1) ((L.set (placeN s n (wA w)).toNat true).set (placeN s n (wB w)).toNat true)
def open03 : List Bool → Nat → Int × Int
  | [], _ => (0, 0)
  | b :: r, i => if b = false then (32, i) else open03 r (i + 1)
def chk03 (s : List Ag) (n : Nt) : Int × Int :=
  if n.cells.length > 4096 ∨ n.free > 64 then (15, 0)
  else if n.free < 0 then (1, 0)
  else match badCell s.length n.cells 0 with
    | some i => (20, i)
    | none => match wires03 s n n.wires 0 (List.replicate (mostN s n.cells n.free).toNat false) with
      | .inl e => e
      | .inr L => open03 L 0

theorem ms_new {t e : TypeId} {z : AV} {m : Nat} {h : AH} {bs : Nat} (ht : Tryz.prog.underlying t = some (.slice e)) (hn : sizeT Tryz.prog e = some 1) (hz : zeroT Tryz.prog e = some z) (hc : z.cells = [z]) (hs : z.scalar = true) (hbs : Tryz.prog.bytesOf e = bs) (hb : bs ≤ 1000) (hm : m ≤ 1000000000) :
    vhOf (aMakeSlice Tryz.prog t (.int .i64 m) (.int .i64 m) h) = some (.ret (.hsl h.next 0 m (.known m)), h.alloc (.cells (List.replicate m z) e)) := by
  have hf : (List.replicate m z).flatMap AV.cells = List.replicate m z := by
    induction m with
    | zero => rfl
    | succ k ih => rw [List.replicate_succ, List.flatMap_cons, ih (by omega), hc]; rfl
  have h2 : (bs : Int) * (m : Int) ≤ 140737488355328 := by
    have := Nat.mul_le_mul hb hm
    omega
  simp only [aMakeSlice, ht, hn, hz, hbs]
  rw [if_pos ⟨by omega, by omega, by rw [hc]; rfl, by rw [hc]; simp only [List.all_cons, hs, List.all_nil]; rfl, by omega, h2, by omega⟩]
  simp only [vhOf, Int.toNat_natCast, hf]

theorem hix {t e : TypeId} {r : Sk.Id} {m : Nat} {a : Int} {h : AH} (ht : Tryz.prog.underlying t = some (.slice e)) (hn : sizeT Tryz.prog e = some 1) (h0 : 0 ≤ a) (h1 : a < m) : vOf h (aIndexAddr Tryz.prog t (.hsl r 0 m (.known m)) (.int .i64 a)) = some (.ret (.ptr r (0 + a.toNat * 1)), h) := by
  simp only [aIndexAddr, ht, hn]
  rw [if_pos ⟨h0, h1⟩]
  rfl
theorem hld {e : TypeId} {r : Sk.Id} {a : Int} {h : AH} {cs : List AV} {v : AV} (hg : h.get r = some (.cells cs e)) (ha : isAggT Tryz.prog e = some false) (hn : sizeT Tryz.prog e = some 1) (hv : cs[a.toNat]? = some v) : vOf h (aLoad Tryz.prog e (.ptr r (0 + a.toNat * 1)) h) = some (.ret v, h) :=
  ld_ptr (n := 1) hg ha hn (by rw [Nat.mul_one, Nat.zero_add]; exact hv)
theorem hst {e : TypeId} {r : Sk.Id} {a : Int} {h : AH} {cs : List AV} {v : AV} (hg : h.get r = some (.cells cs e)) (hn : sizeT Tryz.prog e = some 1) (hc : v.cells = [v]) (hs : v.scalar = true) (hl : a.toNat < cs.length) : hOf (aStore Tryz.prog e (.ptr r (0 + a.toNat * 1)) v h) = some (.ret undefA, h.set r (.cells (cs.set a.toNat v) e)) := by
  rw [st_ptr (n := 1) hg hn (by rw [hc]; rfl) (by omega) (by rw [hc]; simp [hs]), hc]
  rw [Nat.mul_one, Nat.zero_add]
  rfl

def tab21 : Nat → Option (List Nat) := fun id => match Nat.beq id 999999 with | true => some [] | false => match Nat.beq id 18 with | true => some [0, 1, 2, 3, 4, 5, 6, 7, 8, 9, 10] | false => match Nat.beq id 19 with | true => some [0, 1, 2, 3, 4, 5, 6, 7, 8, 9, 10] | false => none
theorem fits21 : tabFits Tryz.prog (mu0 22) tab21 (codeOf Tryz.f22) = true := by kernel_rfl

section
variable {i3 r : Sk.Id} {c w : AV} {f : Int}

theorem lC0 (call rgn n) (x : AV) (s : List Ag) (cells : List Int) (hx : IsSig x s) (hc : IsL c (cells.map intV)) (hlen : cells.length ≤ 4096) {h : AH} (g3 : h.get i3 = some (.cells [c, .int .i64 f, w] 43)) {K : KC (AOut × AH)} {Q : Option (AOut × AH) → Prop}
    (hR : ∀ i : Nat, badCell s.length cells 0 = some i → ∀ {g0 g1 g2 g3 g6 g7 g8 g9 aA aB aC aD aE aF aG aH aI aJ aK aL aM aN aO aP aQ aR aS aT aU aV aW aX aY aZ bA bB bC bD bE bF bG bH bI bJ bK bL bM bN bO bP bQ bR bS bT bU bV bW bX bY bZ cA cB cC cD cE cF cG cH cI cJ cK cL cM cN cO cP cQ cS cT cU cV cW cX cY cZ dA dB dC dD dE dF dG dH dI dJ dK dL dM dN dO dP dQ dR dS dT dU dV dW dX dY dZ eA eB eC eD eE eF eG eH eI eJ eK eL eM eN eO eP eQ eR eS eT eU eV eW : AV}, Q (K .ret ⟨[g0,g1,g2,g3,.int .i64 20,.int .i64 i,g6,g7,g8,g9,aA,aB,aC,aD,aE,aF,aG,aH,aI,aJ,aK,aL,aM,aN,aO,aP,aQ,aR,aS,aT,aU,aV,aW,aX,aY,aZ,bA,bB,bC,bD,bE,bF,bG,bH,bI,bJ,bK,bL,bM,bN,bO,bP,bQ,bR,bS,bT,bU,bV,bW,bX,bY,bZ,cA,cB,cC,cD,cE,cF,cG,cH,cI,cJ,cK,cL,cM,cN,cO,cP,cQ,cS,cT,cU,cV,cW,cX,cY,cZ,dA,dB,dC,dD,dE,dF,dG,dH,dI,dJ,dK,dL,dM,dN,dO,dP,dQ,dR,dS,dT,dU,dV,dW,dX,dY,dZ,eA,eB,eC,eD,eE,eF,eG,eH,eI,eJ,eK,eL,eM,eN,eO,eP,eQ,eR,eS,eT,eU,eV,eW], [], h⟩))
    (hK : badCell s.length cells 0 = none → ∀ {g1 g2 g4 g5 g6 g7 g8 g9 aA aB aC aD aE aF aG aH aI aJ aK aL aM aN aO aP aQ aR aS aT aU aV aW aX aY aZ bA bB bC bD bE bF bG bH bI bJ bK bL bM bN bO bP bQ bR bS bT bU bV bW bX bY bZ cA cB cC cD cE cF cG cH cI cJ cK cL cM cN cO cP cQ cS cT cU cV cW cX cY cZ dA dB dC dD dE dF dG dH dI dJ dK dL dM dN dO dP dQ dR dS dT dU dV dW dX dY dZ eA eB eC eD eE eF eG eH eI eJ eK eL eM eN eO eP eQ eR eS eT eU eV eW : AV}, Q (K (.exit 0) ⟨[x,g1,g2,.ptr i3 0,g4,g5,g6,g7,g8,g9,aA,aB,aC,aD,aE,aF,aG,aH,aI,aJ,aK,aL,aM,aN,aO,aP,aQ,aR,aS,aT,aU,aV,aW,aX,aY,aZ,bA,bB,bC,bD,bE,bF,bG,bH,bI,bJ,bK,bL,bM,bN,bO,bP,bQ,bR,bS,bT,bU,bV,bW,bX,bY,bZ,cA,cB,cC,cD,cE,cF,cG,cH,cI,cJ,cK,cL,cM,cN,cO,cP,cQ,cS,cT,cU,cV,cW,cX,cY,cZ,dA,dB,dC,dD,dE,dF,dG,dH,dI,dJ,dK,dL,dM,dN,dO,dP,dQ,dR,dS,dT,dU,dV,dW,dX,dY,dZ,eA,eB,eC,eD,eE,eF,eG,eH,eI,eJ,eK,eL,eM,eN,eO,eP,eQ,eR,eS,eT,eU,eV,eW], [], h⟩)) :
    ∀ (m i : Nat) {z : Int} {g1 g2 g4 g5 g6 g7 g9 aA aB aC aD aE aF aG aH aI aJ aK aL aM aN aO aP aQ aR aS aT aU aV aW aX aY aZ bA bB bC bD bE bF bG bH bI bJ bK bL bM bN bO bP bQ bR bS bT bU bV bW bX bY bZ cA cB cC cD cE cF cG cH cI cJ cK cL cM cN cO cP cQ cS cT cU cV cW cX cY cZ dA dB dC dD dE dF dG dH dI dJ dK dL dM dN dO dP dQ dR dS dT dU dV dW dX dY dZ eA eB eC eD eE eF eG eH eI eJ eK eL eM eN eO eP eQ eR eS eT eU eV eW : AV}, z = i → i ≤ cells.length → cells.length - i < m → badCell s.length cells 0 = badCell s.length (cells.drop i) i →
    Q (cIter (LB tab21 call rgn n 22 Tryz.f22 0) m ⟨[x,g1,g2,.ptr i3 0,g4,g5,g6,g7,.int .i64 z,g9,aA,aB,aC,aD,aE,aF,aG,aH,aI,aJ,aK,aL,aM,aN,aO,aP,aQ,aR,aS,aT,aU,aV,aW,aX,aY,aZ,bA,bB,bC,bD,bE,bF,bG,bH,bI,bJ,bK,bL,bM,bN,bO,bP,bQ,bR,bS,bT,bU,bV,bW,bX,bY,bZ,cA,cB,cC,cD,cE,cF,cG,cH,cI,cJ,cK,cL,cM,cN,cO,cP,cQ,cS,cT,cU,cV,cW,cX,cY,cZ,dA,dB,dC,dD,dE,dF,dG,dH,dI,dJ,dK,dL,dM,dN,dO,dP,dQ,dR,dS,dT,dU,dV,dW,dX,dY,dZ,eA,eB,eC,eD,eE,eF,eG,eH,eI,eJ,eK,eL,eM,eN,eO,eP,eQ,eR,eS,eT,eU,eV,eW], [], h⟩ K) := by
  have u : Tryz.prog.underlying 40 = some (.slice 3) := by kernel_rfl
  have us : Tryz.prog.underlying 22 = some (.slice 63) := by kernel_rfl
  have hlc := fun h => len_L (X := ⟨Tryz.prog, mu0, call⟩) (mu := false) (h := h) u hc
  have hls := fun h => len_L (X := ⟨Tryz.prog, mu0, call⟩) (mu := false) (h := h) us hx
  rw [List.length_map] at hlc hls
  have lc : vOf h (aLoad Tryz.prog 40 (.ptr i3 0) h) = some (.ret c, h) := ld_ptr (n := 1) g3 (by kernel_rfl) (by kernel_rfl) rfl
  intro m
  induction m with
  | zero => intros; omega
  | succ m ih =>
    intro i z g1 g2 g4 g5 g6 g7 g9 aA aB aC aD aE aF aG aH aI aJ aK aL aM aN aO aP aQ aR aS aT aU aV aW aX aY aZ bA bB bC bD bE bF bG bH bI bJ bK bL bM bN bO bP bQ bR bS bT bU bV bW bX bY bZ cA cB cC cD cE cF cG cH cI cJ cK cL cM cN cO cP cQ cS cT cU cV cW cX cY cZ dA dB dC dD dE dF dG dH dI dJ dK dL dM dN dO dP dQ dR dS dT dU dV dW dX dY dZ eA eB eC eD eE eF eG eH eI eJ eK eL eM eN eO eP eQ eR eS eT eU eV eW hz hi hm hB
    rw [cIter_succ]
    conv => arg 1; whnf
    refine atCall_P (lc) ?_
    conv => arg 1; whnf
    refine atCall_P (hlc _) ?_
    conv => arg 1; whnf
    split
    · rename_i hd
      have hlt : i < cells.length := by simp at hd; omega
      have hdrop : cells.drop i = cells[i] :: cells.drop (i + 1) := List.drop_eq_getElem_cons hlt
      rw [hdrop] at hB
      simp only [badCell] at hB
      obtain ⟨y, y1, y2⟩ := idx_ints (h := h) (a := z) hc (by omega) (by omega)
      have hy : y = cells[i] := by
        rw [hz, Int.toNat_natCast, List.getElem?_eq_getElem hlt] at y1
        simpa using y1.symm
      rw [← hy] at hB
      conv => arg 1; whnf
      refine atCall_P (lc) ?_
      conv => arg 1; whnf
      refine atCall_P (y2) ?_
      conv => arg 1; whnf
      cases e1 : decide (y < 0)
      · conv => arg 1; whnf
        refine atCall_P (lc) ?_
        conv => arg 1; whnf
        refine atCall_P (y2) ?_
        conv => arg 1; whnf
        refine atCall_P (hls _) ?_
        conv => arg 1; whnf
        cases e2 : decide (y ≥ (s.length : Int))
        · rw [if_neg (by simp at e1 e2 ⊢; omega)] at hB
          conv => arg 1; whnf
          exact ih (i + 1) (by rw [hz]; exact wrap_succ (by omega)) (by omega) (by omega) hB
        · rw [if_pos (.inr (by simpa using e2))] at hB
          rw [hz]
          conv => arg 1; whnf
          exact hR i hB
      · rw [if_pos (.inl (by simpa using e1))] at hB
        rw [hz]
        conv => arg 1; whnf
        exact hR i hB
    · rename_i hd
      have hlt : ¬ i < cells.length := by simp at hd; omega
      rw [List.drop_eq_nil_of_le (by omega)] at hB
      simp only [badCell] at hB
      exact hK hB

theorem lC1 (call rgn n) (x fv : AV) (s : List Ag) (nt : Nt) (hx : IsSig x s) (hc : IsL c (nt.cells.map intV)) (hw : IsL w (nt.wires.map wireV)) (hff : f = nt.free) (hfv : IsL fv ((firstL s nt.cells nt.free).map intV)) (ho : okF s nt) (hPl : hPl call) (m0 : Nat) (hm0 : ∀ p, 0 ≤ placeN s nt p → placeN s nt p < m0) (hne : i3 ≠ r) {T : (Int × Int) ⊕ List Bool} {K : KC (AOut × AH)} {Q : Option (AOut × AH) → Prop}
    (hR : ∀ e a : Int, T = .inl (e, a) → ∀ {h : AH} {g0 g1 g2 g3 g6 g7 g8 g9 aA aB aC aD aE aF aG aH aI aJ aK aL aM aN aO aP aQ aR aS aT aU aV aW aX aY aZ bA bB bC bD bE bF bG bH bI bJ bK bL bM bN bO bP bQ bR bS bT bU bV bW bX bY bZ cA cB cC cD cE cF cG cH cI cJ cK cL cM cN cO cP cQ cS cT cU cV cW cX cY cZ dA dB dC dD dE dF dG dH dI dJ dK dL dM dN dO dP dQ dR dS dT dU dV dW dX dY dZ eA eB eC eD eE eF eG eH eI eJ eK eL eM eN eO eP eQ eR eS eT eU eV eW : AV}, Q (K .ret ⟨[g0,g1,g2,g3,.int .i64 e,.int .i64 a,g6,g7,g8,g9,aA,aB,aC,aD,aE,aF,aG,aH,aI,aJ,aK,aL,aM,aN,aO,aP,aQ,aR,aS,aT,aU,aV,aW,aX,aY,aZ,bA,bB,bC,bD,bE,bF,bG,bH,bI,bJ,bK,bL,bM,bN,bO,bP,bQ,bR,bS,bT,bU,bV,bW,bX,bY,bZ,cA,cB,cC,cD,cE,cF,cG,cH,cI,cJ,cK,cL,cM,cN,cO,cP,cQ,cS,cT,cU,cV,cW,cX,cY,cZ,dA,dB,dC,dD,dE,dF,dG,dH,dI,dJ,dK,dL,dM,dN,dO,dP,dQ,dR,dS,dT,dU,dV,dW,dX,dY,dZ,eA,eB,eC,eD,eE,eF,eG,eH,eI,eJ,eK,eL,eM,eN,eO,eP,eQ,eR,eS,eT,eU,eV,eW], [], h⟩))
    (hK : ∀ L : List Bool, T = .inr L → L.length = m0 → ∀ {h : AH} {g0 g1 g2 g3 g4 g5 g6 g7 g8 g9 aC aD aE aF aG aH aI aJ aK aL aM aN aO aP aQ aR aS aT aU aV aW aX aY aZ bA bB bC bD bE bF bG bH bI bJ bK bL bM bN bO bP bQ bR bS bT bU bV bW bX bY bZ cA cB cC cD cE cF cG cH cI cJ cK cL cM cN cO cP cQ cS cT cU cV cW cX cY cZ dA dB dC dD dE dF dG dH dI dJ dK dL dM dN dO dP dQ dR dS dT dU dV dW dX dY dZ eA eB eC eD eE eF eG eH eI eJ eK eL eM eN eO eP eQ eR eS eT eU eV eW : AV}, h.get r = some (.cells (L.map AV.bool) 4) → Q (K (.exit 2) ⟨[g0,g1,g2,g3,g4,g5,g6,g7,g8,g9,.int .i64 m0,.hsl r 0 m0 (.known m0),aC,aD,aE,aF,aG,aH,aI,aJ,aK,aL,aM,aN,aO,aP,aQ,aR,aS,aT,aU,aV,aW,aX,aY,aZ,bA,bB,bC,bD,bE,bF,bG,bH,bI,bJ,bK,bL,bM,bN,bO,bP,bQ,bR,bS,bT,bU,bV,bW,bX,bY,bZ,cA,cB,cC,cD,cE,cF,cG,cH,cI,cJ,cK,cL,cM,cN,cO,cP,cQ,cS,cT,cU,cV,cW,cX,cY,cZ,dA,dB,dC,dD,dE,dF,dG,dH,dI,dJ,dK,dL,dM,dN,dO,dP,dQ,dR,dS,dT,dU,dV,dW,dX,dY,dZ,eA,eB,eC,eD,eE,eF,eG,eH,eI,eJ,eK,eL,eM,eN,eO,eP,eQ,eR,eS,eT,eU,eV,eW], [], h⟩)) :
    ∀ (m i : Nat) {z : Int} {L : List Bool} {h : AH} {g1 g2 g4 g5 g6 g7 g8 aD aE aF aG aH aI aJ aK aL aM aN aO aP aQ aR aS aT aU aV aW aX aY aZ bA bB bC bD bE bF bG bH bI bJ bK bL bM bN bO bP bQ bR bS bT bU bV bW bX bY bZ cA cB cC cD cE cF cG cH cI cJ cK cL cM cN cO cP cQ cS cT cU cV cW cX cY cZ dA dB dC dD dE dF dG dH dI dJ dK dL dM dN dO dP dQ dR dS dT dU dV dW dX dY dZ eA eB eC eD eE eF eG eH eI eJ eK eL eM eN eO eP eQ eR eS eT eU eV eW : AV}, z = i → i ≤ nt.wires.length → nt.wires.length - i < m → L.length = m0 → h.get i3 = some (.cells [c, .int .i64 f, w] 43) → h.get r = some (.cells (L.map AV.bool) 4) → T = wires03 s nt (nt.wires.drop i) i L →
    Q (cIter (LB tab21 call rgn n 22 Tryz.f22 1) m ⟨[x,g1,g2,.ptr i3 0,g4,g5,g6,g7,g8,fv,.int .i64 m0,.hsl r 0 m0 (.known m0),.int .i64 z,aD,aE,aF,aG,aH,aI,aJ,aK,aL,aM,aN,aO,aP,aQ,aR,aS,aT,aU,aV,aW,aX,aY,aZ,bA,bB,bC,bD,bE,bF,bG,bH,bI,bJ,bK,bL,bM,bN,bO,bP,bQ,bR,bS,bT,bU,bV,bW,bX,bY,bZ,cA,cB,cC,cD,cE,cF,cG,cH,cI,cJ,cK,cL,cM,cN,cO,cP,cQ,cS,cT,cU,cV,cW,cX,cY,cZ,dA,dB,dC,dD,dE,dF,dG,dH,dI,dJ,dK,dL,dM,dN,dO,dP,dQ,dR,dS,dT,dU,dV,dW,dX,dY,dZ,eA,eB,eC,eD,eE,eF,eG,eH,eI,eJ,eK,eL,eM,eN,eO,eP,eQ,eR,eS,eT,eU,eV,eW], [], h⟩ K) := by
  have u : Tryz.prog.underlying 41 = some (.slice 67) := by kernel_rfl
  have ub : Tryz.prog.underlying 98 = some (.slice 4) := by kernel_rfl
  have hlw := fun h => len_L (X := ⟨Tryz.prog, mu0, call⟩) (mu := false) (h := h) u hw
  rw [List.length_map] at hlw
  have hv : IsNet (.agg [c, .int .i64 f, w]) nt := ⟨c, w, by rw [hff], hc, hw⟩
  obtain ⟨o1, o2, o3, o4, o5⟩ := id ho
  intro m
  induction m with
  | zero => intros; omega
  | succ m ih =>
    intro i z L h g1 g2 g4 g5 g6 g7 g8 aD aE aF aG aH aI aJ aK aL aM aN aO aP aQ aR aS aT aU aV aW aX aY aZ bA bB bC bD bE bF bG bH bI bJ bK bL bM bN bO bP bQ bR bS bT bU bV bW bX bY bZ cA cB cC cD cE cF cG cH cI cJ cK cL cM cN cO cP cQ cS cT cU cV cW cX cY cZ dA dB dC dD dE dF dG dH dI dJ dK dL dM dN dO dP dQ dR dS dT dU dV dW dX dY dZ eA eB eC eD eE eF eG eH eI eJ eK eL eM eN eO eP eQ eR eS eT eU eV eW hz hi hm hL g3 gr hT
    rw [cIter_succ]
    have lw : ∀ h, h.get i3 = some (.cells [c, .int .i64 f, w] 43) → vOf h (aLoad Tryz.prog 41 (.ptr i3 2) h) = some (.ret w, h) := fun h g => ld_ptr (n := 1) g (by kernel_rfl) (by kernel_rfl) rfl
    have ln : vOf h (aLoad Tryz.prog 43 (.ptr i3 0) h) = some (.ret (.agg [c, .int .i64 f, w]), h) := ld_agg (n := 3) g3 (by kernel_rfl) (by kernel_rfl) (by simp)
    conv => arg 1; whnf
    refine atCall_P (lw h g3) ?_
    conv => arg 1; whnf
    refine atCall_P (hlw _) ?_
    conv => arg 1; whnf
    split
    · rename_i hd
      have hlt : i < nt.wires.length := by simp at hd; omega
      have hdrop : nt.wires.drop i = nt.wires[i] :: nt.wires.drop (i + 1) := List.drop_eq_getElem_cons hlt
      have hg : (nt.wires.map wireV)[i]? = some (wireV nt.wires[i]) := by rw [List.getElem?_map, List.getElem?_eq_getElem hlt]; rfl
      have hidx := fun h => idx_L (P := Tryz.prog) (t := 41) (e := 67) (n := 4) (h := h) (k := .i64) u (by kernel_rfl) hw hz hg rfl
      have hz' : IntKind.i64.wrap (z + 1) = ((i + 1 : Nat) : Int) := by rw [hz]; exact wrap_succ (by omega)
      rw [hdrop] at hT
      simp only [wires03] at hT
      generalize nt.wires[i] = ww at hidx hT
      obtain ⟨wa, wb, wc, wd⟩ := ww
      have pA := hPl x (.agg [c, .int .i64 f, w]) fv (portV (wa, wb)) s nt (wa, wb) h hx hv hfv rfl ho
      have pB := hPl x (.agg [c, .int .i64 f, w]) fv (portV (wc, wd)) s nt (wc, wd) h hx hv hfv rfl ho
      have mA := hm0 (wa, wb)
      have mB := hm0 (wc, wd)
      rw [show wA (wa, wb, wc, wd) = (wa, wb) from rfl, show wB (wa, wb, wc, wd) = (wc, wd) from rfl] at hT
      generalize placeN s nt (wa, wb) = a at pA mA hT
      generalize placeN s nt (wc, wd) = b at pB mB hT
      conv => arg 1; whnf
      refine atCall_P (ln) ?_
      conv => arg 1; whnf
      refine atCall_P (lw h g3) ?_
      conv => arg 1; whnf
      refine atCall_P (hidx _) ?_
      conv => arg 1; whnf
      refine atQuiet_P pA ?_
      conv => arg 1; whnf
      refine atCall_P (ln) ?_
      conv => arg 1; whnf
      refine atCall_P (lw h g3) ?_
      conv => arg 1; whnf
      refine atCall_P (hidx _) ?_
      conv => arg 1; whnf
      refine atQuiet_P pB ?_
      conv => arg 1; whnf
      cases e1 : decide (a < 0)
      rotate_left
      · rw [if_pos (.inl (by simpa using e1))] at hT
        rw [hz]
        conv => arg 1; whnf
        exact hR _ _ hT
      conv => arg 1; whnf
      cases e2 : decide (b < 0)
      rotate_left
      · rw [if_pos (.inr (by simpa using e2))] at hT
        rw [hz]
        conv => arg 1; whnf
        exact hR _ _ hT
      have a0 : 0 ≤ a := by simpa using e1
      have b0 : 0 ≤ b := by simpa using e2
      have am := mA a0
      have bm := mB b0
      rw [if_neg (by omega)] at hT
      have La : L[a.toNat]? = some (L.getD a.toNat false) := by rw [List.getD_eq_getElem?_getD, List.getElem?_eq_getElem (by omega)]; rfl
      have Lb : L[b.toNat]? = some (L.getD b.toNat false) := by rw [List.getD_eq_getElem?_getD, List.getElem?_eq_getElem (by omega)]; rfl
      have ia := fun h => hix (r := r) (m := m0) (a := a) (h := h) ub (by kernel_rfl) a0 am
      have ib := fun h => hix (r := r) (m := m0) (a := b) (h := h) ub (by kernel_rfl) b0 bm
      have la := hld (a := a) (v := .bool (L.getD a.toNat false)) gr (by kernel_rfl) (by kernel_rfl) (by rw [List.getElem?_map, La]; rfl)
      have lb := hld (a := b) (v := .bool (L.getD b.toNat false)) gr (by kernel_rfl) (by kernel_rfl) (by rw [List.getElem?_map, Lb]; rfl)
      conv => arg 1; whnf
      refine atCall_P (ia _) ?_
      conv => arg 1; whnf
      refine atCall_P (la) ?_
      conv => arg 1; whnf
      cases e3 : L.getD a.toNat false
      rotate_left
      · rw [if_pos (.inl e3)] at hT
        rw [hz]
        conv => arg 1; whnf
        exact hR _ _ hT
      conv => arg 1; whnf
      refine atCall_P (ib _) ?_
      conv => arg 1; whnf
      refine atCall_P (lb) ?_
      conv => arg 1; whnf
      cases e4 : L.getD b.toNat false
      rotate_left
      · rw [if_pos (.inr (.inl e4))] at hT
        rw [hz]
        conv => arg 1; whnf
        exact hR _ _ hT
      conv => arg 1; whnf
      cases e5 : (a == b)
      rotate_left
      · rw [if_pos (.inr (.inr (by simpa using e5)))] at hT
        rw [hz]
        conv => arg 1; whnf
        exact hR _ _ hT
      rw [if_neg (by rw [e3, e4]; simpa using e5)] at hT
      have s1 := hst (a := a) (v := .bool true) gr (by kernel_rfl) rfl rfl (by simp; omega)
      have hm1 : (L.map AV.bool).set a.toNat (.bool true) = (L.set a.toNat true).map AV.bool := by rw [List.map_set]
      rw [hm1] at s1
      conv => arg 1; whnf
      refine atCall_P (ia _) ?_
      conv => arg 1; whnf
      refine atCall_P (s1) ?_
      have g3' : (h.set r (.cells ((L.set a.toNat true).map AV.bool) 4)).get i3 = some (.cells [c, .int .i64 f, w] 43) := by rw [AH.get_set, if_neg hne]; exact g3
      have gr' : (h.set r (.cells ((L.set a.toNat true).map AV.bool) 4)).get r = some (.cells ((L.set a.toNat true).map AV.bool) 4) := by rw [AH.get_set, if_pos rfl]
      generalize h.set r (.cells ((L.set a.toNat true).map AV.bool) 4) = h2 at g3' gr' ⊢
      have s2 := hst (a := b) (v := .bool true) gr' (by kernel_rfl) rfl rfl (by simp; omega)
      have hm2 : ((L.set a.toNat true).map AV.bool).set b.toNat (.bool true) = ((L.set a.toNat true).set b.toNat true).map AV.bool := by rw [← List.map_set]
      rw [hm2] at s2
      conv => arg 1; whnf
      refine atCall_P (ib _) ?_
      conv => arg 1; whnf
      refine atCall_P (s2) ?_
      conv => arg 1; whnf
      exact ih (i + 1) hz' (by omega) (by omega) (by simp; omega) (by rw [AH.get_set, if_neg hne]; exact g3') (by rw [AH.get_set, if_pos rfl]) hT
    · rename_i hd
      have hlt : ¬ i < nt.wires.length := by simp at hd; omega
      rw [List.drop_eq_nil_of_le (by omega)] at hT
      simp only [wires03] at hT
      exact hK L hT hL gr

theorem lC2 (call rgn n) (m0 : Nat) (hm0 : m0 ≤ 1000000000) (L : List Bool) (hL : L.length = m0) {h : AH} (gr : h.get r = some (.cells (L.map AV.bool) 4)) {T : Int × Int} {K : KC (AOut × AH)} {Q : Option (AOut × AH) → Prop}
    (hR : ∀ e a : Int, T = (e, a) → ∀ {g0 g1 g2 g3 g6 g7 g8 g9 aA aB aC aD aE aF aG aH aI aJ aK aL aM aN aO aP aQ aR aS aT aU aV aW aX aY aZ bA bB bC bD bE bF bG bH bI bJ bK bL bM bN bO bP bQ bR bS bT bU bV bW bX bY bZ cA cB cC cD cE cF cG cH cI cJ cK cL cM cN cO cP cQ cS cT cU cV cW cX cY cZ dA dB dC dD dE dF dG dH dI dJ dK dL dM dN dO dP dQ dR dS dT dU dV dW dX dY dZ eA eB eC eD eE eF eG eH eI eJ eK eL eM eN eO eP eQ eR eS eT eU eV eW : AV}, Q (K .ret ⟨[g0,g1,g2,g3,.int .i64 e,.int .i64 a,g6,g7,g8,g9,aA,aB,aC,aD,aE,aF,aG,aH,aI,aJ,aK,aL,aM,aN,aO,aP,aQ,aR,aS,aT,aU,aV,aW,aX,aY,aZ,bA,bB,bC,bD,bE,bF,bG,bH,bI,bJ,bK,bL,bM,bN,bO,bP,bQ,bR,bS,bT,bU,bV,bW,bX,bY,bZ,cA,cB,cC,cD,cE,cF,cG,cH,cI,cJ,cK,cL,cM,cN,cO,cP,cQ,cS,cT,cU,cV,cW,cX,cY,cZ,dA,dB,dC,dD,dE,dF,dG,dH,dI,dJ,dK,dL,dM,dN,dO,dP,dQ,dR,dS,dT,dU,dV,dW,dX,dY,dZ,eA,eB,eC,eD,eE,eF,eG,eH,eI,eJ,eK,eL,eM,eN,eO,eP,eQ,eR,eS,eT,eU,eV,eW], [], h⟩))
    (hK : T = (0, 0) → ∀ {g0 g1 g2 g3 g4 g5 g6 g7 g8 g9 aA aB aC aD aE aF aG aH aI aJ aK aL aM aN aO aP aQ aR aS aT aU aV aW aX aY aZ bA bB bC bD bE bF bG bH bI bJ bK bL bM bN bO bP bQ bR bS bT bU bV bW bX bY bZ cA cB cC cD cE cF cG cH cI cJ cK cL cM cN cO cP cQ cS cT cU cV cW cX cY cZ dA dB dC dD dE dF dG dH dI dJ dK dL dM dN dO dP dQ dR dS dT dU dV dW dX dY dZ eA eB eC eD eE eF eG eH eI eJ eK eL eM eN eO eP eQ eR eS eT eU eV eW : AV}, Q (K (.exit 4) ⟨[g0,g1,g2,g3,g4,g5,g6,g7,g8,g9,aA,aB,aC,aD,aE,aF,aG,aH,aI,aJ,aK,aL,aM,aN,aO,aP,aQ,aR,aS,aT,aU,aV,aW,aX,aY,aZ,bA,bB,bC,bD,bE,bF,bG,bH,bI,bJ,bK,bL,bM,bN,bO,bP,bQ,bR,bS,bT,bU,bV,bW,bX,bY,bZ,cA,cB,cC,cD,cE,cF,cG,cH,cI,cJ,cK,cL,cM,cN,cO,cP,cQ,cS,cT,cU,cV,cW,cX,cY,cZ,dA,dB,dC,dD,dE,dF,dG,dH,dI,dJ,dK,dL,dM,dN,dO,dP,dQ,dR,dS,dT,dU,dV,dW,dX,dY,dZ,eA,eB,eC,eD,eE,eF,eG,eH,eI,eJ,eK,eL,eM,eN,eO,eP,eQ,eR,eS,eT,eU,eV,eW], [], h⟩)) :
    ∀ (m i : Nat) {z : Int} {g0 g1 g2 g3 g4 g5 g6 g7 g8 g9 aC aD aE aG aH aI aJ aK aL aM aN aO aP aQ aR aS aT aU aV aW aX aY aZ bA bB bC bD bE bF bG bH bI bJ bK bL bM bN bO bP bQ bR bS bT bU bV bW bX bY bZ cA cB cC cD cE cF cG cH cI cJ cK cL cM cN cO cP cQ cS cT cU cV cW cX cY cZ dA dB dC dD dE dF dG dH dI dJ dK dL dM dN dO dP dQ dR dS dT dU dV dW dX dY dZ eA eB eC eD eE eF eG eH eI eJ eK eL eM eN eO eP eQ eR eS eT eU eV eW : AV}, z = i → i ≤ L.length → L.length - i < m → T = open03 (L.drop i) i →
    Q (cIter (LB tab21 call rgn n 22 Tryz.f22 2) m ⟨[g0,g1,g2,g3,g4,g5,g6,g7,g8,g9,.int .i64 m0,.hsl r 0 m0 (.known m0),aC,aD,aE,.int .i64 z,aG,aH,aI,aJ,aK,aL,aM,aN,aO,aP,aQ,aR,aS,aT,aU,aV,aW,aX,aY,aZ,bA,bB,bC,bD,bE,bF,bG,bH,bI,bJ,bK,bL,bM,bN,bO,bP,bQ,bR,bS,bT,bU,bV,bW,bX,bY,bZ,cA,cB,cC,cD,cE,cF,cG,cH,cI,cJ,cK,cL,cM,cN,cO,cP,cQ,cS,cT,cU,cV,cW,cX,cY,cZ,dA,dB,dC,dD,dE,dF,dG,dH,dI,dJ,dK,dL,dM,dN,dO,dP,dQ,dR,dS,dT,dU,dV,dW,dX,dY,dZ,eA,eB,eC,eD,eE,eF,eG,eH,eI,eJ,eK,eL,eM,eN,eO,eP,eQ,eR,eS,eT,eU,eV,eW], [], h⟩ K) := by
  have ub : Tryz.prog.underlying 98 = some (.slice 4) := by kernel_rfl
  intro m
  induction m with
  | zero => intros; omega
  | succ m ih =>
    intro i z g0 g1 g2 g3 g4 g5 g6 g7 g8 g9 aC aD aE aG aH aI aJ aK aL aM aN aO aP aQ aR aS aT aU aV aW aX aY aZ bA bB bC bD bE bF bG bH bI bJ bK bL bM bN bO bP bQ bR bS bT bU bV bW bX bY bZ cA cB cC cD cE cF cG cH cI cJ cK cL cM cN cO cP cQ cS cT cU cV cW cX cY cZ dA dB dC dD dE dF dG dH dI dJ dK dL dM dN dO dP dQ dR dS dT dU dV dW dX dY dZ eA eB eC eD eE eF eG eH eI eJ eK eL eM eN eO eP eQ eR eS eT eU eV eW hz hi hm hT
    rw [cIter_succ]
    conv => arg 1; whnf
    split
    · rename_i hd
      have hlt : i < L.length := by simp at hd; omega
      have hdrop : L.drop i = L[i] :: L.drop (i + 1) := List.drop_eq_getElem_cons hlt
      rw [hdrop] at hT
      simp only [open03] at hT
      have ia := fun h => hix (r := r) (m := m0) (a := z) (h := h) ub (by kernel_rfl) (by omega) (by omega)
      have la := hld (a := z) (v := .bool L[i]) gr (by kernel_rfl) (by kernel_rfl) (by rw [hz, Int.toNat_natCast, List.getElem?_map, List.getElem?_eq_getElem hlt]; rfl)
      conv => arg 1; whnf
      refine atCall_P (ia _) ?_
      conv => arg 1; whnf
      refine atCall_P (la) ?_
      generalize L[i] = b at hT
      conv => arg 1; whnf
      cases b
      · rw [if_pos rfl] at hT
        rw [hz]
        conv => arg 1; whnf
        exact hR _ _ hT
      · rw [if_neg (by simp)] at hT
        conv => arg 1; whnf
        exact ih (i + 1) (by rw [hz]; exact wrap_succ (by omega)) (by omega) (by omega) hT
    · rename_i hd
      have hlt : ¬ i < L.length := by simp at hd; omega
      rw [List.drop_eq_nil_of_le (by omega)] at hT
      simp only [open03] at hT
      exact hK hT
end
theorem place_lt {s : List Ag} {n : Nt} (hP : ∀ a, 0 ≤ portsN s a) (hf : 0 ≤ n.free) (p : Pt) (h : 0 ≤ placeN s n p) : placeN s n p < ((mostN s n.cells n.free).toNat : Nat) := by
  cases hi : isPort s n.cells n.free p with
  | false => rw [place_no hi] at h; omega
  | true =>
    obtain ⟨v, h1, h2⟩ := place_at hP hf hi
    have hl := (List.getElem?_eq_some_iff.1 h2).1
    have hm := most_len hP n.cells 0 (freePorts n.free)
    have hfl : (freePorts n.free).length = n.free.toNat := by unfold freePorts; simp
    rw [hfl, show ((n.free.toNat : Nat) : Int) = n.free by omega] at hm
    unfold portsL at hl
    rw [h1, hm]
    omega

theorem most_eq {s : List Ag} {n : Nt} (hP : ∀ a, 0 ≤ portsN s a) (hf : 0 ≤ n.free) : mostN s n.cells n.free = ((portsL s n).length : Nat) := by
  have hm := most_len hP n.cells 0 (freePorts n.free)
  have hfl : (freePorts n.free).length = n.free.toNat := by unfold freePorts; simp
  rw [hfl, show ((n.free.toNat : Nat) : Int) = n.free by omega] at hm
  rw [hm]; rfl

theorem bCh (call rgn n) (x v : AV) (s : List Ag) (nt : Nt) (hx : IsSig x s) (hv : IsNet v nt) (h0 : (sigChk s).1 = 0) (hC2 : ∀ h, call (.func 43) [x] h = some (.ret (.tup [.int .i64 0, .int .i64 0]), h)) (hF1 : hF1 call) (hPl : hPl call) (hwl : nt.wires.length ≤ 1000000) (hn1 : 40000 < n) (hn2 : nt.wires.length < n) (h : AH) :
    ∃ h', B tab21 call rgn n 22 Tryz.f22 [x, v] h = some (.ret (.tup [.int .i64 (chk03 s nt).1, .int .i64 (chk03 s nt).2]), h') := by
  suffices hq : ∀ Q : Option (AOut × AH) → Prop, (∀ e a h', chk03 s nt = (e, a) → Q (some (.ret (.tup [.int .i64 e, .int .i64 a]), h'))) → Q (B tab21 call rgn n 22 Tryz.f22 [x, v] h) from
    hq (fun y => ∃ h', y = some (.ret (.tup [.int .i64 (chk03 s nt).1, .int .i64 (chk03 s nt).2]), h')) (fun e a h' he => ⟨h', by rw [he]⟩)
  intro Q hQ
  have hv0 := hv
  obtain ⟨c, w, rfl, hc, hw⟩ := hv
  have hcs := isL_scalar hc
  have hws := isL_scalar hw
  have u : Tryz.prog.underlying 40 = some (.slice 3) := by kernel_rfl
  have hlc := fun h => len_L (X := ⟨Tryz.prog, mu0, call⟩) (mu := false) (h := h) u hc
  rw [List.length_map] at hlc
  have hP := sigChk_ports h0
  conv => arg 1; whnf
  refine atCall_P (box_new (cs := [c, .int .i64 nt.free, w]) rfl (by simp only [List.all_cons, hcs, hws, List.all_nil]; rfl)) ?_
  generalize hh_h1 : h.alloc (.cells [c, .int .i64 nt.free, w] 43) = h1 at *
  obtain ⟨a_i3, n_i3, k_h1⟩ := alloc_facts hh_h1
  clear hh_h1 k_h1
  generalize hi_i3 : h.next = i3 at *
  clear hi_i3
  have lc : vOf h1 (aLoad Tryz.prog 40 (.ptr i3 0) h1) = some (.ret c, h1) := ld_ptr (n := 1) a_i3 (by kernel_rfl) (by kernel_rfl) rfl
  have lf : vOf h1 (aLoad Tryz.prog 3 (.ptr i3 1) h1) = some (.ret (.int .i64 nt.free), h1) := ld_ptr (n := 1) a_i3 (by kernel_rfl) (by kernel_rfl) rfl
  have ln : vOf h1 (aLoad Tryz.prog 43 (.ptr i3 0) h1) = some (.ret (.agg [c, .int .i64 nt.free, w]), h1) := ld_agg (n := 3) a_i3 (by kernel_rfl) (by kernel_rfl) (by simp)
  conv => arg 1; whnf
  refine atCall_P (hC2 h1) ?_
  conv => arg 1; whnf
  refine atCall_P (lc) ?_
  conv => arg 1; whnf
  refine atCall_P (hlc _) ?_
  conv => arg 1; whnf
  cases e1 : decide ((nt.cells.length : Int) > 4096)
  rotate_left
  · conv => arg 1; whnf
    exact atLeave_P (leave_plain (.inl rfl) rfl) (hQ _ _ _ (by unfold chk03; rw [if_pos (.inl (by simp at e1; omega))]))
  conv => arg 1; whnf
  refine atCall_P (lf) ?_
  conv => arg 1; whnf
  cases e2 : decide (nt.free > 64)
  rotate_left
  · conv => arg 1; whnf
    exact atLeave_P (leave_plain (.inl rfl) rfl) (hQ _ _ _ (by unfold chk03; rw [if_pos (.inr (by simpa using e2))]))
  conv => arg 1; whnf
  refine atCall_P (lf) ?_
  conv => arg 1; whnf
  cases e3 : decide (nt.free < 0)
  rotate_left
  · conv => arg 1; whnf
    exact atLeave_P (leave_plain (.inl rfl) rfl) (hQ _ _ _ (by unfold chk03; rw [if_neg (by simp at e1 e2 ⊢; omega), if_pos (by simpa using e3)]))
  have c1 : nt.cells.length ≤ 4096 := by simp at e1; omega
  have f0 : 0 ≤ nt.free := by simpa using e3
  have f1 : nt.free ≤ 64 := by simpa using e2
  have ho : okF s nt := ⟨h0, by omega, by omega, by omega, hwl⟩
  have hck : chk03 s nt = (match badCell s.length nt.cells 0 with
    | some i => (20, (i : Int))
    | none => match wires03 s nt nt.wires 0 (List.replicate (mostN s nt.cells nt.free).toNat false) with
      | .inl e => e
      | .inr L => open03 L 0) := by
    unfold chk03; rw [if_neg (by omega), if_neg (by omega)]
    all_goals (cases badCell s.length nt.cells 0 <;> rfl)
  conv => arg 1; whnf
  refine lC0 (c := c) (w := w) (f := nt.free) call rgn n x s nt.cells hx hc c1 a_i3 ?_ ?_ n 0 (z := 0) rfl (Nat.zero_le _) (by omega) (by rw [List.drop_zero])
  · intro i hi
    intros
    rw [hi] at hck
    conv => arg 1; whnf
    exact atLeave_P (leave_plain (.inl rfl) rfl) (hQ _ _ _ hck)
  intro hb
  intros
  rw [hb] at hck
  simp only at hck
  have hme := most_eq (s := s) (n := nt) (fun a => (hP a).1) f0
  have hfirst := hF1 x _ s nt h1 hx hv0 ho
  unfold firstV at hfirst
  rw [hme] at hfirst
  have hpl := fun p => place_lt (s := s) (n := nt) (fun a => (hP a).1) f0 p
  rw [hme, Int.toNat_natCast] at hck hpl
  have hml : (portsL s nt).length ≤ 30000 := by
    have h1 : (freePorts nt.free).length ≤ 64 := by unfold freePorts; rw [List.length_map, List.length_range']; omega
    have h2 : ∀ (cells : List Int) (i : Nat), (cellsPorts s cells i).length ≤ 7 * cells.length := by
      intro cells
      induction cells with
      | nil => intro i; simp [cellsPorts]
      | cons a r ih =>
        intro i
        have := ih (i + 1)
        have := hP a
        simp only [cellsPorts, cellPorts, List.length_append, List.length_map, List.length_range', List.length_cons]
        omega
    have := h2 nt.cells 0
    unfold portsL
    rw [List.length_append]; omega
  generalize (portsL s nt).length = m0 at hck hpl hfirst hml
  have isf := listW_isL (enc := intV) (firstL s nt.cells nt.free)
  generalize hfv : listW intV (firstL s nt.cells nt.free) = fv at hfirst isf
  have hfv2 : fv = .nilsl ∨ ∃ xs cc, fv = .vsl xs cc := by
    rcases isf with ⟨h, _⟩ | ⟨cc, h⟩
    · exact .inl h
    · exact .inr ⟨_, cc, h⟩
  conv => arg 1; whnf
  refine atCall_P (ln) ?_
  conv => arg 1; whnf
  refine atCall_P (hfirst) ?_
  rcases hfv2 with hfv2 | ⟨xs, cc, hfv2⟩
  all_goals
    subst hfv2
    have hms := ms_new (t := 98) (e := 4) (m := m0) (h := h1) (z := .bool false) (by kernel_rfl) (by kernel_rfl) (by kernel_rfl) rfl rfl (bs := 1) (by kernel_rfl) (by omega) (by omega)
    conv => arg 1; whnf
    refine atCall_P (hms) ?_
    have hrep : List.replicate m0 (AV.bool false) = (List.replicate m0 false).map AV.bool := by rw [List.map_replicate]
    rw [hrep]
    generalize hh_h2 : h1.alloc (.cells ((List.replicate m0 false).map AV.bool) 4) = h2 at *
    obtain ⟨a_r, n_r, k_h2⟩ := alloc_facts hh_h2
    replace a_i3 := k_h2 _ _ a_i3 (by omega)
    clear hh_h2 k_h2
    generalize hi_r : h1.next = r at *
    clear hi_r
    have hne : i3 ≠ r := by rintro rfl; omega
    conv => arg 1; whnf
    refine lC1 (c := c) (w := w) (f := nt.free) call rgn n x _ s nt hx hc hw rfl isf ho hPl m0 hpl hne (T := wires03 s nt nt.wires 0 (List.replicate m0 false)) ?_ ?_ n 0 (z := 0) (L := List.replicate m0 false) rfl (Nat.zero_le _) (by omega) (by simp) a_i3 a_r (by rw [List.drop_zero])
    · intro e a hT h3
      intros
      rw [hT] at hck
      conv => arg 1; whnf
      exact atLeave_P (leave_plain (.inl rfl) rfl) (hQ _ _ _ hck)
    intro L hT hL h3
    intros
    rename_i gr
    rw [hT] at hck
    simp only at hck
    conv => arg 1; whnf
    refine lC2 call rgn n m0 (by omega) L hL gr (T := open03 L 0) ?_ ?_ n 0 (z := 0) rfl (Nat.zero_le _) (by omega) (by rw [List.drop_zero])
    · intro e a hT2
      intros
      conv => arg 1; whnf
      exact atLeave_P (leave_plain (.inl rfl) rfl) (hQ _ _ _ (by rw [hck, hT2]))
    · intro hT2
      intros
      conv => arg 1; whnf
      exact atLeave_P (leave_plain (.inl rfl) rfl) (hQ _ _ _ (by rw [hck, hT2]))

/-! ### Contracts, for the signature of numbers -/

/-- A contract that another evaluator shows. -/
theorem mkEv_addx {P : Program} {mu : FuncId → Nat → Bool} {hk hk0 : Hooks} {f : FuncId} {s : List AV → Option AV} (hE : EvOK (mkEv P mu hk)) (hE0 : EvOK (mkEv P mu hk0))
    (hs : ∀ args v, s args = some v → plainV v = true ∧ ∃ n h', evCall (mkEv P mu hk0) n (.func f) args .empty = some (.ret v, h')) : EvOK (mkEv P mu (addHk hk f s)) where
  hk := fun g args hh v hh' h ρ w cargs hR hb ha => by
    by_cases hg : g = f
    · subst hg
      obtain ⟨hfr, h', rfl⟩ := addHk_inv h
      obtain ⟨p2, n, h1, he⟩ := hs _ v h'
      exact ev_hook2 hE0 he hR ha hfr p2
    · have h' : hk g args hh = some (v, hh') := by rw [← addHk_other hk s args hh hg]; exact h
      exact hE.hk g args hh v hh' h' ρ w cargs hR hb ha
  ng := hE.ng
  rgn := hE.rgn

def tabC2 : List (List AV × AV) := [([sigUV], .tup [.int .i64 0, .int .i64 0])]
def hkC2 := addHk hkAl 43 (tabHk tabC2)
theorem runC2 : retV (fCallH Tryz.prog mu0 noHooks 100 (.func 43) [sigUV] .empty) (.tup [.int .i64 0, .int .i64 0]) = true := by kernel_rfl
theorem EC2 : EvOK (mkEv Tryz.prog mu0 hkC2) := mkEv_addx EAl E0 fun args v hs => by
  have := tabHk_mem hs
  simp only [tabC2, List.mem_singleton, Prod.mk.injEq] at this
  obtain ⟨rfl, rfl⟩ := this
  obtain ⟨h', he⟩ := retV_spec runC2
  exact ⟨rfl, 100, h', by rw [fCallH_eq]; exact he⟩
theorem hC2_of {hk : Hooks} {n : Nat} (hk' : ∀ args h, hk 43 args h = hkC2 43 args h) (hn : 0 < n) {x : AV} (h : AH) (hx : IsSig x sigU) (hxw : weakV x = sigUV) : evCall (mkEv Tryz.prog mu0 hk) n (.func 43) [x] h = some (.ret (.tup [.int .i64 0, .int .i64 0]), h) := ev_hk (by
  rw [hk']
  refine hk_top (by simp [freeL, sig_free hx]) ?_
  show tabHk tabC2 [weakV x] = _
  rw [hxw]
  rfl) hn

theorem sigU_ok : (sigChk sigU).1 = 0 := by decide +kernel
def sCh : List AV → Option AV
  | [x, v] => if AV.beq x sigUV then (match netOf v with | some n => if n.wires.length ≤ 1000000 then some (.tup [.int .i64 (chk03 sigU n).1, .int .i64 (chk03 sigU n).2]) else none | _ => none) else none
  | _ => none
def hkCh := addHk hkC2 22 sCh
theorem sigUV_weak : weakV sigUV = sigUV := rfl
theorem ECh : EvOK (mkEv Tryz.prog mu0 hkCh) := mkEv_add EC2 fun args v hs => by
  unfold sCh at hs; split at hs
  · rename_i x v'
    split at hs
    · rename_i hbq
      have hxe := AV.beq_eq hbq
      subst hxe
      split at hs
      · rename_i n h2
        split at hs
        · rename_i hl
          cases hs
          obtain ⟨N, hN⟩ : ∃ N, N = n.wires.length + 50000 := ⟨_, rfl⟩
          obtain ⟨h', hb⟩ := bCh (evCall (mkEv Tryz.prog mu0 hkC2) N) (rg Tryz.prog mu0 hkC2 N 22) N sigUV v' sigU n isSig_U (netOf_inv h2) sigU_ok (fun h => hC2_of (hk := hkC2) (n := N) (fun _ _ => rfl) (by omega) h isSig_U sigUV_weak) (hF1_of (fun _ _ => rfl) (by omega)) (hPl_of (fun _ _ => rfl) (by omega)) hl (by omega) (by omega) .empty
          exact ⟨rfl, ev_ofS tab21 rfl Tryz.func22 rfl fits21 hb⟩
        · cases hs
      · cases hs
    · cases hs
  · cases hs
def hCh (call : CallT) : Prop := ∀ x v n h, IsSig x sigU → weakV x = sigUV → IsNet v n → n.wires.length ≤ 1000000 → call (.func 22) [x, v] h = some (.ret (.tup [.int .i64 (chk03 sigU n).1, .int .i64 (chk03 sigU n).2]), h)
theorem hCh_of {hk : Hooks} {n : Nat} (hk' : ∀ args h, hk 22 args h = hkCh 22 args h) (hn : 0 < n) : hCh (evCall (mkEv Tryz.prog mu0 hk) n) := fun x v nt h hx hxw hv hl => ev_hk (by
  rw [hk']
  refine hk_top (by simp [freeL, sig_free hx, net_free hv]) ?_
  show (if AV.beq (weakV x) sigUV then (match netOf (weakV v) with | some n => if n.wires.length ≤ 1000000 then some (AV.tup [.int .i64 (chk03 sigU n).1, .int .i64 (chk03 sigU n).2]) else none | _ => none) else none) = _
  rw [hxw, if_pos (AV.beq_refl _), netOf_of hv]; simp only [if_pos hl]) hn
def links03 (s : List Ag) (n : Nt) : List Wr → List Int → List Int
  | [], L => L
  | w :: r, L => links03 s n r ((L.set (placeN s n (wA w)).toNat (placeN s n (wB w))).set (placeN s n (wB w)).toNat (placeN s n (wA w)))
theorem links03_len (s : List Ag) (n : Nt) : ∀ (W : List Wr) (L : List Int), (links03 s n W L).length = L.length
  | [], _ => rfl
  | w :: r, L => by simp [links03, links03_len s n r]

def tab57 : Nat → Option (List Nat) := fun id => match Nat.beq id 999999 with | true => some [] | false => match Nat.beq id 6 with | true => some [0, 1, 2, 3, 4, 5, 6, 7, 8, 9, 10] | false => match Nat.beq id 7 with | true => some [0, 1, 2, 3, 4, 5, 6, 7, 8, 9, 10] | false => none
theorem fits57 : tabFits Tryz.prog (mu0 65) tab57 (codeOf Tryz.f65) = true := by kernel_rfl

section
variable {i3 r : Sk.Id} {c w : AV} {f : Int}

theorem lLk (call rgn n) (x fv : AV) (s : List Ag) (nt : Nt) (hx : IsSig x s) (hc : IsL c (nt.cells.map intV)) (hw : IsL w (nt.wires.map wireV)) (hff : f = nt.free) (hfv : IsL fv ((firstL s nt.cells nt.free).map intV)) (ho : okF s nt) (hPl : hPl call) (m0 : Nat) (hok : ∀ w ∈ nt.wires, (0 ≤ placeN s nt (wA w) ∧ placeN s nt (wA w) < m0) ∧ 0 ≤ placeN s nt (wB w) ∧ placeN s nt (wB w) < m0) (hne : i3 ≠ r) {n0 : Nat} {gg : AH} (hr : n0 ≤ r.nat) {T : List Int} {K : KC (AOut × AH)} {Q : Option (AOut × AH) → Prop}
    (hK : ∀ {h : AH} {g0 g1 g2 g3 g4 g5 g6 g8 g9 aA aB aC aD aE aF aG aH aI aJ aK aL aM aN aO aP aQ aR aS aT aU aV aW aX aY aZ bA bB bC bD bE bF bG bH bI bJ bK bL bM bN bO bP bQ bR bS : AV}, h.get r = some (.cells (T.map intV) 3) → Kept n0 gg h → r.nat < h.next.nat → Q (K (.exit 0) ⟨[g0,g1,g2,g3,g4,g5,g6,.hsl r 0 m0 (.known m0),g8,g9,aA,aB,aC,aD,aE,aF,aG,aH,aI,aJ,aK,aL,aM,aN,aO,aP,aQ,aR,aS,aT,aU,aV,aW,aX,aY,aZ,bA,bB,bC,bD,bE,bF,bG,bH,bI,bJ,bK,bL,bM,bN,bO,bP,bQ,bR,bS], [], h⟩)) :
    ∀ (m i : Nat) {z : Int} {L : List Int} {h : AH} {g1 g2 g4 g6 g9 aA aB aC aD aE aF aG aH aI aJ aK aL aM aN aO aP aQ aR aS aT aU aV aW aX aY aZ bA bB bC bD bE bF bG bH bI bJ bK bL bM bN bO bP bQ bR bS : AV}, z = i → i ≤ nt.wires.length → nt.wires.length - i < m → L.length = m0 → h.get i3 = some (.cells [c, .int .i64 f, w] 43) → h.get r = some (.cells (L.map intV) 3) → Kept n0 gg h → r.nat < h.next.nat → T = links03 s nt (nt.wires.drop i) L →
    Q (cIter (LB tab57 call rgn n 65 Tryz.f65 0) m ⟨[x,g1,g2,.ptr i3 0,g4,fv,g6,.hsl r 0 m0 (.known m0),.int .i64 z,g9,aA,aB,aC,aD,aE,aF,aG,aH,aI,aJ,aK,aL,aM,aN,aO,aP,aQ,aR,aS,aT,aU,aV,aW,aX,aY,aZ,bA,bB,bC,bD,bE,bF,bG,bH,bI,bJ,bK,bL,bM,bN,bO,bP,bQ,bR,bS], [], h⟩ K) := by
  have u : Tryz.prog.underlying 41 = some (.slice 67) := by kernel_rfl
  have ui : Tryz.prog.underlying 40 = some (.slice 3) := by kernel_rfl
  have hlw := fun h => len_L (X := ⟨Tryz.prog, mu0, call⟩) (mu := false) (h := h) u hw
  rw [List.length_map] at hlw
  have hv : IsNet (.agg [c, .int .i64 f, w]) nt := ⟨c, w, by rw [hff], hc, hw⟩
  obtain ⟨o1, o2, o3, o4, o5⟩ := id ho
  intro m
  induction m with
  | zero => intros; omega
  | succ m ih =>
    intro i z L h g1 g2 g4 g6 g9 aA aB aC aD aE aF aG aH aI aJ aK aL aM aN aO aP aQ aR aS aT aU aV aW aX aY aZ bA bB bC bD bE bF bG bH bI bJ bK bL bM bN bO bP bQ bR bS hz hi hm hL g3 gr kp lr hT
    rw [cIter_succ]
    have lw : ∀ h, h.get i3 = some (.cells [c, .int .i64 f, w] 43) → vOf h (aLoad Tryz.prog 41 (.ptr i3 2) h) = some (.ret w, h) := fun h g => ld_ptr (n := 1) g (by kernel_rfl) (by kernel_rfl) rfl
    have ln : vOf h (aLoad Tryz.prog 43 (.ptr i3 0) h) = some (.ret (.agg [c, .int .i64 f, w]), h) := ld_agg (n := 3) g3 (by kernel_rfl) (by kernel_rfl) (by simp)
    conv => arg 1; whnf
    refine atCall_P (lw h g3) ?_
    conv => arg 1; whnf
    refine atCall_P (hlw _) ?_
    conv => arg 1; whnf
    split
    · rename_i hd
      have hlt : i < nt.wires.length := by simp at hd; omega
      have hdrop : nt.wires.drop i = nt.wires[i] :: nt.wires.drop (i + 1) := List.drop_eq_getElem_cons hlt
      have hg : (nt.wires.map wireV)[i]? = some (wireV nt.wires[i]) := by rw [List.getElem?_map, List.getElem?_eq_getElem hlt]; rfl
      have hidx := fun h => idx_L (P := Tryz.prog) (t := 41) (e := 67) (n := 4) (h := h) (k := .i64) u (by kernel_rfl) hw hz hg rfl
      have hz' : IntKind.i64.wrap (z + 1) = ((i + 1 : Nat) : Int) := by rw [hz]; exact wrap_succ (by omega)
      have hmem := hok nt.wires[i] (List.getElem_mem _)
      rw [hdrop] at hT
      simp only [links03] at hT
      generalize nt.wires[i] = ww at hidx hT hmem
      obtain ⟨wa, wb, wc, wd⟩ := ww
      have pA := hPl x (.agg [c, .int .i64 f, w]) fv (portV (wa, wb)) s nt (wa, wb) h hx hv hfv rfl ho
      have pB := hPl x (.agg [c, .int .i64 f, w]) fv (portV (wc, wd)) s nt (wc, wd) h hx hv hfv rfl ho
      rw [show wA (wa, wb, wc, wd) = (wa, wb) from rfl, show wB (wa, wb, wc, wd) = (wc, wd) from rfl] at hT hmem
      generalize placeN s nt (wa, wb) = a at pA hmem hT
      generalize placeN s nt (wc, wd) = b at pB hmem hT
      obtain ⟨⟨a0, am⟩, b0, bm⟩ := hmem
      conv => arg 1; whnf
      refine atCall_P (ln) ?_
      conv => arg 1; whnf
      refine atCall_P (lw h g3) ?_
      conv => arg 1; whnf
      refine atCall_P (hidx _) ?_
      conv => arg 1; whnf
      refine atQuiet_P pA ?_
      conv => arg 1; whnf
      refine atCall_P (ln) ?_
      conv => arg 1; whnf
      refine atCall_P (lw h g3) ?_
      conv => arg 1; whnf
      refine atCall_P (hidx _) ?_
      conv => arg 1; whnf
      refine atQuiet_P pB ?_
      have ia := fun h => hix (r := r) (m := m0) (a := a) (h := h) ui (by kernel_rfl) a0 am
      have ib := fun h => hix (r := r) (m := m0) (a := b) (h := h) ui (by kernel_rfl) b0 bm
      have s1 := hst (a := a) (v := .int .i64 b) gr (by kernel_rfl) rfl rfl (by simp; omega)
      have hm1 : (L.map intV).set a.toNat (.int .i64 b) = (L.set a.toNat b).map intV := by rw [List.map_set]; rfl
      rw [hm1] at s1
      conv => arg 1; whnf
      refine atCall_P (ia _) ?_
      conv => arg 1; whnf
      refine atCall_P (s1) ?_
      have kp2 := kp.set (r := r) (.cells ((L.set a.toNat b).map intV) 3) hr
      have g3' : (h.set r (.cells ((L.set a.toNat b).map intV) 3)).get i3 = some (.cells [c, .int .i64 f, w] 43) := by rw [AH.get_set, if_neg hne]; exact g3
      have gr' : (h.set r (.cells ((L.set a.toNat b).map intV) 3)).get r = some (.cells ((L.set a.toNat b).map intV) 3) := by rw [AH.get_set, if_pos rfl]
      have lr' : r.nat < (h.set r (.cells ((L.set a.toNat b).map intV) 3)).next.nat := by rw [AH.next_set]; exact lr
      generalize h.set r (.cells ((L.set a.toNat b).map intV) 3) = h2 at g3' gr' kp2 lr' ⊢
      have s2 := hst (a := b) (v := .int .i64 a) gr' (by kernel_rfl) rfl rfl (by simp; omega)
      have hm2 : ((L.set a.toNat b).map intV).set b.toNat (.int .i64 a) = ((L.set a.toNat b).set b.toNat a).map intV := by
        rw [show AV.int .i64 a = intV a from rfl, ← List.map_set]
      rw [hm2] at s2
      conv => arg 1; whnf
      refine atCall_P (ib _) ?_
      conv => arg 1; whnf
      refine atCall_P (s2) ?_
      conv => arg 1; whnf
      exact ih (i + 1) hz' (by omega) (by omega) (by simp; omega) (by rw [AH.get_set, if_neg hne]; exact g3') (by rw [AH.get_set, if_pos rfl]) (kp2.set _ hr) (by rw [AH.next_set]; exact lr') hT
    · rename_i hd
      have hlt : ¬ i < nt.wires.length := by simp at hd; omega
      rw [List.drop_eq_nil_of_le (by omega)] at hT
      simp only [links03] at hT
      subst hT
      exact hK gr kp lr
end

theorem ports_len' {s : List Ag} {n : Nt} (hP : ∀ a, 0 ≤ portsN s a ∧ portsN s a ≤ 7) (hf : n.free ≤ 64) (hc : n.cells.length ≤ 4096) : (portsL s n).length ≤ 30000 := by
  have h1 : (freePorts n.free).length ≤ 64 := by unfold freePorts; rw [List.length_map, List.length_range']; omega
  have h2 : ∀ (cells : List Int) (i : Nat), (cellsPorts s cells i).length ≤ 7 * cells.length := by
    intro cells
    induction cells with
    | nil => intro i; simp [cellsPorts]
    | cons a r ih =>
      intro i
      have := ih (i + 1)
      have := hP a
      simp only [cellsPorts, cellPorts, List.length_append, List.length_map, List.length_range', List.length_cons]
      omega
  have := h2 n.cells 0
  unfold portsL
  rw [List.length_append]; omega

theorem bLk (call rgn n) (x v : AV) (s : List Ag) (nt : Nt) (hx : IsSig x s) (hv : IsNet v nt) (g : Good s nt) (hwl : nt.wires.length ≤ 1000000) (hF1 : hF1 call) (hPl : hPl call) (hn2 : nt.wires.length < n) (h : AH) :
    ∃ r h', B tab57 call rgn n 65 Tryz.f65 [x, v] h = some (.ret (.hsl r 0 (portsL s nt).length (.known (portsL s nt).length)), h') ∧ h'.get r = some (.cells ((links03 s nt nt.wires (List.replicate (portsL s nt).length 0)).map intV) 3) ∧ h.next.nat ≤ r.nat ∧ r.nat < h'.next.nat ∧ Kept h.next.nat h h' := by
  have hP := sigChk_ports g.sg
  have hml := ports_len' hP g.f1 g.cl
  have ho : okF s nt := ⟨g.sg, by have := g.cl; omega, by have := g.f0; omega, by have := g.f1; omega, hwl⟩
  have hme := most_eq (s := s) (n := nt) (fun a => (hP a).1) g.f0
  have hpl := fun p => place_lt (s := s) (n := nt) (fun a => (hP a).1) g.f0 p
  rw [hme, Int.toNat_natCast] at hpl
  have hok : ∀ w ∈ nt.wires, (0 ≤ placeN s nt (wA w) ∧ placeN s nt (wA w) < (portsL s nt).length) ∧ 0 ≤ placeN s nt (wB w) ∧ placeN s nt (wB w) < (portsL s nt).length := fun w hw => by
    obtain ⟨m1, m2⟩ := mem_ends hw
    obtain ⟨a, a1, _⟩ := place_at (fun a => (hP a).1) g.f0 (g.ip _ m1)
    obtain ⟨b, b1, _⟩ := place_at (fun a => (hP a).1) g.f0 (g.ip _ m2)
    exact ⟨⟨by omega, hpl _ (by omega)⟩, by omega, hpl _ (by omega)⟩
  have hfirst := fun h1 => hF1 x v s nt h1 hx hv ho
  simp only [firstV, hme] at hfirst
  generalize (portsL s nt).length = m0 at hok hfirst hml ⊢
  suffices hq : ∀ Q : Option (AOut × AH) → Prop, (∀ r h', h'.get r = some (.cells ((links03 s nt nt.wires (List.replicate m0 0)).map intV) 3) → h.next.nat ≤ r.nat → r.nat < h'.next.nat → Kept h.next.nat h h' → Q (some (.ret (.hsl r 0 m0 (.known m0)), h'))) → Q (B tab57 call rgn n 65 Tryz.f65 [x, v] h) from
    hq (fun y => ∃ r h', y = some (.ret (.hsl r 0 m0 (.known m0)), h') ∧ h'.get r = some (.cells ((links03 s nt nt.wires (List.replicate m0 0)).map intV) 3) ∧ h.next.nat ≤ r.nat ∧ r.nat < h'.next.nat ∧ Kept h.next.nat h h') (fun r h' a1 a2 a3 a4 => ⟨r, h', rfl, a1, a2, a3, a4⟩)
  intro Q hQ
  obtain ⟨c, w, rfl, hc, hw⟩ := hv
  have hcs := isL_scalar hc
  have hws := isL_scalar hw
  conv => arg 1; whnf
  refine atCall_P (box_new (cs := [c, .int .i64 nt.free, w]) rfl (by simp only [List.all_cons, hcs, hws, List.all_nil]; rfl)) ?_
  have kp := kept_one h (.cells [c, .int .i64 nt.free, w] 43)
  generalize hn0 : h.next.nat = n0 at kp hQ
  generalize hh_h1 : h.alloc (.cells [c, .int .i64 nt.free, w] 43) = h1 at *
  obtain ⟨a_i3, n_i3, k_h1⟩ := alloc_facts hh_h1
  clear hh_h1 k_h1
  generalize hi_i3 : h.next = i3 at *
  clear hi_i3
  have ln : vOf h1 (aLoad Tryz.prog 43 (.ptr i3 0) h1) = some (.ret (.agg [c, .int .i64 nt.free, w]), h1) := ld_agg (n := 3) a_i3 (by kernel_rfl) (by kernel_rfl) (by simp)
  have isf := listW_isL (enc := intV) (firstL s nt.cells nt.free)
  have hf1 := hfirst h1
  generalize hfv : listW intV (firstL s nt.cells nt.free) = fv at hf1 isf
  have hfv2 : fv = .nilsl ∨ ∃ xs cc, fv = .vsl xs cc := by
    rcases isf with ⟨h, _⟩ | ⟨cc, h⟩
    · exact .inl h
    · exact .inr ⟨_, cc, h⟩
  clear hfirst hfv
  conv => arg 1; whnf
  refine atCall_P (ln) ?_
  conv => arg 1; whnf
  refine atCall_P (hf1) ?_
  rcases hfv2 with hfv2 | ⟨xs, cc, hfv2⟩
  all_goals
    subst hfv2
    have hms := ms_new (t := 40) (e := 3) (m := m0) (h := h1) (z := .int .i64 0) (by kernel_rfl) (by kernel_rfl) (by kernel_rfl) rfl rfl (bs := 8) (by kernel_rfl) (by omega) (by omega)
    conv => arg 1; whnf
    refine atCall_P (hms) ?_
    have hrep : List.replicate m0 (AV.int .i64 0) = (List.replicate m0 (0 : Int)).map intV := by rw [List.map_replicate]; rfl
    rw [hrep]
    replace kp := kp.alloc (.cells ((List.replicate m0 (0 : Int)).map intV) 3)
    generalize hh_h2 : h1.alloc (.cells ((List.replicate m0 (0 : Int)).map intV) 3) = h2 at *
    obtain ⟨a_r, n_r, k_h2⟩ := alloc_facts hh_h2
    replace a_i3 := k_h2 _ _ a_i3 (by omega)
    clear hh_h2 k_h2
    generalize hi_r : h1.next = r at *
    clear hi_r
    have hne : i3 ≠ r := by rintro rfl; omega
    conv => arg 1; whnf
    refine lLk (c := c) (w := w) (f := nt.free) (n0 := n0) (gg := h) call rgn n x _ s nt hx hc hw rfl isf ho hPl m0 hok hne (by omega) (T := links03 s nt nt.wires (List.replicate m0 0)) ?_ n 0 (z := 0) (L := List.replicate m0 0) rfl (Nat.zero_le _) (by omega) (by simp) a_i3 a_r kp (by omega) (by rw [List.drop_zero])
    intro h3
    intros
    rename_i k1 k2 k3
    conv => arg 1; whnf
    exact atLeave_P (leave_plain (.inl rfl) rfl) (hQ r _ k1 (by omega) k3 k2)

/-! ### Read -/

def readG (all : List Pt) (lk first cells : List Int) : Nat → Nat → Int → Option (Int × Int)
  | 0, _, _ => none
  | m + 1, k, at0 =>
    if (all.getD (lk.getD at0.toNat 0).toNat (0, 0)).1 < 0 ∨ (all.getD (lk.getD at0.toNat 0).toNat (0, 0)).2 ≠ 0 then some (0, 62)
    else if cells.getD (all.getD (lk.getD at0.toNat 0).toNat (0, 0)).1.toNat 0 = 0 then (if (k : Int) + 1 ≠ cells.length then some (0, 62) else some (k, 0))
    else if cells.getD (all.getD (lk.getD at0.toNat 0).toNat (0, 0)).1.toNat 0 ≠ 1 then some (0, 62)
    else readG all lk first cells m (k + 1) (first.getD (all.getD (lk.getD at0.toNat 0).toNat (0, 0)).1.toNat 0 + 1)

theorem getD_some {α : Type} {l : List α} {i : Nat} {d v : α} (h : l[i]? = some v) : l.getD i d = v := by rw [List.getD_eq_getElem?_getD, h]; rfl

def tab29 : Nat → Option (List Nat) := fun id => match Nat.beq id 999999 with | true => some [] | false => match Nat.beq id 1 with | true => some [1, 0, 2, 3, 4, 5, 6, 7] | false => match Nat.beq id 6 with | true => some [1, 0, 2, 3] | false => match Nat.beq id 8 with | true => some [1, 0, 2, 3, 4, 5, 6, 7] | false => none
theorem fits29 : tabFits Tryz.prog (mu0 30) tab29 (codeOf Tryz.f30) = true := by kernel_rfl

theorem lRG (call rgn n) (i1 r : Sk.Id) (c w av fv : AV) (f : Int) (all : List Pt) (lk first cells : List Int) (ha : IsL av (all.map portV)) (hf : IsL fv (first.map intV)) (hc : IsL c (cells.map intV)) (m0 : Nat) (hm0 : m0 ≤ 1000000) (hal : all.length = m0) (hll : lk.length = m0) (hfl : first.length = cells.length)
    (hlk : ∀ i : Nat, i < m0 → 0 ≤ lk.getD i 0 ∧ lk.getD i 0 < m0) (hce : ∀ p ∈ all, 0 ≤ p.1 → p.1 < cells.length) (hfi : ∀ i : Nat, i < cells.length → cells.getD i 0 = 1 → 0 ≤ first.getD i 0 ∧ first.getD i 0 + 1 < m0) (hcl : cells.length ≤ 100000)
    {v e : Int} {K : KC (AOut × AH)} {Q : Option (AOut × AH) → Prop}
    (hR : ∀ {h : AH} {g0 g1 g4 g5 g6 g7 g8 g9 aA aB aC aD aE aF aG aH aI aJ aK aL aM aN aO aP aQ aR aS aT aU aV aW aX aY aZ bA bB bC bD bE bF bG bH bI bJ bK bL bM bN bO bP bQ bR bS bT bU bV bW bX bY bZ cA cB cC cD cE cF cG cH cI cJ cK cL cM cN cO cP cQ cS cT : AV}, Q (K .ret ⟨[g0,g1,.int .i64 v,.int .i64 e,g4,g5,g6,g7,g8,g9,aA,aB,aC,aD,aE,aF,aG,aH,aI,aJ,aK,aL,aM,aN,aO,aP,aQ,aR,aS,aT,aU,aV,aW,aX,aY,aZ,bA,bB,bC,bD,bE,bF,bG,bH,bI,bJ,bK,bL,bM,bN,bO,bP,bQ,bR,bS,bT,bU,bV,bW,bX,bY,bZ,cA,cB,cC,cD,cE,cF,cG,cH,cI,cJ,cK,cL,cM,cN,cO,cP,cQ,cS,cT], [], h⟩)) :
    ∀ (m m' k : Nat) {z a : Int} {h : AH} {g0 g2 g3 g4 g5 g9 aC aD aE aF aG aH aI aJ aK aL aM aN aO aP aQ aR aS aT aU aV aW aX aY aZ bA bB bC bD bE bF bG bH bI bJ bK bL bM bN bO bP bQ bR bS bT bU bV bW bX bY bZ cA cB cC cD cE cF cG cH cI cJ cK cL cM cN cO cP cQ cS cT : AV}, m ≤ m' → z = k → k + m ≤ 1000000000 → 0 ≤ a → a < m0 → h.get i1 = some (.cells [c, .int .i64 f, w] 43) → i1.nat < h.next.nat → h.get r = some (.cells (lk.map intV) 3) → r.nat < h.next.nat → readG all lk first cells m k a = some (v, e) →
    Q (cIter (LB tab29 call rgn n 30 Tryz.f30 0) m' ⟨[g0,.ptr i1 0,g2,g3,g4,g5,av,.hsl r 0 m0 (.known m0),fv,g9,.int .i64 a,.int .i64 z,aC,aD,aE,aF,aG,aH,aI,aJ,aK,aL,aM,aN,aO,aP,aQ,aR,aS,aT,aU,aV,aW,aX,aY,aZ,bA,bB,bC,bD,bE,bF,bG,bH,bI,bJ,bK,bL,bM,bN,bO,bP,bQ,bR,bS,bT,bU,bV,bW,bX,bY,bZ,cA,cB,cC,cD,cE,cF,cG,cH,cI,cJ,cK,cL,cM,cN,cO,cP,cQ,cS,cT], [], h⟩ K) := by
  have ui : Tryz.prog.underlying 40 = some (.slice 3) := by kernel_rfl
  have hlc := fun h => len_L (X := ⟨Tryz.prog, mu0, call⟩) (mu := false) (h := h) ui hc
  rw [List.length_map] at hlc
  intro m
  induction m with
  | zero => intros; rename_i hg; simp [readG] at hg
  | succ m ih =>
    intro m' k z a h g0 g2 g3 g4 g5 g9 aC aD aE aF aG aH aI aJ aK aL aM aN aO aP aQ aR aS aT aU aV aW aX aY aZ bA bB bC bD bE bF bG bH bI bJ bK bL bM bN bO bP bQ bR bS bT bU bV bW bX bY bZ cA cB cC cD cE cF cG cH cI cJ cK cL cM cN cO cP cQ cS cT hm hz hkm a0 am g1 l1 gr lr hG
    obtain ⟨m', rfl⟩ : ∃ q, m' = q + 1 := ⟨m' - 1, by omega⟩
    rw [cIter_succ]
    simp only [readG] at hG
    have La : lk[a.toNat]? = some (lk.getD a.toNat 0) := by rw [List.getD_eq_getElem?_getD, List.getElem?_eq_getElem (by omega)]; rfl
    obtain ⟨b0, bm⟩ := hlk a.toNat (by omega)
    generalize lk.getD a.toNat 0 = b at La b0 bm hG
    have ia := fun h => hix (r := r) (m := m0) (a := a) (h := h) ui (by kernel_rfl) a0 am
    have la := hld (a := a) (v := .int .i64 b) gr (by kernel_rfl) (by kernel_rfl) (by rw [List.getElem?_map, La]; rfl)
    obtain ⟨p, p1, p2⟩ := idx_ports (h := h) (a := b) ha b0 (by omega)
    rw [getD_some p1] at hG
    have hpm := hce p (List.mem_of_getElem? p1)
    obtain ⟨pc, ps⟩ := p
    simp only at hG hpm
    conv => arg 1; whnf
    refine atCall_P (ia _) ?_
    conv => arg 1; whnf
    refine atCall_P (la) ?_
    conv => arg 1; whnf
    refine atCall_P (p2) ?_
    conv => arg 1; whnf
    refine atCall_P (alloc_new (z := .agg [.int .i64 0, .int .i64 0]) (cs := [.int .i64 0, .int .i64 0]) (by kernel_rfl) rfl rfl) ?_
    generalize hh_h1 : h.alloc (.cells [.int .i64 0, .int .i64 0] 65) = h1 at *
    obtain ⟨a_i12, n_i12, k_h1⟩ := alloc_facts hh_h1
    replace g1 := k_h1 _ _ g1 (by omega)
    replace gr := k_h1 _ _ gr (by omega)
    clear hh_h1 k_h1
    generalize hi_i12 : h.next = i12 at *
    clear hi_i12
    have n1 : i1 ≠ i12 := by rintro rfl; omega
    have n2 : r ≠ i12 := by rintro rfl; omega
    have st : hOf (aStore Tryz.prog 65 (.ptr i12 0) (portV (pc, ps)) h1) = some (.ret undefA, h1.set i12 (.cells [.int .i64 pc, .int .i64 ps] 65)) := st_ptr (n := 2) a_i12 (by kernel_rfl) rfl (by simp) rfl
    conv => arg 1; whnf
    refine atCall_P (st) ?_
    generalize hh_h2 : h1.set i12 (.cells [.int .i64 pc, .int .i64 ps] 65) = h2 at *
    obtain ⟨b_i12, n_h2, k_h2⟩ := set_facts hh_h2
    replace g1 := k_h2 _ _ g1 (by rintro rfl; omega)
    replace gr := k_h2 _ _ gr (by rintro rfl; omega)
    clear hh_h2 k_h2
    replace n_h2 : h2.next.nat = h1.next.nat := congrArg Id.nat n_h2
    have q0 : vOf h2 (aLoad Tryz.prog 3 (.ptr i12 0) h2) = some (.ret (.int .i64 pc), h2) := ld_ptr (n := 1) b_i12 (by kernel_rfl) (by kernel_rfl) rfl
    have q1 : vOf h2 (aLoad Tryz.prog 3 (.ptr i12 1) h2) = some (.ret (.int .i64 ps), h2) := ld_ptr (n := 1) b_i12 (by kernel_rfl) (by kernel_rfl) rfl
    have lc : vOf h2 (aLoad Tryz.prog 40 (.ptr i1 0) h2) = some (.ret c, h2) := ld_ptr (n := 1) g1 (by kernel_rfl) (by kernel_rfl) rfl
    conv => arg 1; whnf
    refine atCall_P (q0) ?_
    conv => arg 1; whnf
    cases e1 : decide (pc < 0)
    rotate_left
    · rw [if_pos (.inl (by simpa using e1))] at hG
      simp only [Option.some.injEq, Prod.mk.injEq] at hG
      obtain ⟨rfl, rfl⟩ := hG
      conv => arg 1; whnf
      exact hR
    conv => arg 1; whnf
    refine atCall_P (q1) ?_
    conv => arg 1; whnf
    cases e2 : (ps != 0)
    rotate_left
    · rw [if_pos (.inr (by simpa using e2))] at hG
      simp only [Option.some.injEq, Prod.mk.injEq] at hG
      obtain ⟨rfl, rfl⟩ := hG
      conv => arg 1; whnf
      exact hR
    have c0 : 0 ≤ pc := by simpa using e1
    have cm := hpm c0
    rw [if_neg (by simp at e1 e2 ⊢; omega)] at hG
    obtain ⟨y, y1, y2⟩ := idx_ints (h := h2) (a := pc) hc c0 cm
    have hyg : cells.getD pc.toNat 0 = y := getD_some y1
    rw [hyg] at hG
    conv => arg 1; whnf
    refine atCall_P (lc) ?_
    conv => arg 1; whnf
    refine atCall_P (q0) ?_
    conv => arg 1; whnf
    refine atCall_P (y2) ?_
    conv => arg 1; whnf
    cases e3 : (y == 0)
    · have y0 : ¬ y = 0 := by simpa using e3
      rw [if_neg y0] at hG
      conv => arg 1; whnf
      refine atCall_P (lc) ?_
      conv => arg 1; whnf
      refine atCall_P (q0) ?_
      conv => arg 1; whnf
      refine atCall_P (y2) ?_
      conv => arg 1; whnf
      cases e4 : (y != 1)
      · have y1' : y = 1 := by simpa using e4
        rw [if_neg (by simpa using y1')] at hG
        obtain ⟨f0, fm⟩ := hfi pc.toNat (by omega) (by rw [hyg, y1'])
        obtain ⟨fv', v1, v2⟩ := idx_ints (h := h2) (a := pc) hf c0 (by omega)
        have hfg : first.getD pc.toNat 0 = fv' := getD_some v1
        rw [hfg] at hG f0 fm
        conv => arg 1; whnf
        refine atCall_P (q0) ?_
        conv => arg 1; whnf
        refine atCall_P (v2) ?_
        conv => arg 1; whnf
        have hw : IntKind.i64.wrap (fv' + 1) = fv' + 1 := wrap_small (by omega) (by omega)
        refine ih m' (k + 1) (by omega) (by rw [hz]; exact wrap_succ (by omega)) (by omega) (by omega) (by omega) g1 (by omega) gr (by omega) (by rw [hw]; exact hG)
      · rw [if_pos (by simpa using e4)] at hG
        simp only [Option.some.injEq, Prod.mk.injEq] at hG
        obtain ⟨rfl, rfl⟩ := hG
        conv => arg 1; whnf
        exact hR
    · have y0 : y = 0 := by simpa using e3
      rw [if_pos y0] at hG
      have hw : IntKind.i64.wrap (z + 1) = (k : Int) + 1 := by rw [hz, wrap_small (by omega) (by omega)]
      conv => arg 1; whnf
      refine atCall_P (lc) ?_
      conv => arg 1; whnf
      refine atCall_P (hlc _) ?_
      conv => arg 1; whnf
      cases e5 : (IntKind.i64.wrap (z + 1) != (cells.length : Int))
      · rw [hw] at e5
        rw [if_neg (by simpa using e5)] at hG
        simp only [Option.some.injEq, Prod.mk.injEq] at hG
        obtain ⟨rfl, rfl⟩ := hG
        rw [hz]
        conv => arg 1; whnf
        exact hR
      · rw [hw] at e5
        rw [if_pos (by simpa using e5)] at hG
        simp only [Option.some.injEq, Prod.mk.injEq] at hG
        obtain ⟨rfl, rfl⟩ := hG
        conv => arg 1; whnf
        exact hR
theorem bRG (call rgn n) (x v : AV) (nt : Nt) (hx : IsSig x sigU) (hxw : weakV x = sigUV) (hv : IsNet v nt) (hS : ∀ h, call (.func 72) [] h = some (.ret x, h)) (hCh : hCh call) (hAl : hAl call) (hF1 : hF1 call) (hwl : nt.wires.length ≤ 1000000) (hn : 1000000 < n)
    (lk : List Int) (m0 : Nat)
    (hLk : (chk03 sigU nt).1 = 0 → ∀ v h, IsNet v nt → ∃ r h', call (.func 65) [x, v] h = some (.ret (.hsl r 0 m0 (.known m0)), h') ∧ h'.get r = some (.cells (lk.map intV) 3) ∧ h.next.nat ≤ r.nat ∧ r.nat < h'.next.nat ∧ Kept h.next.nat h h')
    (hrg : ∀ id ops st, rgn id ops st = drawn ⟨Tryz.prog, mu0, call⟩ 30 ops st)
    (v0 e0 : Int)
    (hres : ((chk03 sigU nt).1 ≠ 0 ∧ v0 = 0 ∧ e0 = (chk03 sigU nt).1) ∨ ((chk03 sigU nt).1 = 0 ∧ nt.free ≠ 1 ∧ v0 = 0 ∧ e0 = 62) ∨ ((chk03 sigU nt).1 = 0 ∧ nt.free = 1 ∧ okF sigU nt ∧ (portsL sigU nt).length = m0 ∧ m0 ≤ 1000000 ∧ 0 < m0 ∧ lk.length = m0 ∧
      (∀ i : Nat, i < m0 → 0 ≤ lk.getD i 0 ∧ lk.getD i 0 < m0) ∧ (∀ p ∈ portsL sigU nt, 0 ≤ p.1 → p.1 < nt.cells.length) ∧ (∀ i : Nat, i < nt.cells.length → nt.cells.getD i 0 = 1 → 0 ≤ (firstL sigU nt.cells nt.free).getD i 0 ∧ (firstL sigU nt.cells nt.free).getD i 0 + 1 < m0) ∧
      ∃ m, m ≤ 1000000 ∧ readG (portsL sigU nt) lk (firstL sigU nt.cells nt.free) nt.cells m 0 0 = some (v0, e0))) (h : AH) :
    ∃ h', B tab29 call rgn n 30 Tryz.f30 [v] h = some (.ret (.tup [.int .i64 v0, .int .i64 e0]), h') := by
  suffices hq : ∀ Q : Option (AOut × AH) → Prop, ¬ Q none → (∀ h', Q (some (.ret (.tup [.int .i64 v0, .int .i64 e0]), h'))) → Q (B tab29 call rgn n 30 Tryz.f30 [v] h) from
    hq (fun y => ∃ h', y = some (.ret (.tup [.int .i64 v0, .int .i64 e0]), h')) (by rintro ⟨_, h⟩; cases h) (fun h' => ⟨h', rfl⟩)
  intro Q hN hQ
  have hv0 := hv
  obtain ⟨c, w, rfl, hc, hw⟩ := hv
  have hcs := isL_scalar hc
  have hws := isL_scalar hw
  conv => arg 1; whnf
  refine atCall_P (box_new (cs := [c, .int .i64 nt.free, w]) rfl (by simp only [List.all_cons, hcs, hws, List.all_nil]; rfl)) ?_
  generalize hh_h1 : h.alloc (.cells [c, .int .i64 nt.free, w] 43) = h1 at *
  obtain ⟨a_i1, n_i1, k_h1⟩ := alloc_facts hh_h1
  clear hh_h1 k_h1
  generalize hi_i1 : h.next = i1 at *
  clear hi_i1
  have ln : ∀ h, h.get i1 = some (.cells [c, .int .i64 nt.free, w] 43) → vOf h (aLoad Tryz.prog 43 (.ptr i1 0) h) = some (.ret (.agg [c, .int .i64 nt.free, w]), h) := fun h g => ld_agg (n := 3) g (by kernel_rfl) (by kernel_rfl) (by simp)
  have lf : vOf h1 (aLoad Tryz.prog 3 (.ptr i1 1) h1) = some (.ret (.int .i64 nt.free), h1) := ld_ptr (n := 1) a_i1 (by kernel_rfl) (by kernel_rfl) rfl
  have pC := hCh x (.agg [c, .int .i64 nt.free, w]) nt h1 hx hxw hv0 hwl
  generalize hce : (chk03 sigU nt).1 = ce at pC hres hLk
  generalize (chk03 sigU nt).2 = ca at pC
  conv => arg 1; whnf
  refine atCall_P (ln h1 a_i1) ?_
  conv => arg 1; whnf
  refine atQuiet_P (hS h1) ?_
  conv => arg 1; whnf
  refine atQuiet_P pC ?_
  conv => arg 1; whnf
  cases e1 : (ce != 0)
  rotate_left
  · obtain ⟨_, rfl, rfl⟩ : ce ≠ 0 ∧ v0 = 0 ∧ e0 = ce := by
      rcases hres with h | h | h
      · exact h
      · simp [h.1] at e1
      · simp [h.1] at e1
    conv => arg 1; whnf
    exact atLeave_P (leave_plain (.inl rfl) rfl) (hQ _)
  have c0 : ce = 0 := by simpa using e1
  conv => arg 1; whnf
  refine atCall_P (lf) ?_
  conv => arg 1; whnf
  cases e2 : (nt.free != 1)
  rotate_left
  · obtain ⟨rfl, rfl⟩ : v0 = 0 ∧ e0 = 62 := by
      rcases hres with h | h | h
      · exact absurd c0 h.1
      · exact h.2.2
      · simp [h.2.1] at e2
    conv => arg 1; whnf
    exact atLeave_P (leave_plain (.inl rfl) rfl) (hQ _)
  have f1 : nt.free = 1 := by simpa using e2
  replace hres := (hres.resolve_left (fun h => h.1 c0)).resolve_left (fun h => h.2.1 f1)
  obtain ⟨_, _, ho, hm0, hml, hm1, hll, hlk, hce', hfi, m, hm, hG⟩ := hres
  have isa := listW_isL (enc := portV) (portsL sigU nt)
  have hall := fun h => hAl x (.agg [c, .int .i64 nt.free, w]) sigU nt h hx hv0 ho
  generalize listW portV (portsL sigU nt) = av at isa hall
  have isf := listW_isL (enc := intV) (firstL sigU nt.cells nt.free)
  have hfirst := fun h => hF1 x (.agg [c, .int .i64 nt.free, w]) sigU nt h hx hv0 ho
  unfold firstV at hfirst
  generalize listW intV (firstL sigU nt.cells nt.free) = fv at isf hfirst
  have hfv2 : fv = .nilsl ∨ ∃ xs cc, fv = .vsl xs cc := by
    rcases isf with ⟨h, _⟩ | ⟨cc, h⟩
    · exact .inl h
    · exact .inr ⟨_, cc, h⟩
  conv => arg 1; whnf
  refine atCall_P (ln h1 a_i1) ?_
  conv => arg 1; whnf
  refine atQuiet_P (hS h1) ?_
  conv => arg 1; whnf
  refine atQuiet_P (hall h1) ?_
  obtain ⟨r, h2, q1, q2, q3, q4, q5⟩ := hLk c0 (.agg [c, .int .i64 nt.free, w]) h1 hv0
  have z1 := q5.1 _ _ a_i1 (by omega)
  have kn := q5.2
  conv => arg 1; whnf
  refine atRgn_N true (fun hh => hh.get i1 = some (.cells [c, .int .i64 nt.free, w] 43)) (T := [0, 0, 3, 7]) (ord := [1, 0, 2, 3]) (by kernel_rfl) (hrg _ _ _) hN ?_
  conv => arg 1; whnf
  refine atCall_P (ln h1 a_i1) ?_
  conv => arg 1; whnf
  refine atCall_P (hS h1) ?_
  conv => arg 1; whnf
  refine atCall_P (q1) ?_
  conv => arg 1; whnf
  refine atP_P ⟨?_, (fun k hk hp => match k, hk, hp with | 0, _, _ => a_i1 | 1, _, _ => a_i1 | k + 2, _, _ => z1), (fun a ha => by cases ha), rfl⟩ ?_
  · refine ⟨fun _ hh g => ⟨hh, ln hh g⟩, trivial, trivial, trivial, trivial⟩
  conv => arg 1; whnf
  refine atCall_P (ln h2 z1) ?_
  conv => arg 1; whnf
  refine atQuiet_P (hS h2) ?_
  conv => arg 1; whnf
  refine atQuiet_P (hfirst h2) ?_
  rcases hfv2 with hfv2 | ⟨xs, cc, hfv2⟩
  all_goals
    subst hfv2
    conv => arg 1; whnf
    refine lRG call rgn n i1 r c w av _ nt.free (portsL sigU nt) lk (firstL sigU nt.cells nt.free) nt.cells isa isf hc m0 hml hm0 hll (firstL_len _ _ _) hlk hce' hfi ho.2.1 (v := v0) (e := e0) ?_ m n 0 (by omega) rfl (by omega) (Int.le_refl _) (by omega) z1 (by omega) q2 q4 hG
    intro h3
    intros
    conv => arg 1; whnf
    exact atLeave_P (leave_plain (.inl rfl) rfl) (hQ _)
section
variable {s : List Ag} {n : Nt} (hP : ∀ a, 0 ≤ portsN s a) (hf : 0 ≤ n.free)
include hP hf

/-- At a port's place, in a list made of the ports. -/
theorem at_place {β : Type} {f : Pt → β} {d : β} {p : Pt} (h : isPort s n.cells n.free p = true) : ((portsL s n).map f).getD (placeN s n p).toNat d = f p := by
  obtain ⟨v, h1, h2⟩ := place_at hP hf h
  rw [h1, Int.toNat_natCast, List.getD_eq_getElem?_getD, List.getElem?_map, h2]; rfl
theorem set_place {β : Type} {f : Pt → β} {b : β} {p : Pt} (h : isPort s n.cells n.free p = true) : ((portsL s n).map f).set (placeN s n p).toNat b = (portsL s n).map fun q => if q = p then b else f q := by
  obtain ⟨v, h1, h2⟩ := place_at hP hf h
  rw [h1, Int.toNat_natCast]
  obtain ⟨hl, hv⟩ := List.getElem?_eq_some_iff.1 h2
  apply List.ext_getElem (by simp)
  intro i i1 i2
  simp only [List.length_map] at i2
  rw [List.getElem_set, List.getElem_map, List.getElem_map]
  by_cases hi : v = i
  · subst hi
    rw [if_pos rfl, if_pos hv]
  · rw [if_neg hi, if_neg]
    intro he
    have hpw := List.pairwise_iff_getElem.1 (nodup_ports s n)
    rcases Nat.lt_or_gt_of_ne hi with hlt | hlt
    · exact hpw v i hl i2 hlt (by rw [hv, he])
    · exact hpw i v i2 hl hlt (by rw [hv, he])

theorem wires_eq : ∀ (W : List Wr) (i : Nat) (S : Sn), wires03 s n W i ((portsL s n).map S) = match wiresF s n.cells n.free W i S with | .inl e => .inl e | .inr S' => .inr ((portsL s n).map S')
  | [], _, _ => rfl
  | w :: r, i, S => by
    simp only [wires03, wiresF]
    cases hA : isPort s n.cells n.free (wA w) with
    | false => rw [if_pos (.inl (by rw [place_no hA]; omega))]; rfl
    | true =>
      obtain ⟨a, a1, _⟩ := place_at hP hf hA
      cases hB : isPort s n.cells n.free (wB w) with
      | false => rw [if_pos (.inr (by rw [place_no hB]; omega))]; rfl
      | true =>
        obtain ⟨b, b1, _⟩ := place_at hP hf hB
        rw [if_neg (by omega), at_place hP hf hA, at_place hP hf hB]
        simp only [Bool.not_true, Bool.or_self, cond_false]
        cases e2 : (S (wA w) || S (wB w) || (wA w == wB w)) with
        | true =>
          rw [if_pos]
          · rfl
          simp only [Bool.or_eq_true, beq_iff_eq] at e2
          rcases e2 with (h | h) | h
          · exact .inl h
          · exact .inr (.inl h)
          · exact .inr (.inr (by rw [h]))
        | false =>
          simp only [Bool.or_eq_false_iff, beq_eq_false_iff_ne, ne_eq] at e2
          obtain ⟨⟨h1, h2⟩, h3⟩ := e2
          rw [if_neg]
          · rw [set_place hP hf hA, set_place hP hf hB]
            exact wires_eq r (i + 1) (addS (addS S (wA w)) (wB w))
          · rintro (h | h | h)
            · rw [h1] at h; cases h
            · rw [h2] at h; cases h
            · exact h3 (place_inj hP hf hA hB h)

omit hP hf in
theorem open_eq (S : Sn) : ∀ (ps : List Pt) (i : Nat), open03 (ps.map S) i = openF S ps i
  | [], _ => rfl
  | p :: r, i => by
    simp only [List.map_cons, open03, openF]
    rw [open_eq S r]

omit hf in
theorem chk_eq (h0 : (sigChk s).1 = 0) : chk03 s n = netChk s n := by
  unfold chk03 netChk
  rw [if_neg (show ¬ (sigChk s).1 ≠ 0 by simpa using h0)]
  split
  · rfl
  split
  · rfl
  rename_i h1 h2
  have hf : 0 ≤ n.free := by omega
  cases badCell s.length n.cells 0 with
  | some i => rfl
  | none =>
    simp only
    have hL : List.replicate (mostN s n.cells n.free).toNat false = (portsL s n).map fun _ => false := by
      rw [most_eq hP hf, Int.toNat_natCast, List.map_const']
    rw [hL, wires_eq hP hf]
    cases wiresF s n.cells n.free n.wires 0 fun _ => false with
    | inl e => rfl
    | inr S' => exact open_eq S' _ 0

/-- A link, as a number. -/
def vP (s : List Ag) (n : Nt) (M : Lk) : Pt → Int := fun p => match M p with | some q => placeN s n q | none => 0
theorem links_eq : ∀ (W : List Wr) (M : Lk), (∀ p ∈ ends W, isPort s n.cells n.free p = true) → links03 s n W ((portsL s n).map (vP s n M)) = (portsL s n).map (vP s n (linkP W M))
  | [], _, _ => rfl
  | w :: r, M, h => by
    simp only [links03, linkP]
    rw [set_place hP hf (h (wA w) (by simp [ends])), set_place hP hf (h (wB w) (by simp [ends])), ← links_eq r _ (fun p hp => h p (by simp [ends, hp]))]
    congr 1
    apply List.map_congr_left
    intro p _
    unfold vP updP
    by_cases n1 : p = wB w
    · rw [if_pos n1]; simp only [n1, if_true]
    · rw [if_neg n1]
      by_cases n2 : p = wA w
      · subst n2
        rw [if_pos rfl]; simp only [if_neg n1, if_true]
      · rw [if_neg n2]; simp only [if_neg n1, if_neg n2]
end

theorem links_good {s : List Ag} {n : Nt} (g : Good s n) : links03 s n n.wires (List.replicate (portsL s n).length 0) = (portsL s n).map (vP s n (linksOf n.wires)) := by
  have hP := fun a => (sigChk_ports g.sg a).1
  rw [← List.map_const', show (fun (_ : Pt) => (0 : Int)) = vP s n (fun _ => none) from rfl]
  exact links_eq hP g.f0 n.wires _ g.ip

/-! ### Reading -/

def readF (M : Lk) (cells : List Int) : Nat → Nat → Pt → Option (Int × Int)
  | 0, _, _ => none
  | m + 1, k, p =>
    if (valN M p).1 < 0 ∨ (valN M p).2 ≠ 0 then some (0, 62)
    else if cells.getD (valN M p).1.toNat 0 = 0 then (if (k : Int) + 1 ≠ cells.length then some (0, 62) else some (k, 0))
    else if cells.getD (valN M p).1.toNat 0 ≠ 1 then some (0, 62)
    else readF M cells m (k + 1) ((valN M p).1, 1)

theorem len_bound : ∀ (n : Nat) (l : List Nat), l.Nodup → (∀ x ∈ l, x < n) → l.length ≤ n
  | 0, l, _, h => by
    cases l with
    | nil => simp
    | cons x r => exact absurd (h x (by simp)) (by omega)
  | n + 1, l, hn, h => by
    have h1 := len_bound n (l.erase n) (hn.erase n) (fun x hx => by
      have := h x (List.mem_of_mem_erase hx)
      have hne : x ≠ n := by rintro rfl; exact (hn.not_mem_erase hx)
      omega)
    have h2 : l.length ≤ (l.erase n).length + 1 := by
      rw [List.length_erase]; split <;> omega
    omega

structure RV (M : Lk) (cells : List Int) (V : List Nat) (p : Pt) : Prop where
  nd : V.Nodup
  lt : ∀ c ∈ V, c < cells.length
  pr : ∀ c ∈ V, valN M ((c : Int), 0) = (-1, 0) ∨ ∃ c' ∈ V, valN M ((c : Int), 0) = ((c' : Int), 1)
  ne : ∀ c ∈ V, valN M ((c : Int), 0) ≠ p
  at' : p = (-1, 0) ∨ ∃ c' ∈ V, p = ((c' : Int), 1)

theorem portsU1 : portsN sigU 1 = 2 := by decide
theorem cell_port {s : List Ag} {n : Nt} {c : Nat} {a : Int} {k : Int} (hc : n.cells[c]? = some a) (h0 : 0 ≤ k) (hk : k < portsN s a) : ((c : Int), k) ∈ portsL s n := by
  unfold portsL
  rw [List.mem_append]
  right
  exact mem_cells.2 ⟨c, a, hc, by simp, h0, hk⟩

theorem getD_get {l : List Int} {c : Nat} {a : Int} (h : l.getD c 0 = a) (hl : c < l.length) : l[c]? = some a := by
  rw [List.getD_eq_getElem?_getD, List.getElem?_eq_getElem hl] at h
  rw [List.getElem?_eq_getElem hl, ← h]; rfl

theorem port_cell {s : List Ag} {n : Nt} {p : Pt} (hp : p ∈ portsL s n) (h0 : 0 ≤ p.1) : p.1.toNat < n.cells.length ∧ ((p.1.toNat : Nat) : Int) = p.1 := by
  refine ⟨?_, by omega⟩
  unfold portsL at hp
  rcases List.mem_append.1 hp with h | h
  · have := (mem_free.1 h).1; omega
  · obtain ⟨i, a, h1, h2, _⟩ := mem_cells.1 h
    have := (List.getElem?_eq_some_iff.1 h1).1
    omega

theorem readF_some {n : Nt} (g : Good sigU n) : ∀ (m k : Nat) (V : List Nat) (p : Pt), p ∈ portsL sigU n → RV (linksOf n.wires) n.cells V p → n.cells.length < m + V.length → ∃ y, readF (linksOf n.wires) n.cells m k p = some y
  | 0, k, V, p, hp, r, hm => by have := len_bound n.cells.length V r.nd r.lt; omega
  | m + 1, k, V, p, hp, r, hm => by
    obtain ⟨i1, i2, i3, i4⟩ := g.inv.val hp
    simp only [readF]
    split
    · exact ⟨_, rfl⟩
    rename_i h1
    split
    · split <;> exact ⟨_, rfl⟩
    split
    · exact ⟨_, rfl⟩
    rename_i h2 h3
    simp only [not_or, Int.not_lt, ne_eq, Decidable.not_not] at h1 h3
    obtain ⟨c1, c2⟩ := port_cell i1 h1.1
    have hq : valN (linksOf n.wires) p = (((valN (linksOf n.wires) p).1.toNat : Int), 0) := by
      ext
      · exact c2.symm
      · exact h1.2
    generalize (valN (linksOf n.wires) p).1.toNat = c at c1 c2 hq h3
    rw [hq] at i3 i4
    have hc1 := cell_port (s := sigU) (k := 1) (getD_get h3 c1) (by omega) (by rw [portsU1]; omega)
    have hnV : c ∉ V := fun hc => r.ne c hc i3
    rw [← c2]
    refine readF_some g m (k + 1) (c :: V) _ hc1 ⟨List.nodup_cons.2 ⟨hnV, r.nd⟩, ?_, ?_, ?_, .inr ⟨c, by simp, rfl⟩⟩ (by simp; omega)
    · intro x hx
      rcases List.mem_cons.1 hx with rfl | hx
      · exact c1
      · exact r.lt x hx
    · intro x hx
      rcases List.mem_cons.1 hx with rfl | hx
      · rw [i3]
        rcases r.at' with h | ⟨c', h, h'⟩
        · exact .inl h
        · exact .inr ⟨c', List.mem_cons_of_mem _ h, h'⟩
      · rcases r.pr x hx with h | ⟨c', h, h'⟩
        · exact .inl h
        · exact .inr ⟨c', List.mem_cons_of_mem _ h, h'⟩
    · intro x hx he
      rcases List.mem_cons.1 hx with rfl | hx
      · rw [i3] at he
        rcases r.at' with h | ⟨c', h, h'⟩
        · rw [h] at he; simp at he
        · rw [h'] at he; simp at he
          exact hnV (by have : c' = x := by omega
                        rw [← this]; exact h)
      · rcases r.pr x hx with h | ⟨c', h, h'⟩
        · rw [h] at he; simp at he
        · rw [h'] at he; simp at he
          exact hnV (by have : c' = c := by omega
                        rw [← this]; exact h)

theorem readF_ex {n : Nt} (g : Good sigU n) (h1 : n.free = 1) : ∃ y, readF (linksOf n.wires) n.cells (n.cells.length + 1) 0 (-1, 0) = some y :=
  readF_some g _ 0 [] (-1, 0) (by unfold portsL; rw [List.mem_append]; exact .inl (mem_free.2 ⟨rfl, by simp, by simp [h1]⟩)) ⟨.nil, by simp, by simp, by simp, .inl rfl⟩ (by simp)

theorem readG_eq {n : Nt} (g : Good sigU n) : ∀ (m k : Nat) (p : Pt), p ∈ portsL sigU n →
    readG (portsL sigU n) ((portsL sigU n).map (vP sigU n (linksOf n.wires))) (firstL sigU n.cells n.free) n.cells m k (placeN sigU n p) = readF (linksOf n.wires) n.cells m k p
  | 0, _, _, _ => rfl
  | m + 1, k, p, hp => by
    have hP := fun a => (sigChk_ports g.sg a).1
    obtain ⟨i1, i2, i3, i4⟩ := g.inv.val hp
    have e1 : ((portsL sigU n).map (vP sigU n (linksOf n.wires))).getD (placeN sigU n p).toNat 0 = placeN sigU n (valN (linksOf n.wires) p) := by
      rw [at_place hP g.f0 (isPort_iff.2 hp)]
      unfold vP; rw [i2]
    have e2 : (portsL sigU n).getD (placeN sigU n (valN (linksOf n.wires) p)).toNat (0, 0) = valN (linksOf n.wires) p := by
      have := at_place (f := fun p => p) (d := (0, 0)) hP g.f0 (isPort_iff.2 i1)
      simpa using this
    simp only [readG, readF, e1, e2]
    split
    · rfl
    rename_i h1
    split
    · rfl
    split
    · rfl
    rename_i h2 h3
    simp only [not_or, Int.not_lt, ne_eq, Decidable.not_not] at h1 h3
    obtain ⟨c1, c2⟩ := port_cell i1 h1.1
    have hc1 := cell_port (s := sigU) (k := 1) (getD_get h3 c1) (by omega) (by rw [portsU1]; omega)
    rw [c2] at hc1
    have e3 : (firstL sigU n.cells n.free).getD (valN (linksOf n.wires) p).1.toNat 0 + 1 = placeN sigU n ((valN (linksOf n.wires) p).1, 1) := by
      unfold placeN
      rw [if_neg (by simp; omega), if_neg (by rw [isPort_iff.2 hc1]; simp)]
    rw [e3]
    exact readG_eq g m (k + 1) _ hc1
end Go.Proofs.Nt

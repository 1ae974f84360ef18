/-
  net.Tidy: its body.
-/
import Derived.Test.YtlbjljfglmohgaaSkX7
import Derived.Test.YtlbjljfglmohgaaNtM2
namespace Go.Proofs.Nt
open Go.Sk
set_option linter.unusedVariables false
set_option linter.unusedSimpArgs false
set_option maxRecDepth 10000

theorem alloc_facts {h h1 : AH} {o : AO} (hh : h.alloc o = h1) : h1.get h.next = some o ∧ h1.next.nat = h.next.nat + 1 ∧ ∀ q o', h.get q = some o' → q.nat < h.next.nat → h1.get q = some o' := by
  subst hh
  exact ⟨by rw [AH.get_alloc, if_pos rfl], by rw [AH.next_alloc, Id.nat_succ], fun q o' hq hlt => kept_alloc hq hlt⟩

/-- What each port is linked to, ports alone. -/
abbrev Lk := Int × Int → Option (Int × Int)
def updP (M : Lk) (p q : Int × Int) : Lk := fun x => if x = p then some q else M x
def linkP : List Wr → Lk → Lk
  | [], M => M
  | w :: r, M => linkP r (updP (updP M (wA w) (wB w)) (wB w) (wA w))
theorem linkM_P : ∀ (W : List Wr) (M : Lk), linkM W (fun p => (M p).map portV) = fun p => (linkP W M p).map portV
  | [], M => rfl
  | w :: r, M => by
    have key : ∀ (M : Lk) p q, updM (fun p => (M p).map portV) p (portV q) = fun x => (updP M p q x).map portV := by
      intro M p q; funext x; unfold updM updP; split <;> rfl
    simp only [linkM, linkP, key]
    exact linkM_P r _
def linksOf (W : List Wr) : Lk := linkP W fun _ => none
theorem linkM_of (W : List Wr) : linkM W (fun _ => none) = fun p => (linksOf W p).map portV := linkM_P W fun _ => none

theorem ld_val {P : Program} {t : TypeId} {p v : AV} {h : AH} (hl : vOf h (aLoad P t p h) = some (.ret v, h)) : aLoad P t p h = some v := by
  cases hv : aLoad P t p h with
  | none => rw [hv] at hl; cases hl
  | some u => rw [hv] at hl; simp only [vOf, Option.some.injEq, Prod.mk.injEq, AOut.ret.injEq] at hl; rw [hl.1]

def tidyN (s : List Ag) (n : Nt) : Nt := ⟨n.cells, n.free, wiresN (linksOf n.wires) (portsL s n) []⟩

structure C13 (call : CallT) (x : AV) (s : List Ag) (W : List Wr) : Prop where
  c25 : ∀ {v n} h, IsNet v n → n.wires.length ≤ 1000000000 → call (.func 25) [x, v] h = some (.ret (.int .i64 (netChk s n).1), h)
  c27 : ∀ {c w f} h, IsL w (W.map wireV) → W.length ≤ 1000000000 → c.scalar = true → ∃ r h', call (.func 27) [.agg [c, .int .i64 f, w]] h = some (.ret (.map r), h') ∧ MapAt h' r (linkM W fun _ => none) ∧ h.next.nat ≤ r.nat ∧ r.nat < h'.next.nat ∧ Kept h.next.nat h h'
  c26 : ∀ {c f cells r N} h, (∀ a, 0 ≤ portsN s a ∧ portsN s a ≤ 7) → IsL c (cells.map intV) → cells.length ≤ 4096 → f ≤ 64 → MapAt h r (fun p => (N p).map portV) → r.nat < h.next.nat →
    ∃ u h', call (.func 26) [x, c, .int .i64 f, .map r] h = some (.ret u, h') ∧ IsNet1 u ⟨cells, f, wiresN N (freePorts f ++ cellsPorts s cells 0) []⟩ ∧ KeptC h.next.nat h h'

theorem chk_ok {s : List Ag} {n : Nt} (h : (netChk s n).1 = 0) : (sigChk s).1 = 0 ∧ n.cells.length ≤ 4096 ∧ n.free ≤ 64 ∧ 0 ≤ n.free := by
  unfold netChk at h
  split at h
  · rename_i h0; exact absurd h h0
  · rename_i h0
    split at h
    · simp at h
    · rename_i h1
      split at h
      · simp at h
      · rename_i h2
        refine ⟨by simpa using h0, by omega, by omega, by omega⟩

theorem b13 (call rgn n) (x v : AV) (s : List Ag) (nt : Nt) (hx : IsSig x s) (hv : IsNet v nt) (hl : nt.wires.length ≤ 1000000000) (C : C13 call x s nt.wires) (hrg : ∀ id ops st, rgn id ops st = drawn ⟨Try.prog, mu0, call⟩ 13 ops st) (h : AH) :
    ((netChk s nt).1 = 0 → ∃ u h', B shT call rgn n 13 Try.f13 [x, v] h = some (.ret (.tup [u, .int .i64 0]), h') ∧ IsNet1 u (tidyN s nt)) ∧
    ((netChk s nt).1 ≠ 0 → ∃ h', B shT call rgn n 13 Try.f13 [x, v] h = some (.ret (.tup [.agg [.nilsl, .int .i64 0, .nilsl], .int .i64 (netChk s nt).1]), h')) := by
  suffices hq : ∀ Q : Option (AOut × AH) → Prop, ¬ Q none → ((netChk s nt).1 = 0 → ∀ u h', IsNet1 u (tidyN s nt) → Q (some (.ret (.tup [u, .int .i64 0]), h'))) →
      ((netChk s nt).1 ≠ 0 → ∀ h', Q (some (.ret (.tup [.agg [.nilsl, .int .i64 0, .nilsl], .int .i64 (netChk s nt).1]), h'))) → Q (B shT call rgn n 13 Try.f13 [x, v] h) by
    refine ⟨fun h0 => hq (fun y => ∃ u h', y = some (.ret (.tup [u, .int .i64 0]), h') ∧ IsNet1 u (tidyN s nt)) (by rintro ⟨_, _, h, _⟩; cases h) (fun _ u h' h1 => ⟨u, h', rfl, h1⟩) (fun h1 => absurd h0 h1),
      fun h0 => hq (fun y => ∃ h', y = some (.ret (.tup [.agg [.nilsl, .int .i64 0, .nilsl], .int .i64 (netChk s nt).1]), h')) (by rintro ⟨_, h⟩; cases h) (fun h1 => absurd h1 h0) (fun _ h' => ⟨h', rfl⟩)⟩
  intro Q hN hT hF
  obtain ⟨c, w, rfl, hc, hw⟩ := hv
  have hcs := isL_scalar hc
  have hws := isL_scalar hw
  conv => arg 1; whnf
  refine atCall_P (box_new (cs := [c, .int .i64 nt.free, w]) rfl (by simp only [List.all_cons, hcs, hws, List.all_nil]; rfl)) ?_
  generalize hh_h1 : h.alloc (.cells [c, .int .i64 nt.free, w] 26) = h1 at *
  obtain ⟨a_i3, n_i3, k_h1⟩ := alloc_facts hh_h1
  clear hh_h1 k_h1
  generalize hi_i3 : h.next = i3 at *
  clear hi_i3
  conv => arg 1; whnf
  refine atCall_P (alloc_new (z := .agg [.nilsl, .int .i64 0, .nilsl]) (cs := [.nilsl, .int .i64 0, .nilsl]) (by kernel_rfl) rfl rfl) ?_
  generalize hh_h2 : h1.alloc (.cells [.nilsl, .int .i64 0, .nilsl] 26) = h2 at *
  obtain ⟨a_i4, n_i4, k_h2⟩ := alloc_facts hh_h2
  replace a_i3 := k_h2 _ _ a_i3 (by omega)
  clear hh_h2 k_h2
  generalize hi_i4 : h1.next = i4 at *
  clear hi_i4
  have l3 : ∀ h2, h2.get i3 = some (.cells [c, .int .i64 nt.free, w] 26) → vOf h2 (aLoad Try.prog 26 (.ptr i3 0) h2) = some (.ret (.agg [c, .int .i64 nt.free, w]), h2) := fun h2 g => ld_agg (n := 3) g (by kernel_rfl) (by kernel_rfl) (by simp)
  conv => arg 1; whnf
  refine atCall_P (l3 h2 a_i3) ?_
  conv => arg 1; whnf
  refine atCall_P (C.c25 h2 ⟨c, w, rfl, hc, hw⟩ hl) ?_
  conv => arg 1; whnf
  cases e0 : ((netChk s nt).1 != 0)
  · have e1 : (netChk s nt).1 = 0 := by simpa using e0
    obtain ⟨p1, p2, p3, p4⟩ := chk_ok e1
    conv => arg 1; whnf
    refine atRgn_N true (fun hh => hh.get i3 = some (.cells [c, .int .i64 nt.free, w] 26)) (T := [0, 0, 2, 0, 8, 0, 32, 127, 255, 511]) (ord := [0, 1, 2, 3, 4, 5, 6, 7, 8, 9]) (by kernel_rfl) (hrg _ _ _) hN ?_
    have lc : ∀ h2, h2.get i3 = some (.cells [c, .int .i64 nt.free, w] 26) → vOf h2 (aLoad Try.prog 23 (.ptr i3 0) h2) = some (.ret c, h2) := fun h2 g => ld_ptr (n := 1) g (by kernel_rfl) (by kernel_rfl) rfl
    have lf : ∀ h2, h2.get i3 = some (.cells [c, .int .i64 nt.free, w] 26) → vOf h2 (aLoad Try.prog 3 (.ptr i3 1) h2) = some (.ret (.int .i64 nt.free), h2) := fun h2 g => ld_ptr (n := 1) g (by kernel_rfl) (by kernel_rfl) rfl
    obtain ⟨r, h3, q1, q2, q3, q4, q5⟩ := C.c27 (c := c) (f := nt.free) h2 hw hl hcs
    rw [linkM_of] at q2
    obtain ⟨u, h4, u1, u2, u3⟩ := C.c26 h3 (sigChk_ports p1) hc p2 p3 q2 q4
    have k3 := q5.1 _ _ a_i3 (by omega)
    have m3 := q5.1 _ _ a_i4 (by omega)
    have k4 := u3.1 _ _ k3 (by simp) (by have := q5.2; omega)
    have m4 := u3.1 _ _ m3 (by simp) (by have := q5.2; omega)
    conv => arg 1; whnf
    refine atCall_P (lc h2 a_i3) ?_
    conv => arg 1; whnf
    refine atCall_P (lf h2 a_i3) ?_
    conv => arg 1; whnf
    refine atCall_P (l3 h2 a_i3) ?_
    conv => arg 1; whnf
    refine atCall_P (q1) ?_
    conv => arg 1; whnf
    refine atCall_P (u1) ?_
    obtain ⟨cc, wl, rfl, hwl⟩ := u2
    have hwl' : wl.scalar = true := by rcases hwl with ⟨rfl, _⟩ | ⟨_, rfl, _⟩ <;> rfl
    have st : hOf (aStore Try.prog 26 (.ptr i4 0) (.agg [.vsl (nt.cells.map intV) cc, .int .i64 nt.free, wl]) h4) = some (.ret undefA, h4.set i4 (.cells [.vsl (nt.cells.map intV) cc, .int .i64 nt.free, wl] 26)) :=
      st_ptr (n := 3) m4 (by kernel_rfl) rfl (by simp) (by show (_ && (_ && (wl.scalar && true))) = true; rw [hwl']; rfl)
    conv => arg 1; whnf
    refine atCall_P (st) ?_
    have i34 : i3 ≠ i4 := by rintro rfl; omega
    have k5 : (h4.set i4 (.cells [.vsl (nt.cells.map intV) cc, .int .i64 nt.free, wl] 26)).get i3 = some (.cells [c, .int .i64 nt.free, w] 26) := by rw [AH.get_set, if_neg i34]; exact k4
    have ld : aLoad Try.prog 26 (.ptr i4 0) (h4.set i4 (.cells [.vsl (nt.cells.map intV) cc, .int .i64 nt.free, wl] 26)) = some (.agg [.vsl (nt.cells.map intV) cc, .int .i64 nt.free, wl]) :=
      ld_val (ld_agg (r := i4) (off := 0) (cs := [.vsl (nt.cells.map intV) cc, .int .i64 nt.free, wl]) (T := 26) (n := 3) (by rw [AH.get_set, if_pos rfl]) (by kernel_rfl) (by kernel_rfl) (by simp))
    conv => arg 1; whnf
    refine atP_P ⟨?_, (fun k hk hp => match k, hk, hp with | 0, _, _ => a_i3 | 1, _, _ => k3 | 2, _, _ => k4 | k + 3, _, _ => k5), (fun a ha => by cases ha), rfl⟩ ?_
    · refine ⟨trivial, trivial, fun _ hh g => ⟨hh, lc hh g⟩, trivial, fun _ hh g => ⟨hh, lf hh g⟩, fun _ hh g => ⟨hh, l3 hh g⟩, trivial, trivial, trivial, trivial, trivial⟩
    conv => arg 1; whnf
    refine atLeave_P (leave_plain (.inl rfl) (l := [.agg [.vsl (nt.cells.map intV) cc, .int .i64 nt.free, wl], .int .i64 0]) ?_) (hT e1 _ _ ⟨cc, wl, rfl, hwl⟩)
    show (match aLoad Try.prog 26 (.ptr i4 0) (h4.set i4 (.cells [.vsl (nt.cells.map intV) cc, .int .i64 nt.free, wl] 26)), some [AV.int .i64 0] with | some v, some l => some (v :: l) | _, _ => none) = _
    rw [ld]
  · have e1 : (netChk s nt).1 ≠ 0 := by simpa using e0
    conv => arg 1; whnf
    have st : hOf (aStore Try.prog 26 (.ptr i4 0) (.agg [.nilsl, .int .i64 0, .nilsl]) h2) = some (.ret undefA, h2.set i4 (.cells [.nilsl, .int .i64 0, .nilsl] 26)) := st_ptr (n := 3) a_i4 (by kernel_rfl) rfl (by simp) rfl
    refine atCall_P st ?_
    conv => arg 1; whnf
    have ld : aLoad Try.prog 26 (.ptr i4 0) (h2.set i4 (.cells [.nilsl, .int .i64 0, .nilsl] 26)) = some (.agg [.nilsl, .int .i64 0, .nilsl]) := ld_val (ld_agg (r := i4) (off := 0) (cs := [.nilsl, .int .i64 0, .nilsl]) (T := 26) (n := 3) (by rw [AH.get_set, if_pos rfl]) (by kernel_rfl) (by kernel_rfl) (by simp))
    refine atLeave_P (leave_plain (.inl rfl) (l := [.agg [.nilsl, .int .i64 0, .nilsl], .int .i64 (netChk s nt).1]) ?_) (hF e1 _)
    show (match aLoad Try.prog 26 (.ptr i4 0) (h2.set i4 (.cells [.nilsl, .int .i64 0, .nilsl] 26)), some [AV.int .i64 (netChk s nt).1] with | some v, some l => some (v :: l) | _, _ => none) = _
    rw [ld]
end Go.Proofs.Nt

/-
  The contract of net.Tidy.
-/
namespace Go.Proofs.Nt
open Go.Sk
set_option linter.unusedVariables false
set_option linter.unusedSimpArgs false
set_option maxRecDepth 10000

theorem h25_of {hk : Hooks} {n : Nat} (hk25' : ∀ args h, hk 25 args h = hk25 25 args h) (hn : 0 < n) {x v : AV} {s : List Ag} {nt : Nt} (h : AH) (hx : IsSig x s) (hv : IsNet v nt) (hl : nt.wires.length ≤ 1000000000) :
    evCall (mkEv Try.prog mu0 hk) n (.func 25) [x, v] h = some (.ret (.int .i64 (netChk s nt).1), h) := ev_hk (by
  rw [hk25']
  refine hk_top (by simp [freeL, sig_free hx, net_free hv]) ?_
  show (match sigOf (weakV x), netOf (weakV v) with
    | some s, some n => if n.wires.length ≤ 1000000000 then some (AV.int .i64 (netChk s n).1) else none
    | _, _ => none) = _
  rw [sigOf_of hx, netOf_of hv]; simp only [if_pos hl]) hn

theorem c13 {m : Nat} (x : AV) (s : List Ag) (W : List Wr) (hx : IsSig x s) (hm : W.length + 5010 < m) : C13 (evCall (mkEv Try.prog mu0 hk25) m) x s W where
  c25 := fun h hv hl => h25_of (fun _ _ => rfl) (by omega) h hx hv hl
  c27 := fun {c w f} h hw hl hc => by
    obtain ⟨k, rfl⟩ : ∃ k, m = k + 1 := ⟨m - 1, by omega⟩
    obtain ⟨r, h', q1, q2⟩ := b27 (evCall (mkEv Try.prog mu0 hk25) k) (rg Try.prog mu0 hk25 k 27) k c w f W hw hl (by omega) h hc
    exact ⟨r, h', ev_of_cBodyS tab27 rfl Try.func27 rfl fits27 q1, q2⟩
  c26 := fun {c f cells r N} h hP hc hcl hf hM hr => by
    obtain ⟨k, rfl⟩ : ∃ k, m = k + 1 + 1 := ⟨m - 2, by omega⟩
    have hpl : (freePorts f ++ cellsPorts s cells 0).length ≤ 100000000 := by
      have h1 : (freePorts f).length ≤ 64 := by unfold freePorts; rw [List.length_map, List.length_range']; omega
      have h2 : ∀ (cells : List Int) (i : Nat), (cellsPorts s cells i).length ≤ 7 * cells.length := by
        intro cells
        induction cells with
        | nil => intro i; simp [cellsPorts]
        | cons a r ih =>
          intro i
          have := ih (i + 1)
          have := hP a
          simp only [cellsPorts, cellPorts, List.length_append, List.length_map, List.length_range', List.length_cons]
          omega
      have := h2 cells 0
      rw [List.length_append]; omega
    obtain ⟨u, h', q1, q2⟩ := b26 (evCall (mkEv Try.prog mu0 hk25) (k + 1)) (evCall (mkEv Try.prog mu0 hk25) k) (rg Try.prog mu0 hk25 (k + 1) 26) (k + 1) x c (.map r) s cells f r N rfl hx hc (c26 (by omega) x s hx hP) hcl hf hpl h hM hr
    exact ⟨u, h', ev_of_cBodyS shT rfl Try.func26 rfl (by kernel_rfl) q1, q2⟩

/-- A net's value, as a contract answers it. -/
def netW (n : Nt) : AV := .agg [.vsl (n.cells.map intV) .unk, .int .i64 n.free, match n.wires with | [] => .nilsl | w :: r => .vsl ((w :: r).map wireV) .unk]
theorem isNet_W (n : Nt) : IsNet (netW n) n := by
  refine ⟨_, _, rfl, .inr ⟨_, rfl⟩, ?_⟩
  cases n.wires with
  | nil => exact .inl ⟨rfl, rfl⟩
  | cons w r => exact .inr ⟨_, rfl⟩
theorem isNet1_weak {u : AV} {n : Nt} (h : IsNet1 u n) : weakV u = netW n ∧ freeV u = true := by
  obtain ⟨cc, w, rfl, hw⟩ := h
  have e1 : weakL (n.cells.map intV) = n.cells.map intV := weakL_enc (fun _ => rfl) _
  have e2 : weakL (n.wires.map wireV) = n.wires.map wireV := weakL_enc (fun _ => rfl) _
  have f1 : freeL (n.cells.map intV) = true := freeL_enc (fun _ => rfl) _
  have f2 : freeL (n.wires.map wireV) = true := freeL_enc (fun _ => rfl) _
  rcases hw with ⟨rfl, h1⟩ | ⟨c, rfl, h1⟩
  · constructor
    · show AV.agg [.vsl (weakL (n.cells.map intV)) .unk, .int .i64 n.free, .nilsl] = _
      rw [e1]; unfold netW; rw [h1]
    · show (freeL (n.cells.map intV) && _) = true
      rw [f1]; rfl
  · constructor
    · show AV.agg [.vsl (weakL (n.cells.map intV)) .unk, .int .i64 n.free, .vsl (weakL (n.wires.map wireV)) .unk] = _
      rw [e1, e2]; unfold netW
      cases hw : n.wires with
      | nil => exact absurd hw h1
      | cons w r => rfl
    · show (freeL (n.cells.map intV) && (true && (freeL (n.wires.map wireV) && true))) = true
      rw [f1, f2]; rfl

def zNet : AV := .agg [.nilsl, .int .i64 0, .nilsl]
def tidyV (s : List Ag) (n : Nt) : AV := if (netChk s n).1 = 0 then .tup [netW (tidyN s n), .int .i64 0] else .tup [zNet, .int .i64 (netChk s n).1]
def s13 : List AV → Option AV
  | [x, v] => match sigOf x, netOf v with
    | some s, some n => if n.wires.length ≤ 1000000000 then some (tidyV s n) else none
    | _, _ => none
  | _ => none
def hk13 := addHk hk25 13 s13

theorem E13 : EvOK (mkEv Try.prog mu0 hk13) := mkEv_add3 E25 fun args v hs => by
  unfold s13 at hs; split at hs
  · rename_i x v'
    split at hs
    · rename_i s n h1 h2
      split at hs
      · rename_i hl
        cases hs
        have hx := decL_inv h1
        obtain ⟨b1, b2⟩ := b13 (evCall (mkEv Try.prog mu0 hk25) (n.wires.length + 6000)) (rg Try.prog mu0 hk25 (n.wires.length + 6000) 13) (n.wires.length + 6000) x v' s n hx (netOf_inv h2) hl (c13 x s n.wires hx (by omega)) (fun _ _ _ => rfl) .empty
        by_cases h0 : (netChk s n).1 = 0
        · obtain ⟨u, h', q1, q2⟩ := b1 h0
          obtain ⟨w1, w2⟩ := isNet1_weak q2
          refine ⟨.tup [u, .int .i64 0], by show (freeV u && true) = true; rw [w2]; rfl, ?_, ev_ofS shT rfl Try.func13 rfl (by kernel_rfl) q1⟩
          unfold tidyV; rw [if_pos h0]
          show _ = AV.tup [weakV u, .int .i64 0]
          rw [w1]
        · obtain ⟨h', q1⟩ := b2 h0
          refine ⟨.tup [zNet, .int .i64 (netChk s n).1], rfl, ?_, ev_ofS shT rfl Try.func13 rfl (by kernel_rfl) q1⟩
          unfold tidyV; rw [if_neg h0]; rfl
      · cases hs
    · cases hs
  · cases hs

def h13 (call : CallT) : Prop := ∀ x v s n h, IsSig x s → IsNet v n → n.wires.length ≤ 1000000000 → call (.func 13) [x, v] h = some (.ret (tidyV s n), h)
theorem h13_of {hk : Hooks} {n : Nat} (hk13' : ∀ args h, hk 13 args h = hk13 13 args h) (hn : 0 < n) : h13 (evCall (mkEv Try.prog mu0 hk) n) := fun x v s nt h hx hv hl => ev_hk (by
  rw [hk13']
  refine hk_top (by simp [freeL, sig_free hx, net_free hv]) ?_
  show (match sigOf (weakV x), netOf (weakV v) with
    | some s, some n => if n.wires.length ≤ 1000000000 then some (tidyV s n) else none
    | _, _ => none) = _
  rw [sigOf_of hx, netOf_of hv]; simp only [if_pos hl]) hn
end Go.Proofs.Nt

/-
  rule.Check.
-/
namespace Go.Proofs.Nt
open Go.Sk
set_option linter.unusedVariables false
set_option linter.unusedSimpArgs false
set_option maxRecDepth 10000

structure Rl where
  a : Int
  b : Int
  right : Nt

/-- A rule as a value. -/
def IsRule (v : AV) (r : Rl) : Prop := ∃ c w, v = .agg [.int .i64 r.a, .int .i64 r.b, c, .int .i64 r.right.free, w] ∧ IsL c (r.right.cells.map intV) ∧ IsL w (r.right.wires.map wireV)

def arN (s : List Ag) (a : Int) : Int := match s[a.toNat]? with | some g => g.2 | none => 0
def ruleChk (s : List Ag) (r : Rl) : Int × Int :=
  if (sigChk s).1 ≠ 0 then sigChk s
  else if r.a < 0 ∨ r.a ≥ s.length then (20, 0)
  else if r.b < 0 ∨ r.b ≥ s.length then (20, 1)
  else if (netChk s r.right).1 ≠ 0 then netChk s r.right
  else if r.right.cells.length > 32 then (50, 32)
  else if arN s r.a + arN s r.b ≠ r.right.free then (51, arN s r.a + arN s r.b)
  else (0, 0)

def h14 (call : CallT) : Prop := ∀ x s h, IsSig x s → call (.func 14) [x] h = some (.ret (.tup [.int .i64 (sigChk s).1, .int .i64 (sigChk s).2]), h)
theorem h14_of {hk : Hooks} {n : Nat} (hk14' : ∀ args h, hk 14 args h = hk14 14 args h) (hn : 0 < n) : h14 (evCall (mkEv Try.prog mu0 hk) n) := fun x s h hx => ev_hk (by
  rw [hk14']
  refine hk_top (by simp [freeL, sig_free hx]) ?_
  show (match sigOf (weakV x) with | some s => some (AV.tup [.int .i64 (sigChk s).1, .int .i64 (sigChk s).2]) | none => none) = _
  rw [sigOf_of hx]) hn

theorem arN_le {s : List Ag} (h : (sigChk s).1 = 0) (a : Int) : 0 ≤ arN s a ∧ arN s a ≤ 6 := by
  unfold sigChk at h
  split at h
  · simp at h
  · split at h
    · simp at h
    · unfold arN
      split
      · rename_i g hg
        exact sigF_arity h g (List.mem_of_getElem? hg)
      · omega

def tab12 : Nat → Option (List Nat) := fun id => match Nat.beq id 999999 with | true => some [] | false => match Nat.beq id 15 with | true => some [0, 1, 2, 3, 4, 5, 6, 7, 8, 9, 10, 11, 12, 13] | false => none
theorem fits12 : tabFits Try.prog (mu0 12) tab12 (codeOf Try.f12) = true := by kernel_rfl

theorem idx_sig {x : AV} {s : List Ag} {a : Int} {h : AH} (hx : IsSig x s) (h0 : 0 ≤ a) (h1 : a < s.length) : ∃ nm, vOf h (aIndexAddr Try.prog 22 x (.int .i64 a)) = some (.ret (.ref (.agg [.str nm, .int .i64 (arN s a)])), h) := by
  have u : Try.prog.underlying 22 = some (.slice 43) := by kernel_rfl
  have hlt : a.toNat < s.length := by omega
  have hg : (s.map agV)[a.toNat]? = some (agV s[a.toNat]) := by rw [List.getElem?_map, List.getElem?_eq_getElem hlt]; rfl
  refine ⟨s[a.toNat].1, ?_⟩
  rw [idx_L (P := Try.prog) (t := 22) (e := 43) (n := 2) (h := h) (k := .i64) u (by kernel_rfl) hx (i := a.toNat) (by omega) hg rfl]
  unfold arN
  rw [List.getElem?_eq_getElem hlt]
  rfl

theorem b12 (call rgn n) (x v : AV) (s : List Ag) (r : Rl) (hx : IsSig x s) (hv : IsRule v r) (hl : r.right.wires.length ≤ 1000000000) (h14 : h14 call) (h16 : h16 call) (h : AH) (hn : 5 < n) :
    ∃ h', B tab12 call rgn n 12 Try.f12 [x, v] h = some (.ret (.tup [.int .i64 (ruleChk s r).1, .int .i64 (ruleChk s r).2]), h') := by
  suffices hq : ∀ Q : Option (AOut × AH) → Prop, (∀ e a h', ruleChk s r = (e, a) → Q (some (.ret (.tup [.int .i64 e, .int .i64 a]), h'))) → Q (B tab12 call rgn n 12 Try.f12 [x, v] h) from
    hq (fun y => ∃ h', y = some (.ret (.tup [.int .i64 (ruleChk s r).1, .int .i64 (ruleChk s r).2]), h')) (fun e a h' he => ⟨h', by rw [he]⟩)
  intro Q hQ
  obtain ⟨c, w, rfl, hc, hw⟩ := hv
  obtain ⟨ra, rb, ⟨cells, f, wires⟩⟩ := r
  simp only at hc hw hl hQ ⊢
  have hcs := isL_scalar hc
  have hws := isL_scalar hw
  obtain ⟨k, rfl⟩ : ∃ k, n = k + 1 + 1 + 1 := ⟨n - 3, by omega⟩
  have u22 : Try.prog.underlying 22 = some (.slice 43) := by kernel_rfl
  have u23 : Try.prog.underlying 23 = some (.slice 3) := by kernel_rfl
  have hls := fun h => len_L (X := ⟨Try.prog, mu0, call⟩) (mu := false) (h := h) u22 hx
  have hlc := fun h => len_L (X := ⟨Try.prog, mu0, call⟩) (mu := false) (h := h) u23 hc
  rw [List.length_map] at hls hlc
  conv => arg 1; whnf
  refine atCall_P (box_new (cs := [.int .i64 ra, .int .i64 rb, c, .int .i64 f, w]) rfl (by simp only [List.all_cons, hcs, hws, List.all_nil]; rfl)) ?_
  generalize hh_h1 : h.alloc (.cells [.int .i64 ra, .int .i64 rb, c, .int .i64 f, w] 28) = h1 at *
  obtain ⟨a_i3, n_i3, k_h1⟩ := alloc_facts hh_h1
  clear hh_h1 k_h1
  generalize hi_i3 : h.next = i3 at *
  clear hi_i3
  have l0 : vOf h1 (aLoad Try.prog 3 (.ptr i3 0) h1) = some (.ret (.int .i64 ra), h1) := ld_ptr (n := 1) a_i3 (by kernel_rfl) (by kernel_rfl) rfl
  have l1 : vOf h1 (aLoad Try.prog 3 (.ptr i3 1) h1) = some (.ret (.int .i64 rb), h1) := ld_ptr (n := 1) a_i3 (by kernel_rfl) (by kernel_rfl) rfl
  have l2 : vOf h1 (aLoad Try.prog 26 (.ptr i3 2) h1) = some (.ret (.agg [c, .int .i64 f, w]), h1) := ld_agg (n := 3) a_i3 (by kernel_rfl) (by kernel_rfl) (by simp)
  have l3 : vOf h1 (aLoad Try.prog 23 (.ptr i3 2) h1) = some (.ret c, h1) := ld_ptr (n := 1) a_i3 (by kernel_rfl) (by kernel_rfl) rfl
  have l4 : vOf h1 (aLoad Try.prog 3 (.ptr i3 3) h1) = some (.ret (.int .i64 f), h1) := ld_ptr (n := 1) a_i3 (by kernel_rfl) (by kernel_rfl) rfl
  conv => arg 1; whnf
  refine atCall_P (h14 x s h1 hx) ?_
  conv => arg 1; whnf
  cases e0 : ((sigChk s).1 != 0)
  · have e0' : (sigChk s).1 = 0 := by simpa using e0
    conv => arg 1; whnf
    refine atCall_P (l0) ?_
    conv => arg 1; whnf
    refine atCall_P (l1) ?_
    conv => arg 1; whnf
    rw [cIter_succ]
    conv => arg 1; whnf
    cases e1 : decide (ra < 0)
    · conv => arg 1; whnf
      conv => arg 1; whnf
      refine atCall_P (hls h1) ?_
      conv => arg 1; whnf
      cases e2 : decide (ra ≥ (s.length : Int))
      · conv => arg 1; whnf
        rw [cIter_succ]
        conv => arg 1; whnf
        cases e3 : decide (rb < 0)
        · conv => arg 1; whnf
          conv => arg 1; whnf
          refine atCall_P (hls h1) ?_
          conv => arg 1; whnf
          cases e4 : decide (rb ≥ (s.length : Int))
          · conv => arg 1; whnf
            rw [cIter_succ]
            conv => arg 1; whnf
            refine atCall_P (l2) ?_
            conv => arg 1; whnf
            refine atCall_P (h16 x _ s ⟨cells, f, wires⟩ h1 hx ⟨c, w, rfl, hc, hw⟩ hl) ?_
            conv => arg 1; whnf
            cases e5 : ((netChk s ⟨cells, f, wires⟩).1 != 0)
            · have e5' : ¬ (netChk s ⟨cells, f, wires⟩).1 ≠ 0 := by simpa using e5
              conv => arg 1; whnf
              refine atCall_P (l3) ?_
              conv => arg 1; whnf
              refine atCall_P (hlc h1) ?_
              conv => arg 1; whnf
              cases e6 : decide ((cells.length : Int) > 32)
              · conv => arg 1; whnf
                refine atCall_P (l0) ?_
                obtain ⟨nm, hi⟩ := idx_sig (h := h1) hx (a := ra) (by simpa using e1) (by simpa using e2)
                conv => arg 1; whnf
                refine atCall_P (hi) ?_
                conv => arg 1; whnf
                refine atCall_P (l1) ?_
                obtain ⟨nm2, hi2⟩ := idx_sig (h := h1) hx (a := rb) (by simpa using e3) (by simpa using e4)
                conv => arg 1; whnf
                refine atCall_P (hi2) ?_
                conv => arg 1; whnf
                refine atCall_P (l4) ?_
                have hw12 : IntKind.i64.wrap (arN s ra + arN s rb) = arN s ra + arN s rb := by
                  have := arN_le e0' ra
                  have := arN_le e0' rb
                  simp [IntKind.wrap, IntKind.bits, IntKind.signed]; omega
                conv => arg 1; whnf
                cases e7 : (IntKind.i64.wrap (arN s ra + arN s rb) != f)
                · conv => arg 1; whnf
                  rw [hw12] at e7
                  exact atLeave_P (leave_plain (.inl rfl) rfl) (hQ _ _ _ (by unfold ruleChk; rw [if_neg (by simpa using e0'), if_neg (by simp at e1 e2 ⊢; omega), if_neg (by simp at e3 e4 ⊢; omega), if_neg e5', if_neg (by simp at e6 ⊢; omega), if_neg (by simpa using e7)]))
                · conv => arg 1; whnf
                  rw [hw12] at e7
                  exact atLeave_P (leave_plain (.inl rfl) rfl) (hQ _ _ _ (by unfold ruleChk; rw [if_neg (by simpa using e0'), if_neg (by simp at e1 e2 ⊢; omega), if_neg (by simp at e3 e4 ⊢; omega), if_neg e5', if_neg (by simp at e6 ⊢; omega), if_pos (by simpa using e7), hw12]))
              · conv => arg 1; whnf
                exact atLeave_P (leave_plain (.inl rfl) rfl) (hQ _ _ _ (by unfold ruleChk; rw [if_neg (by simpa using e0'), if_neg (by simp at e1 e2 ⊢; omega), if_neg (by simp at e3 e4 ⊢; omega), if_neg e5', if_pos (by simp at e6 ⊢; omega)]))
            · have e5' : (netChk s ⟨cells, f, wires⟩).1 ≠ 0 := by simpa using e5
              conv => arg 1; whnf
              exact atLeave_P (leave_plain (.inl rfl) rfl) (hQ _ _ _ (by unfold ruleChk; rw [if_neg (by simpa using e0'), if_neg (by simp at e1 e2 ⊢; omega), if_neg (by simp at e3 e4 ⊢; omega), if_pos e5']))
          · conv => arg 1; whnf
            exact atLeave_P (leave_plain (.inl rfl) rfl) (hQ _ _ _ (by unfold ruleChk; rw [if_neg (by simpa using e0'), if_neg (by simp at e1 e2 ⊢; omega), if_pos (.inr (by simpa using e4))]; rfl))
        · conv => arg 1; whnf
          exact atLeave_P (leave_plain (.inl rfl) rfl) (hQ _ _ _ (by unfold ruleChk; rw [if_neg (by simpa using e0'), if_neg (by simp at e1 e2 ⊢; omega), if_pos (.inl (by simpa using e3))]; rfl))
      · conv => arg 1; whnf
        exact atLeave_P (leave_plain (.inl rfl) rfl) (hQ _ _ _ (by unfold ruleChk; rw [if_neg (by simpa using e0'), if_pos (.inr (by simpa using e2))]))
    · conv => arg 1; whnf
      exact atLeave_P (leave_plain (.inl rfl) rfl) (hQ _ _ _ (by unfold ruleChk; rw [if_neg (by simpa using e0'), if_pos (.inl (by simpa using e1))]))
  · have e0' : (sigChk s).1 ≠ 0 := by simpa using e0
    conv => arg 1; whnf
    exact atLeave_P (leave_plain (.inl rfl) rfl) (hQ _ _ _ (by unfold ruleChk; rw [if_pos e0']))

def ruleOf : AV → Option Rl
  | .agg [.int .i64 a, .int .i64 b, c, .int .i64 f, w] => match decL decInt intV c, decL decWire wireV w with | some cs, some ws => some ⟨a, b, cs, f, ws⟩ | _, _ => none
  | _ => none
theorem ruleOf_inv {v : AV} {r : Rl} (h : ruleOf v = some r) : IsRule v r := by
  unfold ruleOf at h
  split at h
  · rename_i a b c f w
    split at h
    · rename_i cs ws h1 h2
      simp only [Option.some.injEq] at h; subst h
      exact ⟨c, w, rfl, decL_inv h1, decL_inv h2⟩
    · cases h
  · cases h
theorem ruleOf_of {v : AV} {r : Rl} (h : IsRule v r) : ruleOf (weakV v) = some r := by
  obtain ⟨c, w, rfl, h1, h2⟩ := h
  show ruleOf (.agg [.int .i64 r.a, .int .i64 r.b, weakV c, .int .i64 r.right.free, weakV w]) = _
  simp only [ruleOf, decL_of (dec := decInt) (enc := intV) (fun _ => rfl) (fun _ => rfl) h1, decL_of (dec := decWire) (enc := wireV) (fun _ => rfl) (fun _ => rfl) h2]
theorem rule_free {v : AV} {r : Rl} (h : IsRule v r) : freeV v = true := by
  obtain ⟨c, w, rfl, h1, h2⟩ := h
  simp only [freeV, freeL, freeL_of (enc := intV) (fun _ => rfl) h1, freeL_of (enc := wireV) (fun _ => rfl) h2, Bool.and_self]

def s12 : List AV → Option AV
  | [x, v] => match sigOf x, ruleOf v with
    | some s, some r => if r.right.wires.length ≤ 1000000000 then some (.tup [.int .i64 (ruleChk s r).1, .int .i64 (ruleChk s r).2]) else none
    | _, _ => none
  | _ => none
def hk12 := addHk hk13 12 s12

theorem E12 : EvOK (mkEv Try.prog mu0 hk12) := mkEv_add E13 fun args v hs => by
  unfold s12 at hs; split at hs
  · rename_i x v'
    split at hs
    · rename_i s r h1 h2
      split at hs
      · rename_i hl
        cases hs
        obtain ⟨h', hb⟩ := b12 (evCall (mkEv Try.prog mu0 hk13) 6) (rg Try.prog mu0 hk13 6 12) 6 x v' s r (decL_inv h1) (ruleOf_inv h2) hl (h14_of (fun _ _ => rfl) (by omega)) (h16_of (fun _ _ => rfl) (by omega)) .empty (by omega)
        exact ⟨rfl, ev_ofS tab12 rfl Try.func12 rfl fits12 hb⟩
      · cases hs
    · cases hs
  · cases hs

def h12 (call : CallT) : Prop := ∀ x v s r h, IsSig x s → IsRule v r → r.right.wires.length ≤ 1000000000 → call (.func 12) [x, v] h = some (.ret (.tup [.int .i64 (ruleChk s r).1, .int .i64 (ruleChk s r).2]), h)
theorem h12_of {hk : Hooks} {n : Nat} (hk12' : ∀ args h, hk 12 args h = hk12 12 args h) (hn : 0 < n) : h12 (evCall (mkEv Try.prog mu0 hk) n) := fun x v s r h hx hv hl => ev_hk (by
  rw [hk12']
  refine hk_top (by simp [freeL, sig_free hx, rule_free hv]) ?_
  show (match sigOf (weakV x), ruleOf (weakV v) with
    | some s, some r => if r.right.wires.length ≤ 1000000000 then some (AV.tup [.int .i64 (ruleChk s r).1, .int .i64 (ruleChk s r).2]) else none
    | _, _ => none) = _
  rw [sigOf_of hx, ruleOf_of hv]; simp only [if_pos hl]) hn
end Go.Proofs.Nt

/-
  rule.Tidy.
-/
namespace Go.Proofs.Nt
open Go.Sk
set_option linter.unusedVariables false
set_option linter.unusedSimpArgs false
set_option maxRecDepth 10000

theorem set_facts {h h1 : AH} {i : Sk.Id} {o : AO} (hh : h.set i o = h1) : h1.get i = some o ∧ h1.next = h.next ∧ ∀ q o', h.get q = some o' → q ≠ i → h1.get q = some o' := by
  subst hh
  exact ⟨by rw [AH.get_set, if_pos rfl], AH.next_set .., fun q o' hq hne => by rw [AH.get_set, if_neg hne]; exact hq⟩

def tidyR (s : List Ag) (r : Rl) : Rl := ⟨r.a, r.b, tidyN s r.right⟩
def wiresW (W : List Wr) : AV := match W with | [] => .nilsl | w :: r => .vsl ((w :: r).map wireV) .unk
def ruleW (r : Rl) : AV := .agg [.int .i64 r.a, .int .i64 r.b, .vsl (r.right.cells.map intV) .unk, .int .i64 r.right.free, wiresW r.right.wires]
def zRule : AV := .agg [.int .i64 0, .int .i64 0, .nilsl, .int .i64 0, .nilsl]
def tidyRV (s : List Ag) (r : Rl) : AV := if (ruleChk s r).1 = 0 then .tup [ruleW (tidyR s r), .int .i64 0] else .tup [zRule, .int .i64 (ruleChk s r).1]

theorem netW_eq (n : Nt) : netW n = .agg [.vsl (n.cells.map intV) .unk, .int .i64 n.free, wiresW n.wires] := rfl
theorem wiresW_isL (W : List Wr) : IsL (wiresW W) (W.map wireV) := by
  cases W with
  | nil => exact .inl ⟨rfl, rfl⟩
  | cons w r => exact .inr ⟨_, rfl⟩

theorem ruleChk_ok {s : List Ag} {r : Rl} (h : (ruleChk s r).1 = 0) : (sigChk s).1 = 0 ∧ 0 ≤ r.a ∧ r.a < s.length ∧ 0 ≤ r.b ∧ r.b < s.length ∧ (netChk s r.right).1 = 0 ∧ r.right.cells.length ≤ 32 ∧ arN s r.a + arN s r.b = r.right.free := by
  unfold ruleChk at h
  split at h
  · rename_i h0; exact absurd h h0
  · rename_i h0
    split at h
    · simp at h
    · rename_i h1
      split at h
      · simp at h
      · rename_i h2
        split at h
        · rename_i h3; exact absurd h h3
        · rename_i h3
          split at h
          · simp at h
          · rename_i h4
            split at h
            · simp at h
            · rename_i h5
              refine ⟨by simpa using h0, by omega, by omega, by omega, by omega, by simpa using h3, by omega, by simpa using h5⟩

theorem b6 (call rgn n) (x v : AV) (s : List Ag) (r : Rl) (hx : IsSig x s) (hv : IsRule v r) (hl : r.right.wires.length ≤ 1000000000) (h12 : h12 call) (h13 : h13 call) (h : AH) :
    ∃ h', B shT call rgn n 6 Try.f6 [x, v] h = some (.ret (tidyRV s r), h') := by
  suffices hq : ∀ Q : Option (AOut × AH) → Prop, (∀ u h', tidyRV s r = u → Q (some (.ret u, h'))) → Q (B shT call rgn n 6 Try.f6 [x, v] h) from
    hq (fun y => ∃ h', y = some (.ret (tidyRV s r), h')) (fun u h' he => ⟨h', by rw [he]⟩)
  intro Q hQ
  have hv0 := hv
  obtain ⟨c, w, rfl, hc, hw⟩ := hv
  obtain ⟨ra, rb, ⟨cells, f, wires⟩⟩ := r
  simp only at hc hw hl hQ hv0 ⊢
  have hcs := isL_scalar hc
  have hws := isL_scalar hw
  conv => arg 1; whnf
  refine atCall_P (box_new (cs := [.int .i64 ra, .int .i64 rb, c, .int .i64 f, w]) rfl (by simp only [List.all_cons, hcs, hws, List.all_nil]; rfl)) ?_
  generalize hh_h1 : h.alloc (.cells [.int .i64 ra, .int .i64 rb, c, .int .i64 f, w] 28) = h1 at *
  obtain ⟨a_i3, n_i3, k_h1⟩ := alloc_facts hh_h1
  clear hh_h1 k_h1
  generalize hi_i3 : h.next = i3 at *
  clear hi_i3
  conv => arg 1; whnf
  refine atCall_P (alloc_new (z := zRule) (cs := [.int .i64 0, .int .i64 0, .nilsl, .int .i64 0, .nilsl]) (by kernel_rfl) rfl rfl) ?_
  generalize hh_h2 : h1.alloc (.cells [.int .i64 0, .int .i64 0, .nilsl, .int .i64 0, .nilsl] 28) = h2 at *
  obtain ⟨a_i4, n_i4, k_h2⟩ := alloc_facts hh_h2
  replace a_i3 := k_h2 _ _ a_i3 (by omega)
  clear hh_h2 k_h2
  generalize hi_i4 : h1.next = i4 at *
  clear hi_i4
  have l0 : ∀ h2, h2.get i3 = some (.cells [.int .i64 ra, .int .i64 rb, c, .int .i64 f, w] 28) → vOf h2 (aLoad Try.prog 3 (.ptr i3 0) h2) = some (.ret (.int .i64 ra), h2) := fun h2 g => ld_ptr (n := 1) g (by kernel_rfl) (by kernel_rfl) rfl
  have l1 : ∀ h2, h2.get i3 = some (.cells [.int .i64 ra, .int .i64 rb, c, .int .i64 f, w] 28) → vOf h2 (aLoad Try.prog 3 (.ptr i3 1) h2) = some (.ret (.int .i64 rb), h2) := fun h2 g => ld_ptr (n := 1) g (by kernel_rfl) (by kernel_rfl) rfl
  have l2 : vOf h2 (aLoad Try.prog 26 (.ptr i3 2) h2) = some (.ret (.agg [c, .int .i64 f, w]), h2) := ld_agg (n := 3) a_i3 (by kernel_rfl) (by kernel_rfl) (by simp)
  have l5 : vOf h2 (aLoad Try.prog 28 (.ptr i3 0) h2) = some (.ret (.agg [.int .i64 ra, .int .i64 rb, c, .int .i64 f, w]), h2) := ld_agg (n := 5) a_i3 (by kernel_rfl) (by kernel_rfl) (by simp)
  conv => arg 1; whnf
  refine atCall_P (l5) ?_
  conv => arg 1; whnf
  refine atCall_P (h12 x _ s ⟨ra, rb, cells, f, wires⟩ h2 hx hv0 hl) ?_
  conv => arg 1; whnf
  cases e0 : ((ruleChk s ⟨ra, rb, cells, f, wires⟩).1 != 0)
  · have e0' : (ruleChk s ⟨ra, rb, cells, f, wires⟩).1 = 0 := by simpa using e0
    have e1 := (ruleChk_ok e0').2.2.2.2.2.1
    conv => arg 1; whnf
    refine atCall_P (l2) ?_
    have ht := h13 x (.agg [c, .int .i64 f, w]) s ⟨cells, f, wires⟩ h2 hx ⟨c, w, rfl, hc, hw⟩ hl
    unfold tidyV at ht
    rw [if_pos e1, netW_eq] at ht
    conv => arg 1; whnf
    refine atCall_P (ht) ?_
    conv => arg 1; whnf
    refine atCall_P (alloc_new (z := .agg [.nilsl, .int .i64 0, .nilsl]) (cs := [.nilsl, .int .i64 0, .nilsl]) (by kernel_rfl) rfl rfl) ?_
    generalize hh_h3 : h2.alloc (.cells [.nilsl, .int .i64 0, .nilsl] 26) = h3 at *
    obtain ⟨a_i8, n_i8, k_h3⟩ := alloc_facts hh_h3
    replace a_i3 := k_h3 _ _ a_i3 (by omega)
    replace a_i4 := k_h3 _ _ a_i4 (by omega)
    clear hh_h3 k_h3
    generalize hi_i8 : h2.next = i8 at *
    clear hi_i8
    have hp1 := ruleChk_ok e0'
    generalize ht0 : tidyN s ⟨cells, f, wires⟩ = t at *
    have hts : (wiresW t.wires).scalar = true := isL_scalar (wiresW_isL _)
    have st1 : hOf (aStore Try.prog 26 (.ptr i8 0) (.agg [.vsl (t.cells.map intV) .unk, .int .i64 t.free, wiresW t.wires]) h3) = some (.ret undefA, h3.set i8 (.cells [.vsl (t.cells.map intV) .unk, .int .i64 t.free, wiresW t.wires] 26)) :=
      st_ptr (n := 3) a_i8 (by kernel_rfl) rfl (by simp) (by show (_ && (_ && ((wiresW t.wires).scalar && true))) = true; rw [hts]; rfl)
    conv => arg 1; whnf
    refine atCall_P (st1) ?_
    generalize hh_h4 : h3.set i8 (.cells [.vsl (t.cells.map intV) .unk, .int .i64 t.free, wiresW t.wires] 26) = h4 at *
    obtain ⟨b_i8, n_h4, k_h4⟩ := set_facts hh_h4
    replace a_i3 := k_h4 _ _ a_i3 (by rintro rfl; omega)
    replace a_i4 := k_h4 _ _ a_i4 (by rintro rfl; omega)
    clear hh_h4 k_h4
    replace n_h4 : h4.next.nat = h3.next.nat := congrArg Id.nat n_h4
    have l8 : vOf h4 (aLoad Try.prog 26 (.ptr i8 0) h4) = some (.ret (.agg [.vsl (t.cells.map intV) .unk, .int .i64 t.free, wiresW t.wires]), h4) := ld_agg (n := 3) b_i8 (by kernel_rfl) (by kernel_rfl) (by simp)
    conv => arg 1; whnf
    refine atCall_P (l0 h4 a_i3) ?_
    conv => arg 1; whnf
    refine atCall_P (l1 h4 a_i3) ?_
    conv => arg 1; whnf
    refine atCall_P (l8) ?_
    have st : hOf (aStore Try.prog 28 (.ptr i4 0) (.agg [.int .i64 ra, .int .i64 rb, .vsl (t.cells.map intV) .unk, .int .i64 t.free, wiresW t.wires]) h4) = some (.ret undefA, h4.set i4 (.cells [.int .i64 ra, .int .i64 rb, .vsl (t.cells.map intV) .unk, .int .i64 t.free, wiresW t.wires] 28)) :=
      st_ptr (n := 5) a_i4 (by kernel_rfl) rfl (by simp) (by show (_ && (_ && (_ && (_ && ((wiresW t.wires).scalar && true))))) = true; rw [hts]; rfl)
    conv => arg 1; whnf
    refine atCall_P (st) ?_
    conv => arg 1; whnf
    have ld : aLoad Try.prog 28 (.ptr i4 0) (h4.set i4 (.cells [.int .i64 ra, .int .i64 rb, .vsl (t.cells.map intV) .unk, .int .i64 t.free, wiresW t.wires] 28)) = some (.agg [.int .i64 ra, .int .i64 rb, .vsl (t.cells.map intV) .unk, .int .i64 t.free, wiresW t.wires]) :=
      ld_val (ld_agg (r := i4) (off := 0) (cs := [.int .i64 ra, .int .i64 rb, .vsl (t.cells.map intV) .unk, .int .i64 t.free, wiresW t.wires]) (T := 28) (n := 5) (by rw [AH.get_set, if_pos rfl]) (by kernel_rfl) (by kernel_rfl) (by simp))
    refine atLeave_P (leave_plain (.inl rfl) (l := [.agg [.int .i64 ra, .int .i64 rb, .vsl (t.cells.map intV) .unk, .int .i64 t.free, wiresW t.wires], .int .i64 0]) ?_) (hQ _ _ (by unfold tidyRV tidyR ruleW; rw [if_pos e0']; simp only [ht0]; rfl))
    show (match aLoad Try.prog 28 (.ptr i4 0) (h4.set i4 (.cells [.int .i64 ra, .int .i64 rb, .vsl (t.cells.map intV) .unk, .int .i64 t.free, wiresW t.wires] 28)), some [AV.int .i64 0] with | some v, some l => some (v :: l) | _, _ => none) = _
    rw [ld]
  · have e0' : (ruleChk s ⟨ra, rb, cells, f, wires⟩).1 ≠ 0 := by simpa using e0
    have st : hOf (aStore Try.prog 28 (.ptr i4 0) zRule h2) = some (.ret undefA, h2.set i4 (.cells [.int .i64 0, .int .i64 0, .nilsl, .int .i64 0, .nilsl] 28)) := st_ptr (n := 5) a_i4 (by kernel_rfl) rfl (by simp) rfl
    conv => arg 1; whnf
    refine atCall_P (st) ?_
    conv => arg 1; whnf
    have ld : aLoad Try.prog 28 (.ptr i4 0) (h2.set i4 (.cells [.int .i64 0, .int .i64 0, .nilsl, .int .i64 0, .nilsl] 28)) = some zRule := ld_val (ld_agg (r := i4) (off := 0) (cs := [.int .i64 0, .int .i64 0, .nilsl, .int .i64 0, .nilsl]) (T := 28) (n := 5) (by rw [AH.get_set, if_pos rfl]) (by kernel_rfl) (by kernel_rfl) (by simp))
    refine atLeave_P (leave_plain (.inl rfl) (l := [zRule, .int .i64 (ruleChk s ⟨ra, rb, cells, f, wires⟩).1]) ?_) (hQ _ _ (by unfold tidyRV; rw [if_neg e0']; rfl))
    show (match aLoad Try.prog 28 (.ptr i4 0) (h2.set i4 (.cells [.int .i64 0, .int .i64 0, .nilsl, .int .i64 0, .nilsl] 28)), some [AV.int .i64 (ruleChk s ⟨ra, rb, cells, f, wires⟩).1] with | some v, some l => some (v :: l) | _, _ => none) = _
    rw [ld]

theorem wiresW_weak (W : List Wr) : weakV (wiresW W) = wiresW W ∧ freeV (wiresW W) = true := by
  cases W with
  | nil => exact ⟨rfl, rfl⟩
  | cons w r =>
    refine ⟨?_, freeL_enc (enc := wireV) (fun _ => rfl) (w :: r)⟩
    show AV.vsl (weakL ((w :: r).map wireV)) .unk = _
    rw [weakL_enc (fun _ => rfl)]; rfl
theorem ruleW_weak (r : Rl) : weakV (ruleW r) = ruleW r ∧ freeV (ruleW r) = true := by
  have e1 : weakL (r.right.cells.map intV) = r.right.cells.map intV := weakL_enc (fun _ => rfl) _
  have f1 : freeL (r.right.cells.map intV) = true := freeL_enc (fun _ => rfl) _
  obtain ⟨e2, f2⟩ := wiresW_weak r.right.wires
  constructor
  · show AV.agg [.int .i64 r.a, .int .i64 r.b, .vsl (weakL (r.right.cells.map intV)) .unk, .int .i64 r.right.free, weakV (wiresW r.right.wires)] = _
    rw [e1, e2]; rfl
  · show (true && (true && (freeL (r.right.cells.map intV) && (true && (freeV (wiresW r.right.wires) && true))))) = true
    rw [f1, f2]; rfl
theorem isRule_W (r : Rl) : IsRule (ruleW r) r := ⟨_, _, rfl, .inr ⟨_, rfl⟩, wiresW_isL _⟩
theorem tidyRV_weak (s : List Ag) (r : Rl) : weakV (tidyRV s r) = tidyRV s r ∧ freeV (tidyRV s r) = true := by
  unfold tidyRV
  split
  · obtain ⟨e, f⟩ := ruleW_weak (tidyR s r)
    constructor
    · show AV.tup [weakV (ruleW (tidyR s r)), .int .i64 0] = _
      rw [e]
    · show (freeV (ruleW (tidyR s r)) && true) = true
      rw [f]; rfl
  · exact ⟨rfl, rfl⟩

def s6 : List AV → Option AV
  | [x, v] => match sigOf x, ruleOf v with
    | some s, some r => if r.right.wires.length ≤ 1000000000 then some (tidyRV s r) else none
    | _, _ => none
  | _ => none
def hk6 := addHk hk12 6 s6

theorem E6 : EvOK (mkEv Try.prog mu0 hk6) := mkEv_add3 E12 fun args v hs => by
  unfold s6 at hs; split at hs
  · rename_i x v'
    split at hs
    · rename_i s r h1 h2
      split at hs
      · rename_i hl
        cases hs
        obtain ⟨h', hb⟩ := b6 (evCall (mkEv Try.prog mu0 hk12) 6) (rg Try.prog mu0 hk12 6 6) 6 x v' s r (decL_inv h1) (ruleOf_inv h2) hl (h12_of (fun _ _ => rfl) (by omega)) (h13_of (fun _ _ => rfl) (by omega)) .empty
        exact ⟨tidyRV s r, (tidyRV_weak s r).2, (tidyRV_weak s r).1.symm, ev_ofS shT rfl Try.func6 rfl (by kernel_rfl) hb⟩
      · cases hs
    · cases hs
  · cases hs

def h6 (call : CallT) : Prop := ∀ x v s r h, IsSig x s → IsRule v r → r.right.wires.length ≤ 1000000000 → call (.func 6) [x, v] h = some (.ret (tidyRV s r), h)
theorem h6_of {hk : Hooks} {n : Nat} (hk6' : ∀ args h, hk 6 args h = hk6 6 args h) (hn : 0 < n) : h6 (evCall (mkEv Try.prog mu0 hk) n) := fun x v s r h hx hv hl => ev_hk (by
  rw [hk6']
  refine hk_top (by simp [freeL, sig_free hx, rule_free hv]) ?_
  show (match sigOf (weakV x), ruleOf (weakV v) with
    | some s, some r => if r.right.wires.length ≤ 1000000000 then some (tidyRV s r) else none
    | _, _ => none) = _
  rw [sigOf_of hx, ruleOf_of hv]; simp only [if_pos hl]) hn
end Go.Proofs.Nt

/-
  when, of ports.
-/
namespace Go.Proofs.Nt
open Go.Sk
set_option linter.unusedVariables false
set_option linter.unusedSimpArgs false
set_option maxRecDepth 10000

theorem ld1 {t : TypeId} {p v w : AV} {h : AH} (hl : aLoad Try.prog t p h = some v) : (match aLoad Try.prog t p h, some ([] : List AV) with | some v, some l => some (v :: l) | _, _ => none) = some [v] := by rw [hl]

theorem b15 (call rgn n) (b : Bool) (x y : AV) (p q : Int × Int) (hx : x = portV p) (hy : y = portV q) (h : AH) : ∃ h', B shT call rgn n 15 Try.f15 [.bool b, x, y] h = some (.ret (portV (if b then p else q)), h') := by
  suffices hq : ∀ Q : Option (AOut × AH) → Prop, (∀ u h', portV (if b then p else q) = u → Q (some (.ret u, h'))) → Q (B shT call rgn n 15 Try.f15 [.bool b, x, y] h) from
    hq (fun y => ∃ h', y = some (.ret (portV (if b then p else q)), h')) (fun u h' he => ⟨h', by rw [he]⟩)
  intro Q hQ
  obtain ⟨p1, p2⟩ := p
  obtain ⟨q1, q2⟩ := q
  conv => arg 1; whnf
  refine atCall_P (box_new (cs := [.int .i64 p1, .int .i64 p2]) (by rw [hx]; rfl) rfl) ?_
  generalize hh_h1 : h.alloc (.cells [.int .i64 p1, .int .i64 p2] 45) = h1 at *
  obtain ⟨a_i4, n_i4, k_h1⟩ := alloc_facts hh_h1
  clear hh_h1 k_h1
  generalize hi_i4 : h.next = i4 at *
  clear hi_i4
  conv => arg 1; whnf
  refine atCall_P (box_new (cs := [.int .i64 q1, .int .i64 q2]) (by rw [hy]; rfl) rfl) ?_
  generalize hh_h2 : h1.alloc (.cells [.int .i64 q1, .int .i64 q2] 45) = h2 at *
  obtain ⟨a_i5, n_i5, k_h2⟩ := alloc_facts hh_h2
  replace a_i4 := k_h2 _ _ a_i4 (by omega)
  clear hh_h2 k_h2
  generalize hi_i5 : h1.next = i5 at *
  clear hi_i5
  conv => arg 1; whnf
  refine atCall_P (alloc_new (z := .agg [.int .i64 0, .int .i64 0]) (cs := [.int .i64 0, .int .i64 0]) (by kernel_rfl) rfl rfl) ?_
  generalize hh_h3 : h2.alloc (.cells [.int .i64 0, .int .i64 0] 45) = h3 at *
  obtain ⟨a_i6, n_i6, k_h3⟩ := alloc_facts hh_h3
  replace a_i4 := k_h3 _ _ a_i4 (by omega)
  replace a_i5 := k_h3 _ _ a_i5 (by omega)
  clear hh_h3 k_h3
  generalize hi_i6 : h2.next = i6 at *
  clear hi_i6
  have l4 : vOf h3 (aLoad Try.prog 45 (.ptr i4 0) h3) = some (.ret (.agg [.int .i64 p1, .int .i64 p2]), h3) := ld_agg (n := 2) a_i4 (by kernel_rfl) (by kernel_rfl) (by simp)
  have l5 : vOf h3 (aLoad Try.prog 45 (.ptr i5 0) h3) = some (.ret (.agg [.int .i64 q1, .int .i64 q2]), h3) := ld_agg (n := 2) a_i5 (by kernel_rfl) (by kernel_rfl) (by simp)
  have st : ∀ a b : Int, hOf (aStore Try.prog 45 (.ptr i6 0) (.agg [.int .i64 a, .int .i64 b]) h3) = some (.ret undefA, h3.set i6 (.cells [.int .i64 a, .int .i64 b] 45)) := fun a b => st_ptr (n := 2) a_i6 (by kernel_rfl) rfl (by simp) rfl
  have ld : ∀ a b : Int, aLoad Try.prog 45 (.ptr i6 0) (h3.set i6 (.cells [.int .i64 a, .int .i64 b] 45)) = some (.agg [.int .i64 a, .int .i64 b]) :=
    fun a b => ld_val (ld_agg (r := i6) (off := 0) (cs := [.int .i64 a, .int .i64 b]) (T := 45) (n := 2) (by rw [AH.get_set, if_pos rfl]) (by kernel_rfl) (by kernel_rfl) (by simp))
  cases b
  · conv => arg 1; whnf
    refine atCall_P (l5) ?_
    conv => arg 1; whnf
    refine atCall_P (st q1 q2) ?_
    conv => arg 1; whnf
    refine atLeave_P (leave_plain (.inl rfl) (l := [.agg [.int .i64 q1, .int .i64 q2]]) ?_) (hQ _ _ rfl)
    show (match aLoad Try.prog 45 (.ptr i6 0) (h3.set i6 (.cells [.int .i64 q1, .int .i64 q2] 45)), some ([] : List AV) with | some v, some l => some (v :: l) | _, _ => none) = _
    rw [ld]
  · conv => arg 1; whnf
    refine atCall_P (l4) ?_
    conv => arg 1; whnf
    refine atCall_P (st p1 p2) ?_
    conv => arg 1; whnf
    refine atLeave_P (leave_plain (.inl rfl) (l := [.agg [.int .i64 p1, .int .i64 p2]]) ?_) (hQ _ _ rfl)
    show (match aLoad Try.prog 45 (.ptr i6 0) (h3.set i6 (.cells [.int .i64 p1, .int .i64 p2] 45)), some ([] : List AV) with | some v, some l => some (v :: l) | _, _ => none) = _
    rw [ld]

def s15 : List AV → Option AV
  | [.bool b, x, y] => match decPort x, decPort y with | some p, some q => some (portV (if b then p else q)) | _, _ => none
  | _ => none
def hk15 := addHk hk6 15 s15
theorem E15 : EvOK (mkEv Try.prog mu0 hk15) := mkEv_add E6 fun args v hs => by
  unfold s15 at hs; split at hs
  · split at hs
    · rename_i p q h1 h2
      cases hs
      obtain ⟨h', hb⟩ := b15 (evCall (mkEv Try.prog mu0 hk6) 1) (rg Try.prog mu0 hk6 1 15) 1 _ _ _ p q (decPort_inv h1) (decPort_inv h2) .empty
      exact ⟨rfl, ev_ofS shT rfl Try.func15 rfl (by kernel_rfl) hb⟩
    · cases hs
  · cases hs
def h15 (call : CallT) : Prop := ∀ b x y p q h, x = portV p → y = portV q → call (.func 15) [.bool b, x, y] h = some (.ret (portV (if b then p else q)), h)
theorem h15_of {hk : Hooks} {n : Nat} (hk15' : ∀ args h, hk 15 args h = hk15 15 args h) (hn : 0 < n) : h15 (evCall (mkEv Try.prog mu0 hk) n) := fun b x y p q h hx hy => ev_hk (by
  rw [hk15', hx, hy]
  exact hk_top rfl rfl) hn
end Go.Proofs.Nt

/-
  rule.Left.
-/
namespace Go.Sk

/-- A list that has grown by append, or a literal. -/
def GrowL (h : AH) (l : AV) (xs : List AV) : Prop := Grow h l xs ∨ l = .vsl xs .lit

theorem append_growL {P : Program} {types : Array TypeId} {t tx : TypeId} {elem : TypeId} {d : TypeDesc} {l x z : AV} {xs ys : List AV} {h : AH} {n : Nat}
    (h0 : types[0]? = some t) (h1 : types[1]? = some tx) (ht : P.underlying t = some (.slice elem)) (htx : P.underlying tx = some d) (hd : ∀ k, d ≠ .int k)
    (hx : aElems P elem x h = some ys) (hn : sizeT P elem = some n) (hz : zeroT P elem = some z) (hn0 : n ≠ 0) (hzn : z.cells.length = n) (hzs : z.cells.all AV.scalar = true)
    (hy : ys ≠ []) (hhy : headOk n ys = true) (hhx : headOk n xs = true) (hl : GrowL h l xs)
    (hb : (xs.length + ys.length) * P.bytesOf elem ≤ 140737488355328) (hb2 : xs.length + ys.length ≤ 140737488355328) :
    ∃ l' h', aAppend P false types l x h = some (l', h') ∧ Grow h' l' (xs ++ ys) ∧ h.next.nat ≤ h'.next.nat ∧ (∀ q o, h.get q = some o → ownOf l ≠ some q → q.nat < h.next.nat → h'.get q = some o) := by
  rcases hl with hl | rfl
  · exact append_grow h0 h1 ht htx hd hx hn hz hn0 hzn hzs hy hhy hhx hl hb hb2
  have hyl : ys.length ≠ 0 := fun e => hy (List.eq_nil_of_length_eq_zero e)
  unfold aAppend
  simp only [h0, h1, ht, htx]
  refine ⟨.vsl (xs ++ ys) (.own h.next (xs.length + ys.length)), h.alloc (.grp (xs.length + ys.length)), ?_, .inr ⟨h.next, by simp, by simp [hy], by simp [AH.get_alloc], by simp [AH.next_alloc, Id.nat_succ]⟩, by simp [AH.next_alloc, Id.nat_succ], fun q o hq _ hlt => ?_⟩
  · cases d <;> first | exact absurd rfl (hd _) | skip
    all_goals (simp only [hx, hn, hz]; simp_all; try omega)
  · rw [AH.get_alloc, if_neg]; exact hq
    rintro rfl; omega
end Go.Sk

namespace Go.Proofs.Nt
open Go.Sk
set_option linter.unusedVariables false
set_option linter.unusedSimpArgs false
set_option maxRecDepth 10000

theorem growL_own {h : AH} {l : AV} {xs : List AV} (hg : GrowL h l xs) {q : Sk.Id} (hq : NotGrp h q) : ownOf l ≠ some q := by
  rcases hg with hg | rfl
  · exact grow_own hg hq
  · simp [ownOf]
theorem growL_isL {h : AH} {l : AV} {xs : List AV} (hg : GrowL h l xs) : IsL l xs := by
  rcases hg with hg | rfl
  · exact grow_isL hg
  · exact .inr ⟨_, rfl⟩
theorem growL_alloc {h : AH} {l : AV} {xs : List AV} (hg : GrowL h l xs) (o : AO) : GrowL (h.alloc o) l xs := by
  rcases hg with hg | rfl
  · exact .inl (grow_alloc hg o)
  · exact .inr rfl
theorem growL_set {h : AH} {l : AV} {xs : List AV} (hg : GrowL h l xs) {q : Sk.Id} (o : AO) (hq : NotGrp h q) : GrowL (h.set q o) l xs := by
  rcases hg with hg | rfl
  · exact .inl (grow_set hg o hq)
  · exact .inr rfl

theorem wires_appendL {call : CallT} {W : List Wr} {t : Wr} {h : AH} {l : AV} {c : Cap} (hl : GrowL h l (W.map wireV)) (hb : W.length ≤ 1000000000) :
    ∃ l' h', aBuiltin ⟨Try.prog, mu0, call⟩ false .append #[24, 24] [l, .vsl [wireV t] c] h = some (.ret l', h') ∧ Grow h' l' ((W ++ [t]).map wireV) ∧ h.next.nat ≤ h'.next.nat ∧ (∀ q o, h.get q = some o → NotGrp h q → q.nat < h.next.nat → h'.get q = some o) := by
  have hhw : headOk 4 (W.map wireV) = true := by cases W <;> rfl
  obtain ⟨l', h', h1, h2, h3, h4⟩ := append_growL (P := Try.prog) (types := #[24, 24]) (t := 24) (tx := 24) (elem := 47) (d := .slice 47) (n := 4) (z := .agg [.int .i64 0, .int .i64 0, .int .i64 0, .int .i64 0]) (x := .vsl [wireV t] c) (ys := [wireV t]) rfl rfl (by kernel_rfl) (by kernel_rfl)
    (by intro k h; cases h) rfl (by kernel_rfl) (by kernel_rfl) (by omega) rfl rfl (by simp) rfl hhw hl
    (by rw [show Try.prog.bytesOf 47 = 32 by kernel_rfl]; simp; omega) (by simp; omega)
  refine ⟨l', h', ?_, by rw [List.map_append]; exact h2, h3, fun q o hq hn hlt => h4 q o hq (growL_own hl hn) hlt⟩
  show vhOf (aAppend Try.prog false #[24, 24] _ _ h) = _
  rw [h1]; rfl

theorem notGrp {h : AH} {q : Sk.Id} {cs : List AV} {T : TypeId} (hg : h.get q = some (.cells cs T)) : NotGrp h q := fun n => by rw [hg]; simp

/-- The face of a rule's left side for which a free port stands. -/
def faceN (p : Int) (k : Int) : Int × Int := if k < p then (0, k + 1) else (1, k + 1 - p)
def leftWs (p : Int) (m : Nat) : List Wr := (0, 0, 1, 0) :: (List.range m).map fun (k : Nat) => (-1, (k : Int), (faceN p k).1, (faceN p k).2)
def leftN (s : List Ag) (a b : Int) : Nt := ⟨[a, b], arN s a + arN s b, leftWs (arN s a) (arN s a + arN s b).toNat⟩

structure Inv7 (i6 i10 : Sk.Id) (a b F : Int) (W : List Wr) (h : AH) : Prop where
  g6 : h.get i6 = some (.cells [.nilsl, .int .i64 0, .nilsl] 26)
  g10 : ∃ wl, h.get i10 = some (.cells [.vsl [.int .i64 a, .int .i64 b] .lit, .int .i64 F, wl] 26) ∧ GrowL h wl (W.map wireV)
  l6 : i6.nat < h.next.nat
  l10 : i10.nat < h.next.nat

theorem no_poss {p : Prop} {b : Bool} (hp : b = true) (h : b = false) : p := by rw [h] at hp; cases hp

theorem wrap_small {a : Int} (h1 : -1000000000 ≤ a) (h2 : a ≤ 1000000000) : IntKind.i64.wrap a = a := by
  simp [IntKind.wrap, IntKind.bits, IntKind.signed]; omega

theorem l7 (call rgn n) (x : AV) (s : List Ag) (a b p F : Int) (hx : IsSig x s) (ha0 : 0 ≤ a) (ha1 : a < s.length) (hp : p = arN s a) (hp6 : 0 ≤ p ∧ p ≤ 6) (hF : F ≤ 12) (h15 : h15 call) (i6 i10 : Sk.Id) (hne : i6 ≠ i10) (hrg : ∀ id ops st, rgn id ops st = drawn ⟨Try.prog, mu0, call⟩ 7 ops st)
    {K : KC (AOut × AH)} {Q : Option (AOut × AH) → Prop} (hN : ¬ Q none)
    (hK : ∀ {h : AH} {g1 g2 g3 g4 g5 g7 g8 g9 g11 g12 g13 g14 g15 g16 g17 g18 g19 g20 g21 g22 g23 g24 g25 g26 g27 g28 g29 g30 g31 g32 g33 g34 g35 g36 g37 g38 g39 g40 g41 g42 g43 g44 g45 g46 g47 g48 g49 g50 g51 g52 g53 g54 g55 g56 g57 g58 g59 g60 g61 g62 g63 g64 g65 g66 g67 g68 g69 g70 g71 g72 g73 g74 g75 g76 g77 g78 g79 g80 g81 g82 g83 g84 g85 g86 g87 g88 g89 g90 g91 g92 g93 g94 g95 g96 g97 : AV}, Inv7 i6 i10 a b F (leftWs p F.toNat) h → Q (K (.exit 0) ⟨(x :: g1 :: g2 :: g3 :: g4 :: g5 :: .ptr i6 0 :: g7 :: g8 :: g9 :: .ptr i10 0 :: g11 :: g12 :: g13 :: g14 :: g15 :: g16 :: g17 :: g18 :: g19 :: g20 :: g21 :: g22 :: g23 :: g24 :: g25 :: g26 :: g27 :: g28 :: g29 :: g30 :: g31 :: g32 :: g33 :: g34 :: g35 :: g36 :: g37 :: g38 :: g39 :: g40 :: g41 :: g42 :: g43 :: g44 :: g45 :: g46 :: g47 :: g48 :: g49 :: g50 :: g51 :: g52 :: g53 :: g54 :: g55 :: g56 :: g57 :: g58 :: g59 :: g60 :: g61 :: g62 :: g63 :: g64 :: g65 :: g66 :: g67 :: g68 :: g69 :: g70 :: g71 :: g72 :: g73 :: g74 :: g75 :: g76 :: g77 :: g78 :: g79 :: g80 :: g81 :: g82 :: g83 :: g84 :: g85 :: g86 :: g87 :: g88 :: g89 :: g90 :: g91 :: g92 :: g93 :: g94 :: g95 :: g96 :: g97 :: []), [], h⟩)) :
    ∀ (m i : Nat) {z : Int} {h : AH} {g2 g3 g4 g5 g7 g8 g9 g11 g12 g13 g14 g15 g16 g17 g18 g19 g20 g21 g22 g23 g24 g25 g26 g27 g28 g29 g30 g31 g32 g33 g34 g35 g36 g37 g38 g39 g40 g41 g42 g43 g44 g45 g46 g47 g48 g49 g50 g51 g52 g53 g54 g55 g56 g57 g58 g59 g62 g63 g64 g65 g66 g67 g68 g69 g70 g71 g72 g73 g74 g75 g76 g77 g78 g79 g80 g81 g82 g83 g84 g85 g86 g87 g88 g89 g90 g91 g92 g93 g94 g95 g96 g97 : AV}, z = i → i ≤ F.toNat → F.toNat - i < m → Inv7 i6 i10 a b F (leftWs p i) h →
    Q (cIter (LB shT call rgn n 7 Try.f7 0) m ⟨(x :: .int .i64 a :: g2 :: g3 :: g4 :: g5 :: .ptr i6 0 :: g7 :: g8 :: g9 :: .ptr i10 0 :: g11 :: g12 :: g13 :: g14 :: g15 :: g16 :: g17 :: g18 :: g19 :: g20 :: g21 :: g22 :: g23 :: g24 :: g25 :: g26 :: g27 :: g28 :: g29 :: g30 :: g31 :: g32 :: g33 :: g34 :: g35 :: g36 :: g37 :: g38 :: g39 :: g40 :: g41 :: g42 :: g43 :: g44 :: g45 :: g46 :: g47 :: g48 :: g49 :: g50 :: g51 :: g52 :: g53 :: g54 :: g55 :: g56 :: g57 :: g58 :: g59 :: .int .i64 F :: .int .i64 z :: g62 :: g63 :: g64 :: g65 :: g66 :: g67 :: g68 :: g69 :: g70 :: g71 :: g72 :: g73 :: g74 :: g75 :: g76 :: g77 :: g78 :: g79 :: g80 :: g81 :: g82 :: g83 :: g84 :: g85 :: g86 :: g87 :: g88 :: g89 :: g90 :: g91 :: g92 :: g93 :: g94 :: g95 :: g96 :: g97 :: []), [], h⟩ K) := by
  intro m
  induction m with
  | zero => intros; omega
  | succ m ih =>
    intro i z h g2 g3 g4 g5 g7 g8 g9 g11 g12 g13 g14 g15 g16 g17 g18 g19 g20 g21 g22 g23 g24 g25 g26 g27 g28 g29 g30 g31 g32 g33 g34 g35 g36 g37 g38 g39 g40 g41 g42 g43 g44 g45 g46 g47 g48 g49 g50 g51 g52 g53 g54 g55 g56 g57 g58 g59 g62 g63 g64 g65 g66 g67 g68 g69 g70 g71 g72 g73 g74 g75 g76 g77 g78 g79 g80 g81 g82 g83 g84 g85 g86 g87 g88 g89 g90 g91 g92 g93 g94 g95 g96 g97 hz hi hm hI
    rw [cIter_succ]
    conv => arg 1; whnf
    split
    · rename_i hd
      have hlt : i < F.toNat := by simp at hd; omega
      obtain ⟨wl, g10, gw⟩ := hI.g10
      obtain ⟨nm, hidx⟩ := idx_sig (h := h) hx ha0 ha1
      rw [← hp] at hidx
      have lw : ∀ h, h.get i10 = some (.cells [.vsl [.int .i64 a, .int .i64 b] .lit, .int .i64 F, wl] 26) → vOf h (aLoad Try.prog 24 (.ptr i10 2) h) = some (.ret wl, h) := fun h g => ld_ptr (n := 1) g (by kernel_rfl) (by kernel_rfl) rfl
      have hw : call (.func 15) [.bool (decide (z < p)), portV (0, IntKind.i64.wrap (z + 1)), portV (1, IntKind.i64.wrap (IntKind.i64.wrap (z + 1) - p))] h = some (.ret (portV (faceN p i)), h) := by
        rw [h15 _ _ _ _ _ h rfl rfl]
        rw [wrap_small (a := z + 1) (by omega) (by omega), wrap_small (a := z + 1 - p) (by omega) (by omega), hz]
        unfold faceN
        by_cases hc : (i : Int) < p
        · rw [if_pos (by simpa using hc), if_pos hc]
        · rw [if_neg (by simpa using hc), if_neg hc]
      conv => arg 1; whnf
      refine atRgn_N true (fun hh => hh.get i10 = some (.cells [.vsl [.int .i64 a, .int .i64 b] .lit, .int .i64 F, wl] 26)) (T := [0, 1, 0, 4, 0, 0, 0, 96, 224, 480, 1008, 0, 2048, 6144, 0, 16384, 0, 0, 196608, 458752, 983040, 2080768, 4177920, 8388592, 16777212, 33554428, 67108863, 134217727, 268435455]) (ord := [0, 1, 2, 3, 4, 5, 6, 7, 8, 9, 10, 11, 12, 13, 14, 15, 16, 17, 18, 19, 20, 21, 22, 23, 24, 25, 26, 27, 28]) (by kernel_rfl) (hrg _ _ _) hN ?_
      conv => arg 1; whnf
      refine atCall_P (lw h g10) ?_
      conv => arg 1; whnf
      refine atCall_P (hidx) ?_
      conv => arg 1; whnf
      refine atCall_P (hidx) ?_
      conv => arg 1; whnf
      refine atCall_P (hw) ?_
      obtain ⟨l', h2, q1, q2, q3, q4⟩ := wires_appendL (call := call) (t := (-1, z, (faceN p i).1, (faceN p i).2)) (c := .lit) gw (by simp [leftWs]; omega)
      conv => arg 1; whnf
      refine atCall_P (q1) ?_
      have r10 := q4 _ _ g10 (notGrp g10) hI.l10
      have r6 := q4 _ _ hI.g6 (notGrp hI.g6) hI.l6
      have hls : l'.scalar = true := isL_scalar (grow_isL q2)
      have st : hOf (aStore Try.prog 24 (.ptr i10 2) l' h2) = some (.ret undefA, h2.set i10 (.cells [.vsl [.int .i64 a, .int .i64 b] .lit, .int .i64 F, l'] 26)) := by
        have hcl : l'.cells = [l'] := isL_cells (grow_isL q2)
        rw [st_ptr (n := 1) r10 (by kernel_rfl) (by rw [hcl]; rfl) (by simp) (by rw [hcl]; simp only [List.all_cons, hls, List.all_nil]; rfl), hcl]; rfl
      conv => arg 1; whnf
      refine atCall_P (st) ?_
      conv => arg 1; whnf
      refine atP_P ⟨?_, (fun k hk hp => match k, hk, hp with
        | 0, _, _ => g10
        | 1, _, _ => g10
        | 2, _, hp => no_poss hp (by kernel_rfl)
        | 3, _, hp => no_poss hp (by kernel_rfl)
        | k + 4, hk, hp => absurd hk (by simp)), (fun a ha => by cases ha), rfl⟩ ?_
      · refine ⟨trivial, fun _ hh g => ⟨hh, lw hh g⟩, trivial, trivial, trivial, trivial, trivial, trivial, trivial, fun _ hh g => ⟨hh, rfl⟩, trivial, trivial, trivial, trivial, trivial, trivial, trivial, trivial, trivial, trivial, fun _ hh g => ⟨hh, rfl⟩, trivial, trivial, trivial, trivial, trivial, trivial, trivial, trivial, trivial⟩
      conv => arg 1; whnf
      refine ih (i + 1) (by rw [hz]; exact wrap_succ (by omega)) (by omega) (by omega) ⟨by rw [AH.get_set, if_neg hne]; exact r6, ⟨l', by rw [AH.get_set, if_pos rfl], .inl ?_⟩, by rw [AH.next_set]; have := hI.l6; omega, by rw [AH.next_set]; have := hI.l10; omega⟩
      rw [hz] at q2
      have : leftWs p (i + 1) = leftWs p i ++ [(-1, (i : Int), (faceN p i).1, (faceN p i).2)] := by
        unfold leftWs; rw [List.range_succ, List.map_append]; rfl
      rw [this]
      exact grow_set q2 _ (notGrp r10)
    · rename_i hd
      have hlt : ¬ i < F.toNat := by simp at hd; omega
      have : i = F.toNat := by omega
      subst this
      exact hK hI

theorem b7 (call rgn n) (x : AV) (s : List Ag) (a b : Int) (hx : IsSig x s) (h0 : (sigChk s).1 = 0) (ha0 : 0 ≤ a) (ha1 : a < s.length) (hb0 : 0 ≤ b) (hb1 : b < s.length) (h14 : h14 call) (h15 : h15 call) (h13 : h13 call)
    (hrg : ∀ id ops st, rgn id ops st = drawn ⟨Try.prog, mu0, call⟩ 7 ops st) (h : AH) (hn : 20 < n) : ∃ h', B shT call rgn n 7 Try.f7 [x, .int .i64 a, .int .i64 b] h = some (.ret (tidyV s (leftN s a b)), h') := by
  suffices hq : ∀ Q : Option (AOut × AH) → Prop, ¬ Q none → (∀ u h', tidyV s (leftN s a b) = u → Q (some (.ret u, h'))) → Q (B shT call rgn n 7 Try.f7 [x, .int .i64 a, .int .i64 b] h) from
    hq (fun y => ∃ h', y = some (.ret (tidyV s (leftN s a b)), h')) (by rintro ⟨_, h⟩; cases h) (fun u h' he => ⟨h', by rw [he]⟩)
  intro Q hN hQ
  have u22 : Try.prog.underlying 22 = some (.slice 43) := by kernel_rfl
  have hls := fun h => len_L (X := ⟨Try.prog, mu0, call⟩) (mu := false) (h := h) u22 hx
  rw [List.length_map] at hls
  obtain ⟨pa, pa6⟩ := arN_le h0 a
  obtain ⟨pb, pb6⟩ := arN_le h0 b
  have hw12 : IntKind.i64.wrap (arN s a + arN s b) = arN s a + arN s b := wrap_small (by omega) (by omega)
  have e00 : ((sigChk s).1 != 0) = false := by simpa using h0
  have e1 : decide (a < 0) = false := by simp; omega
  have e2 : decide (b < 0) = false := by simp; omega
  have e3 : decide (a ≥ (s.length : Int)) = false := by simp; omega
  have e4 : decide (b ≥ (s.length : Int)) = false := by simp; omega
  conv => arg 1; whnf
  refine atCall_P (alloc_new (z := .agg [.nilsl, .int .i64 0, .nilsl]) (cs := [.nilsl, .int .i64 0, .nilsl]) (by kernel_rfl) rfl rfl) ?_
  generalize hh_h1 : h.alloc (.cells [.nilsl, .int .i64 0, .nilsl] 26) = h1 at *
  obtain ⟨a_i6, n_i6, k_h1⟩ := alloc_facts hh_h1
  clear hh_h1 k_h1
  generalize hi_i6 : h.next = i6 at *
  clear hi_i6
  conv => arg 1; whnf
  refine atCall_P (h14 x s h1 hx) ?_
  conv => arg 1; whnf
  rw [e00]
  conv => arg 1; whnf
  rw [e1]
  conv => arg 1; whnf
  rw [e2]
  conv => arg 1; whnf
  refine atCall_P (hls h1) ?_
  conv => arg 1; whnf
  rw [e3]
  conv => arg 1; whnf
  refine atCall_P (hls h1) ?_
  conv => arg 1; whnf
  rw [e4]
  conv => arg 1; whnf
  refine atRgn_N true (fun hh => True) (T := [0, 0, 3, 0, 0, 24, 56, 120, 0, 0, 768, 1792, 3840, 8184, 0, 0, 49152, 114688, 262143, 0, 1048575]) (ord := [0, 1, 2, 3, 4, 5, 6, 7, 8, 9, 10, 11, 12, 13, 14, 15, 16, 17, 18, 19, 20]) (by kernel_rfl) (hrg _ _ _) hN ?_
  obtain ⟨nm, hi⟩ := idx_sig (h := h1) hx ha0 ha1
  obtain ⟨nm2, hi2⟩ := idx_sig (h := h1) hx hb0 hb1
  conv => arg 1; whnf
  refine atCall_P (hi) ?_
  conv => arg 1; whnf
  refine atCall_P (hi2) ?_
  conv => arg 1; whnf
  refine atNew_P (v := .ptr h1.next 0) (ob := .cells [.nilsl, .int .i64 0, .nilsl] 26) (by kernel_rfl) ?_
  generalize hh_h2 : h1.alloc (.cells [.nilsl, .int .i64 0, .nilsl] 26) = h2 at *
  obtain ⟨a_i10, n_i10, k_h2⟩ := alloc_facts hh_h2
  replace a_i6 := k_h2 _ _ a_i6 (by omega)
  clear hh_h2 k_h2
  generalize hi_i10 : h1.next = i10 at *
  clear hi_i10
  have st1 : hOf (aStore Try.prog 26 (.ptr i10 0) (.agg [.vsl [.int .i64 a, .int .i64 b] .lit, .int .i64 (IntKind.i64.wrap (arN s a + arN s b)), .vsl [wireV (0, 0, 1, 0)] .lit]) h2) = some (.ret undefA, h2.set i10 (.cells [.vsl [.int .i64 a, .int .i64 b] .lit, .int .i64 (IntKind.i64.wrap (arN s a + arN s b)), .vsl [wireV (0, 0, 1, 0)] .lit] 26)) :=
    st_ptr (n := 3) a_i10 (by kernel_rfl) rfl (by simp) rfl
  conv => arg 1; whnf
  refine atCall_P (st1) ?_
  have hne : i6 ≠ i10 := by rintro rfl; omega
  have a_10 := a_i10
  generalize hh_h3 : h2.set i10 (.cells [.vsl [.int .i64 a, .int .i64 b] .lit, .int .i64 (IntKind.i64.wrap (arN s a + arN s b)), .vsl [wireV (0, 0, 1, 0)] .lit] 26) = h3 at *
  obtain ⟨b_i10, n_h3, k_h3⟩ := set_facts hh_h3
  replace a_i6 := k_h3 _ _ a_i6 (by rintro rfl; omega)
  clear hh_h3 k_h3
  replace n_h3 : h3.next.nat = h2.next.nat := congrArg Id.nat n_h3
  conv => arg 1; whnf
  refine atP_P ⟨?_, fun k hk hp => trivial, fun e he => ?_, rfl⟩ ?_
  · refine ⟨trivial, trivial, trivial, trivial, trivial, trivial, trivial, fun _ hh g => ⟨hh, rfl⟩, trivial, trivial, trivial, trivial, fun _ hh g => ⟨hh, rfl⟩, trivial, trivial, trivial, trivial, trivial, trivial, trivial, trivial, trivial⟩
  · simp only [List.nil_append, List.mem_singleton] at he
    subst he
    exact ⟨AO.beq_cells _ _, fun k hk hp => match k, hk, hp with
      | 0, _, _ => ⟨Nat.zero_le _, a_10⟩
      | 1, _, hp => no_poss hp (by kernel_rfl)
      | k + 2, hk, _ => absurd hk (by simp)⟩
  rw [hw12] at b_i10
  have lF : vOf h3 (aLoad Try.prog 3 (.ptr i10 1) h3) = some (.ret (.int .i64 (arN s a + arN s b)), h3) := ld_ptr (n := 1) b_i10 (by kernel_rfl) (by kernel_rfl) rfl
  conv => arg 1; whnf
  refine atCall_P (lF) ?_
  conv => arg 1; whnf
  refine l7 call rgn n x s a b (arN s a) (arN s a + arN s b) hx ha0 ha1 rfl ⟨pa, pa6⟩ (by omega) h15 i6 i10 hne hrg hN ?_ n 0 (z := 0) rfl (Nat.zero_le _) (by omega) ⟨a_i6, ⟨_, b_i10, .inr rfl⟩, by omega, by omega⟩
  intro h4
  intros
  rename_i hI
  obtain ⟨wl, g10, gw⟩ := hI.g10
  have ln : vOf h4 (aLoad Try.prog 26 (.ptr i10 0) h4) = some (.ret (.agg [.vsl [.int .i64 a, .int .i64 b] .lit, .int .i64 (arN s a + arN s b), wl]), h4) := ld_agg (n := 3) g10 (by kernel_rfl) (by kernel_rfl) (by simp)
  conv => arg 1; whnf
  refine atCall_P (ln) ?_
  have ht := h13 x (.agg [.vsl [.int .i64 a, .int .i64 b] .lit, .int .i64 (arN s a + arN s b), wl]) s (leftN s a b) h4 hx ⟨_, _, rfl, .inr ⟨_, rfl⟩, growL_isL gw⟩ (by simp [leftN, leftWs]; omega)
  have key : ∃ c0 f0 w0 e0, tidyV s (leftN s a b) = .tup [.agg [c0, f0, w0], .int .i64 e0] ∧ c0.scalar = true ∧ f0.scalar = true ∧ w0.scalar = true := by
    unfold tidyV
    split
    · exact ⟨_, _, _, _, by rw [netW_eq], rfl, rfl, isL_scalar (wiresW_isL _)⟩
    · exact ⟨_, _, _, _, rfl, rfl, rfl, rfl⟩
  obtain ⟨c0, f0, w0, e0, ht0, s1, s2, s3⟩ := key
  rw [ht0] at ht
  conv => arg 1; whnf
  refine atCall_P (ht) ?_
  have st2 : hOf (aStore Try.prog 26 (.ptr i6 0) (.agg [c0, f0, w0]) h4) = some (.ret undefA, h4.set i6 (.cells [c0, f0, w0] 26)) := st_ptr (n := 3) hI.g6 (by kernel_rfl) rfl (by simp) (by show (c0.scalar && (f0.scalar && (w0.scalar && true))) = true; rw [s1, s2, s3]; rfl)
  conv => arg 1; whnf
  refine atCall_P (st2) ?_
  conv => arg 1; whnf
  have ld : aLoad Try.prog 26 (.ptr i6 0) (h4.set i6 (.cells [c0, f0, w0] 26)) = some (.agg [c0, f0, w0]) :=
    ld_val (ld_agg (r := i6) (off := 0) (cs := [c0, f0, w0]) (T := 26) (n := 3) (by rw [AH.get_set, if_pos rfl]) (by kernel_rfl) (by kernel_rfl) (by simp))
  refine atLeave_P (leave_plain (.inl rfl) (l := [.agg [c0, f0, w0], .int .i64 e0]) ?_) (hQ _ _ ht0)
  show (match aLoad Try.prog 26 (.ptr i6 0) (h4.set i6 (.cells [c0, f0, w0] 26)), some [AV.int .i64 e0] with | some v, some l => some (v :: l) | _, _ => none) = _
  rw [ld]

theorem netW_weak (n : Nt) : weakV (netW n) = netW n ∧ freeV (netW n) = true := by
  have e1 : weakL (n.cells.map intV) = n.cells.map intV := weakL_enc (fun _ => rfl) _
  have f1 : freeL (n.cells.map intV) = true := freeL_enc (fun _ => rfl) _
  obtain ⟨e2, f2⟩ := wiresW_weak n.wires
  rw [netW_eq]
  constructor
  · show AV.agg [.vsl (weakL (n.cells.map intV)) .unk, .int .i64 n.free, weakV (wiresW n.wires)] = _
    rw [e1, e2]
  · show (freeL (n.cells.map intV) && (true && (freeV (wiresW n.wires) && true))) = true
    rw [f1, f2]; rfl
theorem tidyV_weak (s : List Ag) (n : Nt) : weakV (tidyV s n) = tidyV s n ∧ freeV (tidyV s n) = true := by
  unfold tidyV
  split
  · obtain ⟨e, f⟩ := netW_weak (tidyN s n)
    constructor
    · show AV.tup [weakV (netW (tidyN s n)), .int .i64 0] = _
      rw [e]
    · show (freeV (netW (tidyN s n)) && true) = true
      rw [f]; rfl
  · exact ⟨rfl, rfl⟩

def s7 : List AV → Option AV
  | [x, .int .i64 a, .int .i64 b] => match sigOf x with
    | some s => if (sigChk s).1 = 0 ∧ (0 ≤ a ∧ a < s.length) ∧ 0 ≤ b ∧ b < s.length then some (tidyV s (leftN s a b)) else none
    | none => none
  | _ => none
def hk7 := addHk hk15 7 s7
theorem E7 : EvOK (mkEv Try.prog mu0 hk7) := mkEv_add3 E15 fun args v hs => by
  unfold s7 at hs; split at hs
  · rename_i x a b
    split at hs
    · rename_i s h1
      split at hs
      · rename_i hl
        cases hs
        obtain ⟨l0, ⟨l1, l2⟩, l3, l4⟩ := hl
        obtain ⟨h', hb⟩ := b7 (evCall (mkEv Try.prog mu0 hk15) 30) (rg Try.prog mu0 hk15 30 7) 30 x s a b (decL_inv h1) l0 l1 l2 l3 l4 (h14_of (fun _ _ => rfl) (by omega)) (h15_of (fun _ _ => rfl) (by omega)) (h13_of (fun _ _ => rfl) (by omega)) (fun _ _ _ => rfl) .empty (by omega)
        exact ⟨_, (tidyV_weak s _).2, (tidyV_weak s _).1.symm, ev_ofS shT rfl Try.func7 rfl (by kernel_rfl) hb⟩
      · cases hs
    · cases hs
  · cases hs
def h7 (call : CallT) : Prop := ∀ x s (a b : Int) h, IsSig x s → (sigChk s).1 = 0 → 0 ≤ a → a < s.length → 0 ≤ b → b < s.length → call (.func 7) [x, .int .i64 a, .int .i64 b] h = some (.ret (tidyV s (leftN s a b)), h)
theorem h7_of {hk : Hooks} {n : Nat} (hk7' : ∀ args h, hk 7 args h = hk7 7 args h) (hn : 0 < n) : h7 (evCall (mkEv Try.prog mu0 hk) n) := fun x s a b h hx l0 l1 l2 l3 l4 => ev_hk (by
  rw [hk7']
  refine hk_top (by simp [freeL, freeV, sig_free hx]) ?_
  show (match sigOf (weakV x) with
    | some s => if (sigChk s).1 = 0 ∧ (0 ≤ a ∧ a < s.length) ∧ 0 ≤ b ∧ b < s.length then some (tidyV s (leftN s a b)) else none
    | none => none) = _
  rw [sigOf_of hx]; simp only [if_pos (⟨l0, ⟨l1, l2⟩, l3, l4⟩ : (sigChk s).1 = 0 ∧ (0 ≤ a ∧ a < s.length) ∧ 0 ≤ b ∧ b < s.length)]) hn
end Go.Proofs.Nt

/-
  rewrite.linked.
-/
namespace Go.Proofs.Nt
open Go.Sk
set_option linter.unusedVariables false
set_option linter.unusedSimpArgs false
set_option maxRecDepth 10000

theorem fits17 : tabFits Try.prog (mu0 17) tab27 (codeOf Try.f17) = true := by kernel_rfl

theorem l17 (call rgn n) (w : AV) (wires : List Wr) (hw : IsL w (wires.map wireV)) (hlen : wires.length ≤ 1000000000) (r : Sk.Id) (n0 : Nat) (g : AH) (hr0 : n0 ≤ r.nat) (T : Mp) {K : KC (AOut × AH)} {Q : Option (AOut × AH) → Prop}
    (hK : ∀ {h : AH} {g0 g1 g2 g4 g5 g6 g7 g8 g9 g10 g11 g12 g13 g14 g15 g16 g17 g18 g19 g20 g21 g22 g23 g24 g25 : AV}, MapAt h r T → r.nat < h.next.nat → Kept n0 g h → Q (K (.exit 0) ⟨(g0 :: g1 :: g2 :: .map r :: g4 :: g5 :: g6 :: g7 :: g8 :: g9 :: g10 :: g11 :: g12 :: g13 :: g14 :: g15 :: g16 :: g17 :: g18 :: g19 :: g20 :: g21 :: g22 :: g23 :: g24 :: g25 :: []), [], h⟩)) :
    ∀ (m i : Nat) {z : Int} {M : Mp} {h : AH} {g0 g1 g2 g4 g5 g6 g7 g11 g12 g13 g14 g15 g16 g17 g18 g19 g20 g21 g22 g23 g24 g25 : AV}, z = i → i ≤ wires.length → wires.length - i < m → MapAt h r M → r.nat < h.next.nat → Kept n0 g h → T = linkM (wires.drop i) M →
    Q (cIter (LB tab27 call rgn n 17 Try.f17 0) m ⟨(g0 :: g1 :: g2 :: .map r :: g4 :: g5 :: g6 :: g7 :: w :: .int .i64 wires.length :: .int .i64 z :: g11 :: g12 :: g13 :: g14 :: g15 :: g16 :: g17 :: g18 :: g19 :: g20 :: g21 :: g22 :: g23 :: g24 :: g25 :: []), [], h⟩ K) := by
  have u : Try.prog.underlying 24 = some (.slice 47) := by kernel_rfl
  have um : Try.prog.underlying 55 = some (.map 45 45) := by kernel_rfl
  intro m
  induction m with
  | zero => intros; omega
  | succ m ih =>
    intro i z M h g0 g1 g2 g4 g5 g6 g7 g11 g12 g13 g14 g15 g16 g17 g18 g19 g20 g21 g22 g23 g24 g25 hz hi hm hM hrn hk hT
    rw [cIter_succ]
    conv => arg 1; whnf
    split
    · rename_i hd
      have hlt : i < wires.length := by simp at hd; omega
      have hdrop : wires.drop i = wires[i] :: wires.drop (i + 1) := List.drop_eq_getElem_cons hlt
      have hg : (wires.map wireV)[i]? = some (wireV wires[i]) := by rw [List.getElem?_map, List.getElem?_eq_getElem hlt]; rfl
      have hidx := fun h => idx_L (P := Try.prog) (t := 24) (e := 47) (n := 4) (h := h) (k := .i64) u (by kernel_rfl) hw hz hg rfl
      rw [hdrop] at hT
      simp only [linkM] at hT
      generalize wires[i] = ww at hidx hT
      obtain ⟨a, b, c, d⟩ := ww
      simp only [wA, wB] at hT
      conv => arg 1; whnf
      refine atCall_P (hidx _) ?_
      conv => arg 1; whnf
      refine atCall_P (alloc_new (z := .agg [.int .i64 0, .int .i64 0, .int .i64 0, .int .i64 0]) (cs := [.int .i64 0, .int .i64 0, .int .i64 0, .int .i64 0]) (by kernel_rfl) rfl rfl) ?_
      conv => arg 1; whnf
      have hst := st_new (h := h) (cs0 := [.int .i64 0, .int .i64 0, .int .i64 0, .int .i64 0]) (v := .agg [.int .i64 a, .int .i64 b, .int .i64 c, .int .i64 d]) (cs := [.int .i64 a, .int .i64 b, .int .i64 c, .int .i64 d]) (T := 47) (n := 4) (P := Try.prog) (by kernel_rfl) rfl rfl rfl rfl
      refine atCall_P hst ?_
      obtain ⟨hget, hnx, hkeep⟩ := new_obj h [.int .i64 0, .int .i64 0, .int .i64 0, .int .i64 0] [.int .i64 a, .int .i64 b, .int .i64 c, .int .i64 d] 47
      have hM2 := hM.keep (fun o ho => hkeep r o ho hrn)
      have hk2 : Kept n0 g ((h.alloc (.cells [.int .i64 0, .int .i64 0, .int .i64 0, .int .i64 0] 47)).set h.next (.cells [.int .i64 a, .int .i64 b, .int .i64 c, .int .i64 d] 47)) := (hk.alloc _).set _ hk.2
      have hpr : h.next ≠ r := by rintro rfl; omega
      generalize ((h.alloc (.cells [.int .i64 0, .int .i64 0, .int .i64 0, .int .i64 0] 47)).set h.next (.cells [.int .i64 a, .int .i64 b, .int .i64 c, .int .i64 d] 47)) = h2 at hget hnx hkeep hM2 hk2 ⊢
      have hrn2 : r.nat < h2.next.nat := by omega
      generalize h.next = p at hget hpr ⊢
      have lA : vOf h2 (aLoad Try.prog 45 (.ptr p 0) h2) = some (.ret (portV (a, b)), h2) := ld_agg (n := 2) hget (by kernel_rfl) (by kernel_rfl) (by simp)
      have lB : vOf h2 (aLoad Try.prog 45 (.ptr p 2) h2) = some (.ret (portV (c, d)), h2) := ld_agg (n := 2) hget (by kernel_rfl) (by kernel_rfl) (by simp)
      obtain ⟨o1, hu1, hM3⟩ := update_M um hM2 (a, b) (portV (c, d))
      obtain ⟨o2, hu2, hM4⟩ := update_M um hM3 (c, d) (portV (a, b))
      repeat' (first
        | refine atCall_P lA ?_
        | refine atCall_P lB ?_
        | refine atCall_P hu1 ?_
        | refine atCall_P hu2 ?_
        | (conv => arg 1; whnf; done))
      conv => arg 1; whnf
      refine ih (i + 1) (by rw [hz]; exact wrap_succ (by omega)) (by omega) (by omega) hM4 (by rw [AH.next_set, AH.next_set]; exact hrn2) ((hk2.set _ hr0).set _ hr0) hT
    · rename_i hd
      have hlt : ¬ i < wires.length := by simp at hd; omega
      refine hK ?_ hrn hk
      rw [hT, List.drop_eq_nil_of_le (by omega)]; exact hM

theorem b17 (call rgn n) (c w : AV) (f : Int) (wires : List Wr) (hw : IsL w (wires.map wireV)) (hlen : wires.length ≤ 1000000000) (hn : wires.length < n) (h : AH) (hsc : c.scalar = true) :
    ∃ r h', B tab27 call rgn n 17 Try.f17 [.agg [c, .int .i64 f, w]] h = some (.ret (.map r), h') ∧ MapAt h' r (linkM wires fun _ => none) ∧ h.next.nat ≤ r.nat ∧ r.nat < h'.next.nat ∧ Kept h.next.nat h h' := by
  have u : Try.prog.underlying 24 = some (.slice 47) := by kernel_rfl
  have hl := fun h => len_L (X := ⟨Try.prog, mu0, call⟩) (mu := false) (h := h) u hw
  rw [List.length_map] at hl
  have hws : w.scalar = true := by rcases hw with ⟨rfl, _⟩ | ⟨c, rfl⟩ <;> rfl
  suffices hq : (fun y : Option (AOut × AH) => ∃ r h', y = some (.ret (.map r), h') ∧ MapAt h' r (linkM wires fun _ => none) ∧ h.next.nat ≤ r.nat ∧ r.nat < h'.next.nat ∧ Kept h.next.nat h h') (B tab27 call rgn n 17 Try.f17 [.agg [c, .int .i64 f, w]] h) from hq
  generalize hQ : (fun y : Option (AOut × AH) => ∃ r h', y = some (.ret (.map r), h') ∧ MapAt h' r (linkM wires fun _ => none) ∧ h.next.nat ≤ r.nat ∧ r.nat < h'.next.nat ∧ Kept h.next.nat h h') = Q
  have hQ' : ∀ r h', MapAt h' r (linkM wires fun _ => none) → h.next.nat ≤ r.nat → r.nat < h'.next.nat → Kept h.next.nat h h' → Q (some (.ret (.map r), h')) := fun r h' h1 h2 h3 h4 => by rw [← hQ]; exact ⟨r, h', rfl, h1, h2, h3, h4⟩
  conv => arg 1; whnf
  refine atCall_P (box_new (cs := [c, .int .i64 f, w]) rfl (by simp only [List.all_cons, hsc, hws, List.all_nil]; rfl)) ?_
  conv => arg 1; whnf
  have g1 : (h.alloc (.cells [c, .int .i64 f, w] 26)).get h.next = some (.cells [c, .int .i64 f, w] 26) := by rw [AH.get_alloc, if_pos rfl]
  have n1 : (h.alloc (.cells [c, .int .i64 f, w] 26)).next.nat = h.next.nat + 1 := by rw [AH.next_alloc, Id.nat_succ]
  have k1 := (Kept.refl h).alloc (.cells [c, .int .i64 f, w] 26)
  generalize (h.alloc (.cells [c, .int .i64 f, w] 26)) = h1 at g1 n1 k1 ⊢
  generalize h.next = q at g1 n1 k1 hQ' ⊢
  have g2 : (h1.alloc (.map [] 0)).get h1.next = some (.map [] 0) := by rw [AH.get_alloc, if_pos rfl]
  have g3 := kept_alloc (o' := .map [] 0) g1 (by omega)
  have n2 : (h1.alloc (.map [] 0)).next.nat = h1.next.nat + 1 := by rw [AH.next_alloc, Id.nat_succ]
  have k2 := k1.alloc (.map [] 0)
  generalize (h1.alloc (.map [] 0)) = h2 at g2 g3 n2 k2 ⊢
  generalize h1.next = r at g2 n2 n1 ⊢
  have lw : vOf h2 (aLoad Try.prog 24 (.ptr q 2) h2) = some (.ret w, h2) := ld_ptr (n := 1) g3 (by kernel_rfl) (by kernel_rfl) rfl
  refine atCall_P lw ?_
  conv => arg 1; whnf
  refine atCall_P (hl _) ?_
  conv => arg 1; whnf
  refine l17 call rgn n w wires hw hlen r q.nat h (by omega) (linkM wires fun _ => none) ?_ n 0 (z := 0) rfl (Nat.zero_le _) (by omega) (M := fun _ => none) ⟨[], 0, g2, fun p => rfl⟩ (by omega) k2 (by rw [List.drop_zero])
  intro h3
  intros
  rename_i q1 q2 q3
  conv => arg 1; whnf
  exact atLeave_P (leave_plain (.inl rfl) rfl) (hQ' r _ q1 (by omega) q2 q3)
end Go.Proofs.Nt

/-
  Maps whose keys are numbers, places.
-/
namespace Go.Proofs.Nt
open Go.Sk
set_option linter.unusedVariables false
set_option linter.unusedSimpArgs false
set_option maxRecDepth 10000

/-- Keys as values. -/
structure KeyOK {κ : Type} [DecidableEq κ] (enc : κ → AV) (kt : TypeId) : Prop where
  eq : ∀ p q, aEq Try.prog kt (enc p) (enc q) = some (decide (p = q))
  ok : ∀ p, aKeyOk Try.prog 10000 kt (enc p) = true
  beq : ∀ p, plainBeq (enc p) (enc p) = true

def entG {κ : Type} (enc : κ → AV) (e : κ × AV × Nat) : AV × AV × Nat := (enc e.1, e.2.1, e.2.2)

theorem setNth_mapG {κ : Type} {enc : κ → AV} (f : κ × AV × Nat → κ × AV × Nat) (g : AV × AV × Nat → AV × AV × Nat) (hfg : ∀ e, entG enc (f e) = g (entG enc e)) : ∀ (L : List (κ × AV × Nat)) (k : Nat), setNth (L.map (entG enc)) k g = (setNth L k f).map (entG enc)
  | [], k => rfl
  | e :: r, 0 => by simp only [List.map_cons, setNth, hfg]
  | e :: r, k + 1 => by simp only [List.map_cons, setNth, setNth_mapG f g hfg r k]

section
variable {κ : Type} [DecidableEq κ] {enc : κ → AV} {kt : TypeId}

def findG (p : κ) : List (κ × AV × Nat) → Nat → Option (Nat × AV × Nat)
  | [], _ => none
  | e :: r, i => if p = e.1 then some (i, e.2.1, e.2.2) else findG p r (i + 1)

theorem find_G (hk : KeyOK enc kt) (p : κ) : ∀ (L : List (κ × AV × Nat)) (i : Nat), aFind (fun e => aEq Try.prog kt (enc p) e) (enc p) (L.map (entG enc)) i = some (findG p L i)
  | [], i => rfl
  | e :: r, i => by
    simp only [List.map_cons, entG, aFind, hk.eq, findG]
    by_cases h : p = e.1
    · simp only [h, decide_true, hk.beq, if_true]
    · simp only [h, decide_false, if_false]
      exact find_G hk p r (i + 1)

theorem findKey_G (hk : KeyOK enc kt) (p : κ) (L : List (κ × AV × Nat)) : aFindKey Try.prog kt (enc p) (L.map (entG enc)) = some (findG p L 0) := by
  simp only [aFindKey, hk.ok, if_true, find_G hk]

def valG (p : κ) (L : List (κ × AV × Nat)) : Option AV := (findG p L 0).map (·.2.1)
theorem findG_shift (p : κ) : ∀ (L : List (κ × AV × Nat)) (i : Nat), (findG p L i).map (·.2.1) = (findG p L 0).map (·.2.1) ∧ (∀ k v b, findG p L i = some (k, v, b) → i ≤ k ∧ k - i < L.length ∧ findG p L 0 = some (k - i, v, b))
  | [], i => ⟨rfl, fun k v b h => by cases h⟩
  | e :: r, i => by
    simp only [findG]
    by_cases h : p = e.1
    · simp only [if_pos h]
      refine ⟨rfl, fun k v b h => ?_⟩
      simp only [Option.some.injEq, Prod.mk.injEq] at h
      obtain ⟨rfl, rfl, rfl⟩ := h
      exact ⟨Nat.le_refl _, by simp, by simp⟩
    · simp only [if_neg h]
      obtain ⟨h1, h2⟩ := findG_shift p r (i + 1)
      obtain ⟨h3, h4⟩ := findG_shift p r 1
      refine ⟨h1.trans h3.symm, fun k v b hk => ?_⟩
      obtain ⟨q1, q2, q3⟩ := h2 k v b hk
      refine ⟨by omega, by simp; omega, ?_⟩
      have : ∀ (L : List (κ × AV × Nat)) (i j : Nat) k v b, findG p L i = some (k, v, b) → findG p L (i + j) = some (k + j, v, b) := by
        intro L
        induction L with
        | nil => intro i j k v b h; cases h
        | cons e r ih =>
          intro i j k v b h
          simp only [findG] at h ⊢
          split
          · rename_i he
            rw [if_pos he] at h
            simp only [Option.some.injEq, Prod.mk.injEq] at h
            obtain ⟨rfl, rfl, rfl⟩ := h; rfl
          · rename_i he
            rw [if_neg he] at h
            have := ih (i + 1) j k v b h
            rw [show i + j + 1 = i + 1 + j by omega]; exact this
      have := this r 0 1 _ _ _ q3
      rw [this]; simp; omega

theorem valG_set {p q : κ} {v : AV} : ∀ {L : List (κ × AV × Nat)} {k : Nat} {u : AV} {b : Nat}, findG p L 0 = some (k, u, b) → valG q (setNth L k fun e => (p, v, e.2.2)) = if q = p then some v else valG q L
  | [], k, u, b, h => by cases h
  | e :: r, k, u, b, h => by
    simp only [findG] at h
    split at h
    · rename_i he
      simp only [Option.some.injEq, Prod.mk.injEq] at h
      obtain ⟨rfl, rfl, rfl⟩ := h
      show valG q ((p, v, e.2.2) :: r) = _
      simp only [valG, findG]
      by_cases hq : q = p
      · simp only [if_pos hq]; rfl
      · rw [if_neg hq, if_neg hq, if_neg (by rw [← he]; exact hq)]
    · rename_i he
      obtain ⟨h1, h2, h3⟩ := (findG_shift p r 1).2 k u b h
      obtain ⟨k, rfl⟩ : ∃ k', k = k' + 1 := ⟨k - 1, by omega⟩
      have ih := valG_set (q := q) (v := v) h3
      show valG q (e :: setNth r k fun e => (p, v, e.2.2)) = _
      simp only [Nat.add_sub_cancel] at ih
      simp only [valG, findG] at ih ⊢
      by_cases hq : q = e.1
      · have hne : q ≠ p := fun h => he (h ▸ hq)
        simp only [if_pos hq, if_neg hne]
      · simp only [if_neg hq]
        rw [(findG_shift q _ 1).1, (findG_shift q _ 1).1]; exact ih

theorem valG_add {p q : κ} {v : AV} {c : Nat} : ∀ {L : List (κ × AV × Nat)} {i : Nat}, findG p L i = none → valG q (L ++ [(p, v, c)]) = if q = p then some v else valG q L
  | [], i, h => by
    simp only [List.nil_append, valG, findG]
    by_cases hq : q = p
    · simp [hq]
    · simp [hq]
  | e :: r, i, h => by
    simp only [findG] at h
    split at h
    · cases h
    · rename_i he
      have ih := valG_add (q := q) (v := v) (c := c) h
      simp only [List.cons_append, valG, findG] at ih ⊢
      by_cases hq : q = e.1
      · have hne : q ≠ p := fun h => he (h ▸ hq)
        simp only [if_pos hq, if_neg hne]
      · simp only [if_neg hq]
        rw [(findG_shift q _ 1).1, (findG_shift q _ 1).1]; exact ih

/-- A map in the heap. -/
def MapG (enc : κ → AV) (h : AH) (r : Sk.Id) (M : κ → Option AV) : Prop := ∃ (L : List (κ × AV × Nat)) (clock : Nat), h.get r = some (.map (L.map (entG enc)) clock) ∧ ∀ p, valG p L = M p

theorem MapG.keep {h h' : AH} {r : Sk.Id} {M : κ → Option AV} (hM : MapG enc h r M) (hk : ∀ o, h.get r = some o → (∀ n, o ≠ .grp n) → h'.get r = some o) : MapG enc h' r M := by
  obtain ⟨L, c, h1, h2⟩ := hM
  exact ⟨L, c, hk _ h1 (by simp), h2⟩
theorem MapG.notGrp {h : AH} {r : Sk.Id} {M : κ → Option AV} (hM : MapG enc h r M) : NotGrp h r := by
  obtain ⟨L, c, h1, h2⟩ := hM
  intro n; rw [h1]; simp

theorem lookup_G (hk : KeyOK enc kt) {t et : TypeId} {h : AH} {r : Sk.Id} {M : κ → Option AV} {z : AV} (ht : Try.prog.underlying t = some (.map kt et)) (hz : zeroT Try.prog et = some z) (hM : MapG enc h r M) (p : κ) :
    vOf h (aLookup Try.prog t (.map r) (enc p) false h) = some (.ret ((M p).getD z), h) := by
  obtain ⟨L, clock, hg, hv⟩ := hM
  have := hv p
  unfold valG at this
  simp only [aLookup, ht, aEntries, hg, findKey_G hk]
  cases hf : findG p L 0 with
  | none => rw [hf] at this; rw [← this]; simp [hz, vOf]
  | some e => obtain ⟨k, v, b⟩ := e; rw [hf] at this; rw [← this]; simp [vOf]

def updG (M : κ → Option AV) (p : κ) (v : AV) : κ → Option AV := fun q => if q = p then some v else M q

theorem update_G (hk : KeyOK enc kt) {t et : TypeId} {h : AH} {r : Sk.Id} {M : κ → Option AV} (ht : Try.prog.underlying t = some (.map kt et)) (hM : MapG enc h r M) (p : κ) (v : AV) :
    ∃ o, hOf (aMapUpdate Try.prog t (.map r) (enc p) v h) = some (.ret undefA, h.set r o) ∧ MapG enc (h.set r o) r (updG M p v) := by
  obtain ⟨L, clock, hg, hv⟩ := hM
  simp only [aMapUpdate, ht, hg, findKey_G hk]
  cases hf : findG p L 0 with
  | none =>
    refine ⟨.map ((L ++ [(p, v, clock)]).map (entG enc)) (clock + 1), ?_, L ++ [(p, v, clock)], clock + 1, by rw [AH.get_set, if_pos rfl], fun q => ?_⟩
    · simp [hOf, entG]
    · rw [valG_add hf]; simp only [hv]; rfl
  | some e =>
    obtain ⟨k, u, b⟩ := e
    refine ⟨.map ((setNth L k fun e => (p, v, e.2.2)).map (entG enc)) clock, ?_, setNth L k fun e => (p, v, e.2.2), clock, by rw [AH.get_set, if_pos rfl], fun q => ?_⟩
    · simp only [hOf]
      rw [setNth_mapG (fun e => (p, v, e.2.2)) (fun e => (enc p, v, e.2.2)) (fun e => rfl)]
    · rw [valG_set hf]; simp only [hv]; rfl

theorem MapG.empty {h : AH} {r : Sk.Id} (hg : h.get r = some (.map [] 0)) : MapG enc h r fun _ => none := ⟨[], 0, hg, fun p => rfl⟩
end

/-! ### Numbers, places -/

abbrev Place := Bool × Int × Int
def placeV (x : Place) : AV := .agg [.bool x.1, .int .i64 x.2.1, .int .i64 x.2.2]

theorem key_int : KeyOK intV 3 where
  eq := fun p q => by
    have : aEq Try.prog 3 (intV p) (intV q) = aEqIn Try.prog 10000 3 (.int .i64 p) (.int .i64 q) := by kernel_rfl
    rw [this, eqIn_int (d := 9999) (k := .i64) (by kernel_rfl)]
    congr 1
  ok := fun p => by kernel_rfl
  beq := fun p => by simp [plainBeq, intV, plainCellEq]

theorem key_place : KeyOK placeV 68 where
  eq := fun p q => by
    obtain ⟨a, b, c⟩ := p
    obtain ⟨d, e, f⟩ := q
    have h1 : aEq Try.prog 68 (placeV (a, b, c)) (placeV (d, e, f)) = (match aEqIn Try.prog 9999 4 (.bool a) (.bool d) with
      | some true => (match aEqIn Try.prog 9999 45 (.agg [.int .i64 b, .int .i64 c]) (.agg [.int .i64 e, .int .i64 f]) with | some true => some true | some false => some false | none => none)
      | some false => some false
      | none => none) := by kernel_rfl
    have h2 : aEqIn Try.prog 9999 45 (.agg [.int .i64 b, .int .i64 c]) (.agg [.int .i64 e, .int .i64 f]) = (match aEqIn Try.prog 9998 3 (.int .i64 b) (.int .i64 e) with
      | some true => (match aEqIn Try.prog 9998 3 (.int .i64 c) (.int .i64 f) with | some true => some true | some false => some false | none => none)
      | some false => some false
      | none => none) := by kernel_rfl
    have h3 : aEqIn Try.prog 9999 4 (.bool a) (.bool d) = some (a == d) := by cases a <;> cases d <;> kernel_rfl
    rw [h1, h2, h3, eqIn_int (d := 9997) (k := .i64) (by kernel_rfl), eqIn_int (d := 9997) (k := .i64) (by kernel_rfl)]
    have : decide ((a, b, c) = (d, e, f)) = (a == d && (b == e && c == f)) := by
      rw [Bool.eq_iff_iff]; simp
    rw [this]
    cases a == d <;> cases b == e <;> cases c == f <;> rfl
  ok := fun p => by obtain ⟨a, b, c⟩ := p; kernel_rfl
  beq := fun p => by obtain ⟨a, b, c⟩ := p; cases a <;> simp [plainBeq, placeV, plainCellsEq, plainCellEq]
end Go.Proofs.Nt

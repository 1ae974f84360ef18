/-
  unary.Read: its small calls, its loops.
-/
import Derived.Test.YtpepjbbbaolheaaGreatNtM4
import Derived.Test.YtpepjbbbaolheaaGreatSkOpen
import Derived.Deep.Slices
namespace Go.Proofs.Nt
open Go.Sk
set_option linter.unusedVariables false
set_option linter.unusedSimpArgs false
set_option maxRecDepth 10000

theorem bFr (call rgn n) (k : Int) (h : AH) : ∃ h', B shT call rgn n 67 Tryz.f67 [.int .i64 k] h = some (.ret (portV (-1, k)), h') := by
  suffices hq : ∀ Q : Option (AOut × AH) → Prop, (∀ h', Q (some (.ret (portV (-1, k)), h'))) → Q (B shT call rgn n 67 Tryz.f67 [.int .i64 k] h) from hq (fun y => ∃ h', y = some (.ret (portV (-1, k)), h')) (fun h' => ⟨h', rfl⟩)
  intro Q hQ
  conv => arg 1; whnf
  refine atCall_P (alloc_new (z := .agg [.int .i64 0, .int .i64 0]) (cs := [.int .i64 0, .int .i64 0]) (by kernel_rfl) rfl rfl) ?_
  generalize hh_h1 : h.alloc (.cells [.int .i64 0, .int .i64 0] 60) = h1 at *
  obtain ⟨a_i2, n_i2, k_h1⟩ := alloc_facts hh_h1
  clear hh_h1 k_h1
  generalize hi_i2 : h.next = i2 at *
  clear hi_i2
  have st : hOf (aStore Tryz.prog 60 (.ptr i2 0) (portV (-1, k)) h1) = some (.ret undefA, h1.set i2 (.cells [.int .i64 (-1), .int .i64 k] 60)) := st_ptr (n := 2) a_i2 (by kernel_rfl) rfl (by simp) rfl
  conv => arg 1; whnf
  refine atCall_P (st) ?_
  conv => arg 1; whnf
  have ld : aLoad Tryz.prog 60 (.ptr i2 0) (h1.set i2 (.cells [.int .i64 (-1), .int .i64 k] 60)) = some (portV (-1, k)) :=
    ld_val (ld_agg (r := i2) (off := 0) (cs := [.int .i64 (-1), .int .i64 k]) (T := 60) (n := 2) (by rw [AH.get_set, if_pos rfl]) (by kernel_rfl) (by kernel_rfl) (by simp))
  refine atLeave_P (leave_plain (.inl rfl) (l := [portV (-1, k)]) ?_) (hQ _)
  show (match aLoad Tryz.prog 60 (.ptr i2 0) (h1.set i2 (.cells [.int .i64 (-1), .int .i64 k] 60)), some ([] : List AV) with | some v, some l => some (v :: l) | _, _ => none) = _
  rw [ld]
theorem bAt (call rgn n) (c k : Int) (h : AH) : ∃ h', B shT call rgn n 68 Tryz.f68 [.int .i64 c, .int .i64 k] h = some (.ret (portV (c, k)), h') := by
  suffices hq : ∀ Q : Option (AOut × AH) → Prop, (∀ h', Q (some (.ret (portV (c, k)), h'))) → Q (B shT call rgn n 68 Tryz.f68 [.int .i64 c, .int .i64 k] h) from hq (fun y => ∃ h', y = some (.ret (portV (c, k)), h')) (fun h' => ⟨h', rfl⟩)
  intro Q hQ
  conv => arg 1; whnf
  refine atCall_P (alloc_new (z := .agg [.int .i64 0, .int .i64 0]) (cs := [.int .i64 0, .int .i64 0]) (by kernel_rfl) rfl rfl) ?_
  generalize hh_h1 : h.alloc (.cells [.int .i64 0, .int .i64 0] 60) = h1 at *
  obtain ⟨a_i2, n_i2, k_h1⟩ := alloc_facts hh_h1
  clear hh_h1 k_h1
  generalize hi_i2 : h.next = i2 at *
  clear hi_i2
  have st : hOf (aStore Tryz.prog 60 (.ptr i2 0) (portV (c, k)) h1) = some (.ret undefA, h1.set i2 (.cells [.int .i64 c, .int .i64 k] 60)) := st_ptr (n := 2) a_i2 (by kernel_rfl) rfl (by simp) rfl
  conv => arg 1; whnf
  refine atCall_P (st) ?_
  conv => arg 1; whnf
  have ld : aLoad Tryz.prog 60 (.ptr i2 0) (h1.set i2 (.cells [.int .i64 c, .int .i64 k] 60)) = some (portV (c, k)) :=
    ld_val (ld_agg (r := i2) (off := 0) (cs := [.int .i64 c, .int .i64 k]) (T := 60) (n := 2) (by rw [AH.get_set, if_pos rfl]) (by kernel_rfl) (by kernel_rfl) (by simp))
  refine atLeave_P (leave_plain (.inl rfl) (l := [portV (c, k)]) ?_) (hQ _)
  show (match aLoad Tryz.prog 60 (.ptr i2 0) (h1.set i2 (.cells [.int .i64 c, .int .i64 k] 60)), some ([] : List AV) with | some v, some l => some (v :: l) | _, _ => none) = _
  rw [ld]

def sFr : List AV → Option AV | [.int .i64 k] => some (portV (-1, k)) | _ => none
def sAt : List AV → Option AV | [.int .i64 c, .int .i64 k] => some (portV (c, k)) | _ => none
def hkFr := addHk hkPo 67 sFr
def hkAt := addHk hkFr 68 sAt
theorem EFr : EvOK (mkEv Tryz.prog mu0 hkFr) := mkEv_add EPo fun args v hs => by
  unfold sFr at hs; split at hs
  · cases hs
    obtain ⟨h', hb⟩ := bFr (evCall (mkEv Tryz.prog mu0 hkPo) 1) (rg Tryz.prog mu0 hkPo 1 67) 1 _ .empty
    exact ⟨rfl, ev_ofS shT rfl Tryz.func67 rfl (by kernel_rfl) hb⟩
  · cases hs
theorem EAt : EvOK (mkEv Tryz.prog mu0 hkAt) := mkEv_add EFr fun args v hs => by
  unfold sAt at hs; split at hs
  · cases hs
    obtain ⟨h', hb⟩ := bAt (evCall (mkEv Tryz.prog mu0 hkFr) 1) (rg Tryz.prog mu0 hkFr 1 68) 1 _ _ .empty
    exact ⟨rfl, ev_ofS shT rfl Tryz.func68 rfl (by kernel_rfl) hb⟩
  · cases hs
theorem hFr_of {hk : Hooks} {n : Nat} (hk' : ∀ args h, hk 67 args h = hkFr 67 args h) (hn : 0 < n) (k : Int) (h : AH) : evCall (mkEv Tryz.prog mu0 hk) n (.func 67) [.int .i64 k] h = some (.ret (portV (-1, k)), h) := ev_hk (by
  rw [hk']; exact hk_top rfl rfl) hn
theorem hAt_of {hk : Hooks} {n : Nat} (hk' : ∀ args h, hk 68 args h = hkAt 68 args h) (hn : 0 < n) (c k : Int) (h : AH) : evCall (mkEv Tryz.prog mu0 hk) n (.func 68) [.int .i64 c, .int .i64 k] h = some (.ret (portV (c, k)), h) := ev_hk (by
  rw [hk']; exact hk_top rfl rfl) hn

/-! ### The map -/

def fromM (N : Lk) : List Pt → Mp → Mp
  | [], M => M
  | p :: ps, M => fromM N ps (updM M p (portV (valN N p)))
theorem fromM_no (N : Lk) : ∀ (ps : List Pt) (M : Mp) (p : Pt), M p = some (portV (valN N p)) → fromM N ps M p = some (portV (valN N p))
  | [], _, _, h => h
  | q :: ps, M, p, h => fromM_no N ps _ p (by
    unfold updM; split
    · rename_i e; rw [e]
    · exact h)
theorem fromM_mem (N : Lk) : ∀ (ps : List Pt) (M : Mp) (p : Pt), p ∈ ps → fromM N ps M p = some (portV (valN N p))
  | q :: ps, M, p, h => by
    rcases List.mem_cons.1 h with rfl | h
    · exact fromM_no N ps _ _ (by unfold updM; rw [if_pos rfl])
    · exact fromM_mem N ps _ p h

def tab28 : Nat → Option (List Nat) := fun id => match Nat.beq id 999999 with | true => some [] | false => match Nat.beq id 1 with | true => some [1, 0, 2, 3, 4, 5, 6, 7] | false => match Nat.beq id 6 with | true => some [1, 0, 2, 3, 4, 5, 6, 7] | false => none
theorem fits28 : tabFits Tryz.prog (mu0 28) tab28 (codeOf Tryz.f28) = true := by kernel_rfl

section
variable {i1 r : Sk.Id} {c w ev pv : AV} {f : Int}

theorem lU0 (call rgn n) (ps : List Pt) (N : Lk) (he : IsL ev ((ps.map (valN N)).map portV)) (hp : IsL pv (ps.map portV)) (hlen : ps.length ≤ 1000000) (hne : i1.nat < r.nat) (hrg : ∀ id ops st, rgn id ops st = drawn ⟨Tryz.prog, mu0, call⟩ 28 ops st) {T : Mp} {K : KC (AOut × AH)} {Q : Option (AOut × AH) → Prop} (hN : ¬ Q none)
    (hK : ∀ {h : AH} {g0 g2 g3 g4 g5 g6 g7 g9 g10 g11 g12 g13 g14 g15 g16 g17 g18 g19 g20 g21 g22 g23 g24 g25 g26 g27 g28 g29 g30 g31 g32 g33 g34 g35 g36 g37 g38 g39 g40 g41 g42 g43 g44 g45 g46 g47 g48 g49 g50 g51 g52 g53 g54 g55 g56 g57 g58 g59 g60 g61 g62 g63 g64 g65 g66 g67 g68 g69 g70 g71 g72 g73 g74 g75 g76 g77 g78 g79 g80 : AV}, h.get i1 = some (.cells [c, .int .i64 f, w] 43) → MapAt h r T → r.nat < h.next.nat → Q (K (.exit 0) ⟨(g0 :: .ptr i1 0 :: g2 :: g3 :: g4 :: g5 :: g6 :: g7 :: .map r :: g9 :: g10 :: g11 :: g12 :: g13 :: g14 :: g15 :: g16 :: g17 :: g18 :: g19 :: g20 :: g21 :: g22 :: g23 :: g24 :: g25 :: g26 :: g27 :: g28 :: g29 :: g30 :: g31 :: g32 :: g33 :: g34 :: g35 :: g36 :: g37 :: g38 :: g39 :: g40 :: g41 :: g42 :: g43 :: g44 :: g45 :: g46 :: g47 :: g48 :: g49 :: g50 :: g51 :: g52 :: g53 :: g54 :: g55 :: g56 :: g57 :: g58 :: g59 :: g60 :: g61 :: g62 :: g63 :: g64 :: g65 :: g66 :: g67 :: g68 :: g69 :: g70 :: g71 :: g72 :: g73 :: g74 :: g75 :: g76 :: g77 :: g78 :: g79 :: g80 :: []), [], h⟩)) :
    ∀ (m i : Nat) {z : Int} {M : Mp} {h : AH} {g0 g2 g3 g5 g6 g7 g9 g10 g11 g12 g13 g14 g15 g16 g17 g18 g19 g20 g21 g22 g23 g24 g25 g26 g27 g28 g29 g30 g31 g32 g36 g37 g38 g39 g40 g41 g42 g43 g44 g45 g46 g47 g48 g49 g50 g51 g52 g53 g54 g55 g56 g57 g58 g59 g60 g61 g62 g63 g64 g65 g66 g67 g68 g69 g70 g71 g72 g73 g74 g75 g76 g77 g78 g79 g80 : AV}, z = i → i ≤ ps.length → ps.length - i < m → h.get i1 = some (.cells [c, .int .i64 f, w] 43) → MapAt h r M → r.nat < h.next.nat → T = fromM N (ps.drop i) M →
    Q (cIter (LB tab28 call rgn n 28 Tryz.f28 0) m ⟨(g0 :: .ptr i1 0 :: g2 :: g3 :: ev :: g5 :: g6 :: g7 :: .map r :: g9 :: g10 :: g11 :: g12 :: g13 :: g14 :: g15 :: g16 :: g17 :: g18 :: g19 :: g20 :: g21 :: g22 :: g23 :: g24 :: g25 :: g26 :: g27 :: g28 :: g29 :: g30 :: g31 :: g32 :: pv :: .int .i64 ps.length :: .int .i64 z :: g36 :: g37 :: g38 :: g39 :: g40 :: g41 :: g42 :: g43 :: g44 :: g45 :: g46 :: g47 :: g48 :: g49 :: g50 :: g51 :: g52 :: g53 :: g54 :: g55 :: g56 :: g57 :: g58 :: g59 :: g60 :: g61 :: g62 :: g63 :: g64 :: g65 :: g66 :: g67 :: g68 :: g69 :: g70 :: g71 :: g72 :: g73 :: g74 :: g75 :: g76 :: g77 :: g78 :: g79 :: g80 :: []), [], h⟩ K) := by
  have u : Tryz.prog.underlying 84 = some (.slice 60) := by kernel_rfl
  have um : Tryz.prog.underlying 87 = some (.map 60 60) := by kernel_rfl
  intro m
  induction m with
  | zero => intros; omega
  | succ m ih =>
    intro i z M h g0 g2 g3 g5 g6 g7 g9 g10 g11 g12 g13 g14 g15 g16 g17 g18 g19 g20 g21 g22 g23 g24 g25 g26 g27 g28 g29 g30 g31 g32 g36 g37 g38 g39 g40 g41 g42 g43 g44 g45 g46 g47 g48 g49 g50 g51 g52 g53 g54 g55 g56 g57 g58 g59 g60 g61 g62 g63 g64 g65 g66 g67 g68 g69 g70 g71 g72 g73 g74 g75 g76 g77 g78 g79 g80 hz hi hm g1 hM lr hT
    rw [cIter_succ]
    conv => arg 1; whnf
    split
    · rename_i hd
      have hlt : i < ps.length := by simp at hd; omega
      have hdrop : ps.drop i = ps[i] :: ps.drop (i + 1) := List.drop_eq_getElem_cons hlt
      have hg : (ps.map portV)[i]? = some (portV ps[i]) := by rw [List.getElem?_map, List.getElem?_eq_getElem hlt]; rfl
      have hge : ((ps.map (valN N)).map portV)[i]? = some (portV (valN N ps[i])) := by rw [List.getElem?_map, List.getElem?_map, List.getElem?_eq_getElem hlt]; rfl
      have hidx := fun h => idx_L (P := Tryz.prog) (t := 84) (e := 60) (n := 2) (h := h) (k := .i64) u (by kernel_rfl) hp hz hg rfl
      have hidxe := fun h => idx_L (P := Tryz.prog) (t := 84) (e := 60) (n := 2) (h := h) (k := .i64) u (by kernel_rfl) he hz hge rfl
      have hz' : IntKind.i64.wrap (z + 1) = ((i + 1 : Nat) : Int) := by rw [hz]; exact wrap_succ (by omega)
      rw [hdrop] at hT
      simp only [fromM] at hT
      generalize ps[i] = p at hidx hidxe hT
      generalize valN N p = vq at hidxe hT
      obtain ⟨Lm, ck, gr, gmv⟩ := hM
      conv => arg 1; whnf
      refine atCall_P (hidx _) ?_
      conv => arg 1; whnf
      refine atCall_P (alloc_new (z := .agg [.int .i64 0, .int .i64 0]) (cs := [.int .i64 0, .int .i64 0]) (by kernel_rfl) rfl rfl) ?_
      generalize hh_h1 : h.alloc (.cells [.int .i64 0, .int .i64 0] 60) = h1 at *
      obtain ⟨a_q, n_q, k_h1⟩ := alloc_facts hh_h1
      replace g1 := k_h1 _ _ g1 (by omega)
      replace gr := k_h1 _ _ gr (by omega)
      clear hh_h1 k_h1
      generalize hi_q : h.next = q at *
      clear hi_q
      obtain ⟨p0, p1⟩ := p
      obtain ⟨v0, v1⟩ := vq
      have st : hOf (aStore Tryz.prog 60 (.ptr q 0) (portV (p0, p1)) h1) = some (.ret undefA, h1.set q (.cells [.int .i64 p0, .int .i64 p1] 60)) := st_ptr (n := 2) a_q (by kernel_rfl) rfl (by simp) rfl
      conv => arg 1; whnf
      refine atCall_P (st) ?_
      clear st
      generalize hh_h2 : h1.set q (.cells [.int .i64 p0, .int .i64 p1] 60) = h2 at *
      obtain ⟨b_q, n_h2, k_h2⟩ := set_facts hh_h2
      replace g1 := k_h2 _ _ g1 (by rintro rfl; omega)
      replace gr := k_h2 _ _ gr (by rintro rfl; omega)
      clear hh_h2 k_h2
      replace n_h2 : h2.next.nat = h1.next.nat := congrArg Id.nat n_h2
      have lq : ∀ h, h.get q = some (.cells [.int .i64 p0, .int .i64 p1] 60) → vOf h (aLoad Tryz.prog 60 (.ptr q 0) h) = some (.ret (portV (p0, p1)), h) := fun h g => ld_agg (n := 2) g (by kernel_rfl) (by kernel_rfl) (by simp)
      obtain ⟨o, hu, hM3⟩ := update_M um ⟨Lm, ck, gr, gmv⟩ (p0, p1) (portV (v0, v1))
      conv => arg 1; whnf
      refine atRgn_N true (fun hh => hh.get q = some (.cells [.int .i64 p0, .int .i64 p1] 60)) (T := [0, 0, 0, 0, 12, 28, 63]) (ord := [0, 1, 2, 3, 4, 5, 6]) (by kernel_rfl) (hrg _ _ _) hN ?_
      conv => arg 1; whnf
      refine atCall_P (lq h2 b_q) ?_
      conv => arg 1; whnf
      refine atCall_P (hidxe h2) ?_
      conv => arg 1; whnf
      refine atCall_P (hu) ?_
      conv => arg 1; whnf
      refine atP_P ⟨?_, (fun k hk hp => match k, hk, hp with
        | 0, _, _ => b_q
        | 1, _, hp => no_pos hp (by kernel_rfl)
        | k + 2, hk, _ => absurd hk (by simp)), (fun a ha => by cases ha), rfl⟩ ?_
      · refine ⟨trivial, fun _ hh g => ⟨hh, lq hh g⟩, trivial, trivial, trivial, fun _ hh g => ⟨hh, rfl⟩, trivial, trivial⟩
      have hrq : r.nat < h2.next.nat := by omega
      generalize hh_h3 : h2.set r (o) = h3 at *
      obtain ⟨b_r, n_h3, k_h3⟩ := set_facts hh_h3
      replace g1 := k_h3 _ _ g1 (by rintro rfl; omega)
      clear hh_h3 k_h3
      replace n_h3 : h3.next.nat = h2.next.nat := congrArg Id.nat n_h3
      conv => arg 1; whnf
      exact ih (i + 1) hz' (by omega) (by omega) g1 hM3 (by omega) hT
    · rename_i hd
      have hlt : ¬ i < ps.length := by simp at hd; omega
      refine hK g1 ?_ lr
      rw [hT, List.drop_eq_nil_of_le (by omega)]; exact hM
end
end Go.Proofs.Nt

/-
  unary.Read: the chain.
-/
namespace Go.Proofs.Nt
open Go.Sk
set_option linter.unusedVariables false
set_option linter.unusedSimpArgs false
set_option maxRecDepth 10000

section
variable {i1 r : Sk.Id} {c w : AV} {f : Int}

theorem lU1 (call rgn n) (nt : Nt) (g : Good sigU nt) (hc : IsL c (nt.cells.map intV)) (hne : i1.nat < r.nat) (hAt : ∀ (a k : Int) h, call (.func 68) [.int .i64 a, .int .i64 k] h = some (.ret (portV (a, k)), h)) {T : Mp} (hT : ∀ p ∈ portsL sigU nt, T p = some (portV (valN (linksOf nt.wires) p)))
    {v e : Int} {K : KC (AOut × AH)} {Q : Option (AOut × AH) → Prop}
    (hR : ∀ {h : AH} {g0 g1 g4 g5 g6 g7 g8 g9 g10 g11 g12 g13 g14 g15 g16 g17 g18 g19 g20 g21 g22 g23 g24 g25 g26 g27 g28 g29 g30 g31 g32 g33 g34 g35 g36 g37 g38 g39 g40 g41 g42 g43 g44 g45 g46 g47 g48 g49 g50 g51 g52 g53 g54 g55 g56 g57 g58 g59 g60 g61 g62 g63 g64 g65 g66 g67 g68 g69 g70 g71 g72 g73 g74 g75 g76 g77 g78 g79 g80 : AV}, Q (K .ret ⟨(g0 :: g1 :: .int .i64 v :: .int .i64 e :: g4 :: g5 :: g6 :: g7 :: g8 :: g9 :: g10 :: g11 :: g12 :: g13 :: g14 :: g15 :: g16 :: g17 :: g18 :: g19 :: g20 :: g21 :: g22 :: g23 :: g24 :: g25 :: g26 :: g27 :: g28 :: g29 :: g30 :: g31 :: g32 :: g33 :: g34 :: g35 :: g36 :: g37 :: g38 :: g39 :: g40 :: g41 :: g42 :: g43 :: g44 :: g45 :: g46 :: g47 :: g48 :: g49 :: g50 :: g51 :: g52 :: g53 :: g54 :: g55 :: g56 :: g57 :: g58 :: g59 :: g60 :: g61 :: g62 :: g63 :: g64 :: g65 :: g66 :: g67 :: g68 :: g69 :: g70 :: g71 :: g72 :: g73 :: g74 :: g75 :: g76 :: g77 :: g78 :: g79 :: g80 :: []), [], h⟩)) :
    ∀ (m m' k : Nat) {z p0 p1 : Int} {i11 : Sk.Id} {h : AH} {g0 g2 g3 g4 g5 g6 g7 g9 g10 g13 g14 g15 g16 g17 g18 g19 g20 g21 g22 g23 g24 g25 g26 g27 g28 g29 g30 g31 g32 g33 g34 g35 g36 g37 g38 g39 g40 g41 g42 g43 g44 g45 g46 g47 g48 g49 g50 g51 g52 g53 g54 g55 g56 g57 g58 g59 g60 g61 g62 g63 g64 g65 g66 g67 g68 g69 g70 g71 g72 g73 g74 g75 g76 g77 g78 g79 g80 : AV}, m ≤ m' → z = k → k + m ≤ 1000000000 → (p0, p1) ∈ portsL sigU nt → h.get i1 = some (.cells [c, .int .i64 f, w] 43) → MapAt h r T → r.nat < h.next.nat → h.get i11 = some (.cells [.int .i64 p0, .int .i64 p1] 60) → r.nat < i11.nat → i11.nat < h.next.nat → readF (linksOf nt.wires) nt.cells m k (p0, p1) = some (v, e) →
    Q (cIter (LB tab28 call rgn n 28 Tryz.f28 1) m' ⟨(g0 :: .ptr i1 0 :: g2 :: g3 :: g4 :: g5 :: g6 :: g7 :: .map r :: g9 :: g10 :: .ptr i11 0 :: .int .i64 z :: g13 :: g14 :: g15 :: g16 :: g17 :: g18 :: g19 :: g20 :: g21 :: g22 :: g23 :: g24 :: g25 :: g26 :: g27 :: g28 :: g29 :: g30 :: g31 :: g32 :: g33 :: g34 :: g35 :: g36 :: g37 :: g38 :: g39 :: g40 :: g41 :: g42 :: g43 :: g44 :: g45 :: g46 :: g47 :: g48 :: g49 :: g50 :: g51 :: g52 :: g53 :: g54 :: g55 :: g56 :: g57 :: g58 :: g59 :: g60 :: g61 :: g62 :: g63 :: g64 :: g65 :: g66 :: g67 :: g68 :: g69 :: g70 :: g71 :: g72 :: g73 :: g74 :: g75 :: g76 :: g77 :: g78 :: g79 :: g80 :: []), [], h⟩ K) := by
  have ui : Tryz.prog.underlying 40 = some (.slice 3) := by kernel_rfl
  have um : Tryz.prog.underlying 87 = some (.map 60 60) := by kernel_rfl
  have hlc := fun h => len_L (X := ⟨Tryz.prog, mu0, call⟩) (mu := false) (h := h) ui hc
  rw [List.length_map] at hlc
  have hcl := g.cl
  intro m
  induction m with
  | zero => intros; rename_i hg; simp [readF] at hg
  | succ m ih =>
    intro m' k z p0 p1 i11 h g0 g2 g3 g4 g5 g6 g7 g9 g10 g13 g14 g15 g16 g17 g18 g19 g20 g21 g22 g23 g24 g25 g26 g27 g28 g29 g30 g31 g32 g33 g34 g35 g36 g37 g38 g39 g40 g41 g42 g43 g44 g45 g46 g47 g48 g49 g50 g51 g52 g53 g54 g55 g56 g57 g58 g59 g60 g61 g62 g63 g64 g65 g66 g67 g68 g69 g70 g71 g72 g73 g74 g75 g76 g77 g78 g79 g80 hm hz hkm hp g1 hM lr g11 l11 l11' hG
    obtain ⟨m', rfl⟩ : ∃ q, m' = q + 1 := ⟨m' - 1, by omega⟩
    rw [cIter_succ]
    simp only [readF] at hG
    obtain ⟨i1', i2', i3', i4'⟩ := g.inv.val hp
    have lk := lookup_M (h := h) um (z := portV (0, 0)) (by kernel_rfl) hM (p0, p1)
    rw [hT _ hp, Option.getD_some] at lk
    generalize valN (linksOf nt.wires) (p0, p1) = q at lk hG i1' i3'
    have hpc := fun h0 => port_cell i1' h0
    obtain ⟨q0, q1⟩ := q
    simp only at hG hpc
    obtain ⟨Lm, ck, gr, gmv⟩ := hM
    have l0 : vOf h (aLoad Tryz.prog 60 (.ptr i11 0) h) = some (.ret (portV (p0, p1)), h) := ld_agg (n := 2) g11 (by kernel_rfl) (by kernel_rfl) (by simp)
    conv => arg 1; whnf
    refine atCall_P (l0) ?_
    conv => arg 1; whnf
    refine atCall_P (lk) ?_
    conv => arg 1; whnf
    refine atCall_P (alloc_new (z := .agg [.int .i64 0, .int .i64 0]) (cs := [.int .i64 0, .int .i64 0]) (by kernel_rfl) rfl rfl) ?_
    generalize hh_h1 : h.alloc (.cells [.int .i64 0, .int .i64 0] 60) = h1 at *
    obtain ⟨a_i13, n_i13, k_h1⟩ := alloc_facts hh_h1
    replace g1 := k_h1 _ _ g1 (by omega)
    replace gr := k_h1 _ _ gr (by omega)
    replace g11 := k_h1 _ _ g11 (by omega)
    clear hh_h1 k_h1
    generalize hi_i13 : h.next = i13 at *
    clear hi_i13
    have st : hOf (aStore Tryz.prog 60 (.ptr i13 0) (portV (q0, q1)) h1) = some (.ret undefA, h1.set i13 (.cells [.int .i64 q0, .int .i64 q1] 60)) := st_ptr (n := 2) a_i13 (by kernel_rfl) rfl (by simp) rfl
    conv => arg 1; whnf
    refine atCall_P (st) ?_
    clear st
    generalize hh_h2 : h1.set i13 (.cells [.int .i64 q0, .int .i64 q1] 60) = h2 at *
    obtain ⟨b_i13, n_h2, k_h2⟩ := set_facts hh_h2
    replace g1 := k_h2 _ _ g1 (by rintro rfl; omega)
    replace gr := k_h2 _ _ gr (by rintro rfl; omega)
    replace g11 := k_h2 _ _ g11 (by rintro rfl; omega)
    clear hh_h2 k_h2
    replace n_h2 : h2.next.nat = h1.next.nat := congrArg Id.nat n_h2
    have d0 : vOf h2 (aLoad Tryz.prog 3 (.ptr i13 0) h2) = some (.ret (.int .i64 q0), h2) := ld_ptr (n := 1) b_i13 (by kernel_rfl) (by kernel_rfl) rfl
    have d1 : vOf h2 (aLoad Tryz.prog 3 (.ptr i13 1) h2) = some (.ret (.int .i64 q1), h2) := ld_ptr (n := 1) b_i13 (by kernel_rfl) (by kernel_rfl) rfl
    have lc : vOf h2 (aLoad Tryz.prog 40 (.ptr i1 0) h2) = some (.ret c, h2) := ld_ptr (n := 1) g1 (by kernel_rfl) (by kernel_rfl) rfl
    conv => arg 1; whnf
    refine atCall_P (d0) ?_
    conv => arg 1; whnf
    cases e1 : decide (q0 < 0)
    rotate_left
    · rw [if_pos (.inl (by simpa using e1))] at hG
      simp only [Option.some.injEq, Prod.mk.injEq] at hG
      obtain ⟨rfl, rfl⟩ := hG
      conv => arg 1; whnf
      exact hR
    conv => arg 1; whnf
    refine atCall_P (d1) ?_
    conv => arg 1; whnf
    cases e2 : (q1 != 0)
    rotate_left
    · rw [if_pos (.inr (by simpa using e2))] at hG
      simp only [Option.some.injEq, Prod.mk.injEq] at hG
      obtain ⟨rfl, rfl⟩ := hG
      conv => arg 1; whnf
      exact hR
    have c0 : 0 ≤ q0 := by simpa using e1
    obtain ⟨cm, cn⟩ := hpc c0
    rw [if_neg (by simp at e1 e2 ⊢; omega)] at hG
    obtain ⟨y, y1, y2⟩ := idx_ints (h := h2) (a := q0) hc c0 (by omega)
    have hyg : nt.cells.getD q0.toNat 0 = y := getD_some y1
    rw [hyg] at hG
    conv => arg 1; whnf
    refine atCall_P (lc) ?_
    conv => arg 1; whnf
    refine atCall_P (d0) ?_
    conv => arg 1; whnf
    refine atCall_P (y2) ?_
    conv => arg 1; whnf
    cases e3 : (y == 0)
    · have y0 : ¬ y = 0 := by simpa using e3
      rw [if_neg y0] at hG
      conv => arg 1; whnf
      cases e4 : (y == 1)
      · rw [if_pos (by simpa using e4)] at hG
        simp only [Option.some.injEq, Prod.mk.injEq] at hG
        obtain ⟨rfl, rfl⟩ := hG
        conv => arg 1; whnf
        exact hR
      · have y1' : y = 1 := by simpa using e4
        rw [if_neg (by simpa using y1')] at hG
        have hc1 := cell_port (s := sigU) (k := 1) (y1.trans (by rw [y1'])) (by omega) (by rw [portsU1]; omega)
        rw [cn] at hc1
        conv => arg 1; whnf
        refine atCall_P (d0) ?_
        conv => arg 1; whnf
        refine atCall_P (hAt q0 1 h2) ?_
        have st : hOf (aStore Tryz.prog 60 (.ptr i11 0) (portV (q0, 1)) h2) = some (.ret undefA, h2.set i11 (.cells [.int .i64 q0, .int .i64 1] 60)) := st_ptr (n := 2) g11 (by kernel_rfl) rfl (by simp) rfl
        conv => arg 1; whnf
        refine atCall_P (st) ?_
        clear st lc d0 d1 y2 l0
        generalize hh_h3 : h2.set i11 (.cells [.int .i64 q0, .int .i64 1] 60) = h3 at *
        obtain ⟨b_i11, n_h3, k_h3⟩ := set_facts hh_h3
        replace g1 := k_h3 _ _ g1 (by rintro rfl; omega)
        replace gr := k_h3 _ _ gr (by rintro rfl; omega)
        clear hh_h3 k_h3
        replace n_h3 : h3.next.nat = h2.next.nat := congrArg Id.nat n_h3
        conv => arg 1; whnf
        exact ih m' (k + 1) (by omega) (by rw [hz]; exact wrap_succ (by omega)) (by omega) hc1 g1 ⟨Lm, ck, gr, gmv⟩ (by omega) b_i11 l11 (by omega) hG
    · have y0 : y = 0 := by simpa using e3
      rw [if_pos y0] at hG
      have hw : IntKind.i64.wrap (z + 1) = (k : Int) + 1 := by rw [hz, wrap_small (by omega) (by omega)]
      conv => arg 1; whnf
      conv => arg 1; whnf
      refine atCall_P (lc) ?_
      conv => arg 1; whnf
      refine atCall_P (hlc _) ?_
      conv => arg 1; whnf
      cases e5 : (IntKind.i64.wrap (z + 1) != (nt.cells.length : Int))
      · rw [hw] at e5
        rw [if_neg (by simpa using e5)] at hG
        simp only [Option.some.injEq, Prod.mk.injEq] at hG
        obtain ⟨rfl, rfl⟩ := hG
        rw [hz]
        conv => arg 1; whnf
        exact hR
      · rw [hw] at e5
        rw [if_pos (by simpa using e5)] at hG
        simp only [Option.some.injEq, Prod.mk.injEq] at hG
        obtain ⟨rfl, rfl⟩ := hG
        conv => arg 1; whnf
        exact hR
end
end Go.Proofs.Nt

/-
  unary.Read runs; its contract.
-/
namespace Go.Proofs.Nt
open Go.Sk
set_option linter.unusedVariables false
set_option linter.unusedSimpArgs false
set_option maxRecDepth 10000

theorem isL_cases {x : AV} {xs : List AV} (h : IsL x xs) : x = .nilsl ∨ ∃ ys cc, x = .vsl ys cc := by
  rcases h with ⟨h, _⟩ | ⟨cc, h⟩
  · exact .inl h
  · exact .inr ⟨_, cc, h⟩

theorem bUR (call rgn n) (x v : AV) (nt : Nt) (hx : IsSig x sigU) (hv : IsNet v nt) (hS : ∀ h, call (.func 65) [] h = some (.ret x, h)) (hEn : hEn call) (hPo : hPo call) (hFr : ∀ (k : Int) h, call (.func 67) [.int .i64 k] h = some (.ret (portV (-1, k)), h)) (hAt : ∀ (a k : Int) h, call (.func 68) [.int .i64 a, .int .i64 k] h = some (.ret (portV (a, k)), h)) (hwl : nt.wires.length ≤ 1000000) (hn : 1000000 < n)
    (hrg : ∀ id ops st, rgn id ops st = drawn ⟨Tryz.prog, mu0, call⟩ 28 ops st) (h : AH) :
    ∃ h', B tab28 call rgn n 28 Tryz.f28 [v] h = some (.ret (readV nt), h') := by
  suffices hq : ∀ Q : Option (AOut × AH) → Prop, ¬ Q none → (∀ v0 e0 h', readN nt = (v0, e0) → Q (some (.ret (.tup [.int .i64 v0, .int .i64 e0]), h'))) → Q (B tab28 call rgn n 28 Tryz.f28 [v] h) from
    hq (fun y => ∃ h', y = some (.ret (readV nt), h')) (by rintro ⟨_, h⟩; cases h) (fun v0 e0 h' he => ⟨h', by unfold readV; rw [he]⟩)
  intro Q hN hQ
  have hv0 := hv
  obtain ⟨c, w, rfl, hc, hw⟩ := hv
  have hcs := isL_scalar hc
  have hws := isL_scalar hw
  have u : Tryz.prog.underlying 84 = some (.slice 60) := by kernel_rfl
  conv => arg 1; whnf
  refine atCall_P (box_new (cs := [c, .int .i64 nt.free, w]) rfl (by simp only [List.all_cons, hcs, hws, List.all_nil]; rfl)) ?_
  generalize hh_h1 : h.alloc (.cells [c, .int .i64 nt.free, w] 43) = h1 at *
  obtain ⟨a_i1, n_i1, k_h1⟩ := alloc_facts hh_h1
  clear hh_h1 k_h1
  generalize hi_i1 : h.next = i1 at *
  clear hi_i1
  have ln : ∀ h, h.get i1 = some (.cells [c, .int .i64 nt.free, w] 43) → vOf h (aLoad Tryz.prog 43 (.ptr i1 0) h) = some (.ret (.agg [c, .int .i64 nt.free, w]), h) := fun h g => ld_agg (n := 3) g (by kernel_rfl) (by kernel_rfl) (by simp)
  have lf : vOf h1 (aLoad Tryz.prog 3 (.ptr i1 1) h1) = some (.ret (.int .i64 nt.free), h1) := ld_ptr (n := 1) a_i1 (by kernel_rfl) (by kernel_rfl) rfl
  have pE := hEn x (.agg [c, .int .i64 nt.free, w]) sigU nt h1 hx hv0 hwl
  have pP := hPo x (.agg [c, .int .i64 nt.free, w]) sigU nt h1 hx hv0 hwl
  unfold endsV at pE
  unfold portsV at pP
  conv => arg 1; whnf
  refine atCall_P (ln h1 a_i1) ?_
  conv => arg 1; whnf
  refine atQuiet_P (hS h1) ?_
  conv => arg 1; whnf
  by_cases h0 : (netChk sigU nt).1 = 0
  rotate_left
  · rw [if_neg h0] at pE
    have hr : readN nt = (0, (netChk sigU nt).1) := by unfold readN; rw [if_pos h0]
    generalize (netChk sigU nt).1 = e at *
    refine atQuiet_P pE ?_
    conv => arg 1; whnf
    cases e1 : (e != 0)
    · exact absurd (by simpa using e1) h0
    conv => arg 1; whnf
    exact atLeave_P (leave_plain (.inl rfl) rfl) (hQ _ _ _ hr)
  rw [if_pos h0] at pE pP
  have g := good_of h0
  have ise := listW_isL (enc := portV) (endsL sigU nt)
  have isp := listW_isL (enc := portV) (portsL sigU nt)
  generalize listW portV (endsL sigU nt) = ev at pE ise
  generalize listW portV (portsL sigU nt) = pv at pP isp
  have hev := isL_cases ise
  have hpv := isL_cases isp
  have hlp := fun h => len_L (X := ⟨Tryz.prog, mu0, call⟩) (mu := false) (h := h) u isp
  rw [List.length_map] at hlp
  have hpb := ports_len' (sigChk_ports g.sg) g.f1 g.cl
  refine atQuiet_P pE ?_
  rcases hev with hev | ⟨ys, cc, hev⟩
  all_goals
    subst hev
    conv => arg 1; whnf
    refine atCall_P lf ?_
    conv => arg 1; whnf
    cases e2 : (nt.free != 1)
    rotate_left
    · have f1 : nt.free ≠ 1 := by simpa using e2
      conv => arg 1; whnf
      exact atLeave_P (leave_plain (.inl rfl) rfl) (hQ _ _ _ (by unfold readN; rw [if_neg (by simpa using h0), if_pos f1]))
    have f1 : nt.free = 1 := by simpa using e2
    obtain ⟨⟨v0, e0⟩, hy⟩ := readF_ex g f1
    have hr : readN nt = (v0, e0) := by unfold readN; rw [if_neg (by simpa using h0), if_neg (by simpa using f1), hy]; rfl
    conv => arg 1; whnf
    refine atCall_P (ln h1 a_i1) ?_
    conv => arg 1; whnf
    refine atQuiet_P (hS h1) ?_
    conv => arg 1; whnf
    refine atQuiet_P pP ?_
    rcases hpv with hpv | ⟨ys', cc', hpv⟩
    all_goals
      subst hpv
      conv => arg 1; whnf
      generalize hh_h2 : h1.alloc (.map [] 0) = h2 at *
      obtain ⟨a_r, n_r, k_h2⟩ := alloc_facts hh_h2
      replace a_i1 := k_h2 _ _ a_i1 (by omega)
      clear hh_h2 k_h2
      generalize hi_r : h1.next = r at *
      clear hi_r
      conv => arg 1; whnf
      refine atCall_P (hlp h2) ?_
      conv => arg 1; whnf
      refine lU0 (c := c) (w := w) (f := nt.free) call rgn n (portsL sigU nt) (linksOf nt.wires) ise isp (by omega) (by omega) hrg (T := fromM (linksOf nt.wires) (portsL sigU nt) fun _ => none) hN ?_ n 0 (z := 0) (M := fun _ => none) rfl (Nat.zero_le _) (by omega) a_i1 ⟨[], 0, a_r, fun p => rfl⟩ (by omega) (by rw [List.drop_zero])
      intro h3 g0 g2 g3 g4 g5 g6 g7 g9 g10 g11 g12 g13 g14 g15 g16 g17 g18 g19 g20 g21 g22 g23 g24 g25 g26 g27 g28 g29 g30 g31 g32 g33 g34 g35 g36 g37 g38 g39 g40 g41 g42 g43 g44 g45 g46 g47 g48 g49 g50 g51 g52 g53 g54 g55 g56 g57 g58 g59 g60 g61 g62 g63 g64 g65 g66 g67 g68 g69 g70 g71 g72 g73 g74 g75 g76 g77 g78 g79 g80 g1 hM lr
      obtain ⟨Lm, ck, gr, gmv⟩ := hM
      conv => arg 1; whnf
      refine atCall_P (hFr 0 h3) ?_
      conv => arg 1; whnf
      refine atCall_P (alloc_new (z := .agg [.int .i64 0, .int .i64 0]) (cs := [.int .i64 0, .int .i64 0]) (by kernel_rfl) rfl rfl) ?_
      generalize hh_h4 : h3.alloc (.cells [.int .i64 0, .int .i64 0] 60) = h4 at *
      obtain ⟨a_i11, n_i11, k_h4⟩ := alloc_facts hh_h4
      replace g1 := k_h4 _ _ g1 (by omega)
      replace gr := k_h4 _ _ gr (by omega)
      clear hh_h4 k_h4
      generalize hi_i11 : h3.next = i11 at *
      clear hi_i11
      have st : hOf (aStore Tryz.prog 60 (.ptr i11 0) (portV (-1, 0)) h4) = some (.ret undefA, h4.set i11 (.cells [.int .i64 (-1), .int .i64 0] 60)) := st_ptr (n := 2) a_i11 (by kernel_rfl) rfl (by simp) rfl
      conv => arg 1; whnf
      refine atCall_P (st) ?_
      clear st
      generalize hh_h5 : h4.set i11 (.cells [.int .i64 (-1), .int .i64 0] 60) = h5 at *
      obtain ⟨b_i11, n_h5, k_h5⟩ := set_facts hh_h5
      replace g1 := k_h5 _ _ g1 (by rintro rfl; omega)
      replace gr := k_h5 _ _ gr (by rintro rfl; omega)
      clear hh_h5 k_h5
      replace n_h5 : h5.next.nat = h4.next.nat := congrArg Id.nat n_h5
      conv => arg 1; whnf
      refine lU1 call rgn n nt g hc (by omega) hAt (fun p hp => fromM_mem _ _ _ p hp) (v := v0) (e := e0) ?_ (nt.cells.length + 1) n 0 (z := 0) (by have := g.cl; omega) rfl (by have := g.cl; omega) (by unfold portsL; rw [List.mem_append]; exact .inl (mem_free.2 ⟨rfl, by simp, by simp [f1]⟩)) g1 ⟨Lm, ck, gr, gmv⟩ (by omega) b_i11 (by omega) (by omega) hy
      intro h6
      intros
      conv => arg 1; whnf
      exact atLeave_P (leave_plain (.inl rfl) rfl) (hQ _ _ _ hr)
end Go.Proofs.Nt

/-
  The contract of unary.Read; the law's body.
-/
namespace Go.Proofs.Nt
open Go.Sk
set_option linter.unusedVariables false
set_option linter.unusedSimpArgs false
set_option maxRecDepth 10000

def hkUR := addHk hkAt 28 sRG
theorem EUR : EvOK (mkEv Tryz.prog mu0 hkUR) := mkEv_add EAt fun args v hs => by
  unfold sRG at hs; split at hs
  · rename_i v'
    split at hs
    · rename_i n h1
      split at hs
      · rename_i hl
        cases hs
        obtain ⟨N, hN⟩ : ∃ N, N = n.wires.length + 1100000 := ⟨_, rfl⟩
        obtain ⟨h', hb⟩ := bUR (evCall (mkEv Tryz.prog mu0 hkAt) N) (rg Tryz.prog mu0 hkAt N 28) N sigUV v' n isSig_U (netOf_inv h1) (hSU_of (fun _ _ => rfl) (by omega)) (hEn_of (fun _ _ => rfl) (by omega)) (hPo_of (fun _ _ => rfl) (by omega)) (hFr_of (fun _ _ => rfl) (by omega)) (hAt_of (fun _ _ => rfl) (by omega)) hl (by omega) (fun _ _ _ => rfl) .empty
        exact ⟨rfl, ev_ofS tab28 rfl Tryz.func28 rfl fits28 hb⟩
      · cases hs
    · cases hs
  · cases hs
def hUR (call : CallT) : Prop := ∀ v n h, IsNet v n → n.wires.length ≤ 1000000 → call (.func 28) [v] h = some (.ret (readV n), h)
theorem hUR_of {hk : Hooks} {n : Nat} (hk' : ∀ args h, hk 28 args h = hkUR 28 args h) (hn : 0 < n) : hUR (evCall (mkEv Tryz.prog mu0 hk) n) := fun v nt h hv hl => ev_hk (by
  rw [hk']
  refine hk_top (by simp [freeL, net_free hv]) ?_
  show (match netOf (weakV v) with | some n => if n.wires.length ≤ 1000000 then some (readV n) else none | none => none) = _
  rw [netOf_of hv]; simp only [if_pos hl]) hn

theorem bLU (call rgn n) (v : AV) (nt : Nt) (hv : IsNet v nt) (hCN : hCN call) (hUR : hUR call) (hRG : hRG call) (hW : ∀ h, call (.func 27) [] h = some (.ret (.bool true), h)) (h : AH) :
    ∃ h', B shT call rgn n 5 Tryz.f5 [v] h = some (.ret (.bool true), h') := by
  suffices hq : ∀ Q : Option (AOut × AH) → Prop, (∀ h', Q (some (.ret (.bool true), h'))) → Q (B shT call rgn n 5 Tryz.f5 [v] h) from hq (fun y => ∃ h', y = some (.ret (.bool true), h')) (fun h' => ⟨h', rfl⟩)
  intro Q hQ
  have hv0 := hv
  obtain ⟨c, w, rfl, hc, hw⟩ := hv
  have hcs := isL_scalar hc
  have hws := isL_scalar hw
  have ui : Tryz.prog.underlying 40 = some (.slice 3) := by kernel_rfl
  have uw : Tryz.prog.underlying 41 = some (.slice 62) := by kernel_rfl
  have hlc := fun h => len_L (X := ⟨Tryz.prog, mu0, call⟩) (mu := false) (h := h) ui hc
  have hlw := fun h => len_L (X := ⟨Tryz.prog, mu0, call⟩) (mu := false) (h := h) uw hw
  rw [List.length_map] at hlc hlw
  conv => arg 1; whnf
  refine atCall_P (box_new (cs := [c, .int .i64 nt.free, w]) rfl (by simp only [List.all_cons, hcs, hws, List.all_nil]; rfl)) ?_
  generalize hh_h1 : h.alloc (.cells [c, .int .i64 nt.free, w] 43) = h1 at *
  obtain ⟨a_i1, n_i1, k_h1⟩ := alloc_facts hh_h1
  clear hh_h1 k_h1
  generalize hi_i1 : h.next = i1 at *
  clear hi_i1
  have ln : vOf h1 (aLoad Tryz.prog 43 (.ptr i1 0) h1) = some (.ret (.agg [c, .int .i64 nt.free, w]), h1) := ld_agg (n := 3) a_i1 (by kernel_rfl) (by kernel_rfl) (by simp)
  have lc : vOf h1 (aLoad Tryz.prog 40 (.ptr i1 0) h1) = some (.ret c, h1) := ld_ptr (n := 1) a_i1 (by kernel_rfl) (by kernel_rfl) rfl
  have lw : vOf h1 (aLoad Tryz.prog 41 (.ptr i1 2) h1) = some (.ret w, h1) := ld_ptr (n := 1) a_i1 (by kernel_rfl) (by kernel_rfl) rfl
  conv => arg 1; whnf
  refine atCall_P (lc) ?_
  conv => arg 1; whnf
  refine atCall_P (hlc _) ?_
  conv => arg 1; whnf
  cases e1 : decide ((nt.cells.length : Int) > 8192)
  rotate_left
  · conv => arg 1; whnf
    refine atCall_P (hW h1) ?_
    conv => arg 1; whnf
    exact atLeave_P (leave_plain (.inl rfl) rfl) (hQ _)
  conv => arg 1; whnf
  refine atCall_P (lw) ?_
  conv => arg 1; whnf
  refine atCall_P (hlw _) ?_
  conv => arg 1; whnf
  cases e2 : decide ((nt.wires.length : Int) > 32768)
  rotate_left
  · conv => arg 1; whnf
    refine atCall_P (hW h1) ?_
    conv => arg 1; whnf
    exact atLeave_P (leave_plain (.inl rfl) rfl) (hQ _)
  have c1 : nt.cells.length ≤ 8192 := by simp at e1; omega
  have w1 : nt.wires.length ≤ 32768 := by simp at e2; omega
  have pU := hUR (netC nt) nt h1 (isNet_C nt) (by omega)
  have pR := hRG (.agg [c, .int .i64 nt.free, w]) nt h1 hv0 (by omega)
  unfold readV at pU pR
  generalize (readN nt).1 = v0 at pU pR
  generalize (readN nt).2 = e0 at pU pR
  conv => arg 1; whnf
  refine atCall_P (ln) ?_
  conv => arg 1; whnf
  refine atCall_P (hCN _ nt h1 hv0 (by omega) (by omega)) ?_
  conv => arg 1; whnf
  refine atCall_P (pU) ?_
  conv => arg 1; whnf
  refine atCall_P (ln) ?_
  conv => arg 1; whnf
  refine atCall_P (pR) ?_
  conv => arg 1; whnf
  cases e3 : (v0 == v0)
  · simp at e3
  conv => arg 1; whnf
  cases e4 : (e0 == e0)
  · simp at e4
  conv => arg 1; whnf
  conv => arg 1; whnf
  refine atCall_P (hW h1) ?_
  conv => arg 1; whnf
  exact atLeave_P (leave_plain (.inl rfl) rfl) (hQ _)
end Go.Proofs.Nt

/-
  Arguments as the row reads them: a signature, a net.
-/
namespace Go.Proofs.Nt
open Go.Sk Go.ChangeShapes Go.WideShapes
set_option linter.unusedVariables false
set_option linter.unusedSimpArgs false
set_option maxRecDepth 10000

section
variable {H : Type} {enc : TypeId × Value → H} {w : World} {base : Nat} {sp : Nat → Bool} {held : Bool}

theorem addr_add (b off i : Nat) : (Addr.mk b off none).add i = ⟨b, off + i, none⟩ := by
  unfold Addr.add; split
  · rename_i h0; subst h0; rfl
  · rfl

theorem open_listA {α : Type} [Inhabited α] {encA : α → AV} {sz : Nat} {t e : TypeId} {v : Value} {fuel : Nat} {x : DataW H × List MemPlace} (ht : Tryz.prog.underlying t = some (.slice e)) (hc : Tryz.prog.cellsOf e = sz) (hsz : ∀ a, (encA a).cells.length = sz)
    (hE : ∀ n cs x, DataW.trod enc Tryz.prog w base sp held n e cs = some x → ∃ a : α, LRel (rho0 w) (encA a).cells cs ∧ ∀ c ∈ cs, c.oneCell' = true)
    (hs : ∀ (a : Addr) l c, v = .slice (some a) l c → a.spot = none) (h : DataW.trod enc Tryz.prog w base sp held fuel t [v] = some x) :
    ∃ (u : AV) (l : List α), VRel (rho0 w) u v ∧ IsL u (l.map encA) := by
  rcases Deep.open_slice ht h with ⟨h1, _⟩ | ⟨a, len, cap, m, n, D, Pl, h1, hb, hl, hm, hmm, hx, hel⟩
  · simp only [List.cons.injEq, and_true] at h1
    subst h1
    exact ⟨.nilsl, [], .nilsl, .inl ⟨rfl, rfl⟩⟩
  · simp only [List.cons.injEq, and_true] at h1
    have hspot := hs a len cap h1
    subst h1
    obtain ⟨b, off, spot⟩ := a
    simp only at hspot; subst hspot
    have hlm : len ≤ m := by rw [hmm]; split <;> omega
    obtain ⟨f, hf⟩ := Deep.choose_lt (α := α × List Value) (n := len) (p := fun i y => w.cells? base ((Addr.mk b off none).add (i * Tryz.prog.cellsOf e)) (Tryz.prog.cellsOf e) = some y.2 ∧ LRel (rho0 w) (encA y.1).cells y.2 ∧ ∀ c ∈ y.2, c.oneCell' = true) (fun i hi => by
      obtain ⟨cs', q1, q2⟩ := hel i (by omega)
      obtain ⟨a, q3, q4⟩ := hE _ _ _ q2
      exact ⟨(a, cs'), q1, q3, q4⟩)
    have hlen : ((List.range len).map fun i => encA (f i).1).length = len := by simp
    have key : VRel (rho0 w) (.vsl ((List.range len).map fun i => encA (f i).1) .unk) (.slice (some ⟨b, off, none⟩) ((List.range len).map fun i => encA (f i).1).length cap) := by
      refine .vsl _ .unk b off cap sz (fun i j => (f i).2.getD j default) (fun i hi => by simp [hsz]) (fun i j hi hj => ?_) (fun i hi j hj => ?_) (by rw [hlen]; exact hl) trivial
      · rw [hlen] at hi
        obtain ⟨p1, p2, p3⟩ := hf i hi
        obtain ⟨_, r1, r2⟩ := World.cells?_some p1
        have := r2 j (by rw [hc]; exact hj)
        rw [hc, addr_add, addr_add] at this
        rw [rho0_imm, this]
        have hjl : j < (f i).2.length := by rw [r1, hc]; exact hj
        rw [List.getElem?_eq_getElem hjl]
        have hd : (f i).2.getD j default = (f i).2[j] := by rw [List.getD_eq_getElem?_getD, List.getElem?_eq_getElem hjl]; rfl
        rw [hd]
        exact ⟨rfl, p3 _ (List.getElem_mem _)⟩
      · rw [hlen] at hi
        obtain ⟨p1, p2, p3⟩ := hf i hi
        have hxi : ((List.range len).map fun i => encA (f i).1)[i] = encA (f i).1 := by simp
        have hj' : j < (encA (f i).1).cells.length := by rw [hxi] at hj; exact hj
        have hjl : j < (f i).2.length := by rw [p2.1]; exact hj'
        have hd : (f i).2.getD j default = (f i).2[j] := by rw [List.getD_eq_getElem?_getD, List.getElem?_eq_getElem hjl]; rfl
        have := p2.2 j hj' hjl
        rw [hd]
        simp only [hxi]
        exact this
    rw [hlen] at key
    exact ⟨_, (List.range len).map fun i => (f i).1, key, .inr ⟨.unk, by rw [List.map_map]; rfl⟩⟩

theorem t3 {n : Nat} {cs : List Value} {x : DataW H × List MemPlace} (h : DataW.trod enc Tryz.prog w base sp held n 3 cs = some x) : ∃ a, cs = [.int .i64 a] := by
  obtain ⟨a, h1, _⟩ := DataW.trod_int (k := .i64) (by kernel_rfl) h
  exact ⟨a, h1⟩

theorem t43 {n : Nat} {cs : List Value} {x : DataW H × List MemPlace} (h : DataW.trod enc Tryz.prog w base sp held n 58 cs = some x) : ∃ a : Ag, LRel (rho0 w) (agV a).cells cs ∧ ∀ c ∈ cs, c.oneCell' = true := by
  have hs : Tryz.prog.underlying 58 = some (.struct #[⟨ "Name", 9, 0, false, "", "", 0⟩, ⟨ "Arity", 3, 1, false, "", "", 16⟩]) := by kernel_rfl
  obtain ⟨xs, m, _, _, hl, hlen, hf⟩ := DataW.trod_struct hs h
  have hc : Tryz.prog.cellsOf 58 = 2 := by kernel_rfl
  have c9 : Tryz.prog.cellsOf 9 = 1 := by kernel_rfl
  have c3 : Tryz.prog.cellsOf 3 = 1 := by kernel_rfl
  rw [hc] at hl
  match cs, hl with
  | [c0, c1], _ =>
    match xs, hlen with
    | [y0, y1], _ =>
      have f0 := hf 0 ⟨ "Name", 9, 0, false, "", "", 0⟩ rfl
      have f1 := hf 1 ⟨ "Arity", 3, 1, false, "", "", 16⟩ rfl
      simp only [c9, c3, List.drop_zero, List.take_succ_cons, List.take_zero, List.drop_succ_cons, List.getElem?_cons_zero, List.getElem?_cons_succ] at f0 f1
      obtain ⟨s, e0, _⟩ := DataW.trod_string (by kernel_rfl) f0
      obtain ⟨a, e1⟩ := t3 f1
      simp only [List.cons.injEq, and_true] at e0 e1
      subst e0; subst e1
      refine ⟨(s.data.toList, a), ?_, fun c hc => ?_⟩
      · have hv : VRel (rho0 w) (.str s.data.toList) (.string s) := .str s.data.toList
        exact LRel.cons hv (LRel.cons (.int _ _) (LRel.nil _))
      · simp only [List.mem_cons, List.not_mem_nil, or_false] at hc
        rcases hc with rfl | rfl <;> rfl

theorem t45 {n : Nat} {cs : List Value} {x : DataW H × List MemPlace} (h : DataW.trod enc Tryz.prog w base sp held n 60 cs = some x) : ∃ a b, cs = [.int .i64 a, .int .i64 b] := by
  have hs : Tryz.prog.underlying 60 = some (.struct #[⟨ "Cell", 3, 0, false, "", "", 0⟩, ⟨ "Slot", 3, 1, false, "", "", 8⟩]) := by kernel_rfl
  obtain ⟨xs, m, _, _, hl, hlen, hf⟩ := DataW.trod_struct hs h
  have hc : Tryz.prog.cellsOf 60 = 2 := by kernel_rfl
  have c3 : Tryz.prog.cellsOf 3 = 1 := by kernel_rfl
  rw [hc] at hl
  match cs, hl with
  | [c0, c1], _ =>
    match xs, hlen with
    | [y0, y1], _ =>
      have f0 := hf 0 ⟨ "Cell", 3, 0, false, "", "", 0⟩ rfl
      have f1 := hf 1 ⟨ "Slot", 3, 1, false, "", "", 8⟩ rfl
      simp only [c3, List.drop_zero, List.take_succ_cons, List.take_zero, List.drop_succ_cons, List.getElem?_cons_zero, List.getElem?_cons_succ] at f0 f1
      obtain ⟨a, e0⟩ := t3 f0
      obtain ⟨b, e1⟩ := t3 f1
      simp only [List.cons.injEq, and_true] at e0 e1
      exact ⟨a, b, by rw [e0, e1]⟩

theorem t47 {n : Nat} {cs : List Value} {x : DataW H × List MemPlace} (h : DataW.trod enc Tryz.prog w base sp held n 62 cs = some x) : ∃ a : Wr, LRel (rho0 w) (wireV a).cells cs ∧ ∀ c ∈ cs, c.oneCell' = true := by
  have hs : Tryz.prog.underlying 62 = some (.struct #[⟨ "A", 60, 0, false, "", "", 0⟩, ⟨ "B", 60, 2, false, "", "", 16⟩]) := by kernel_rfl
  obtain ⟨xs, m, _, _, hl, hlen, hf⟩ := DataW.trod_struct hs h
  have hc : Tryz.prog.cellsOf 62 = 4 := by kernel_rfl
  have c45 : Tryz.prog.cellsOf 60 = 2 := by kernel_rfl
  rw [hc] at hl
  match cs, hl with
  | [c0, c1, c2, c3], _ =>
    match xs, hlen with
    | [y0, y1], _ =>
      have f0 := hf 0 ⟨ "A", 60, 0, false, "", "", 0⟩ rfl
      have f1 := hf 1 ⟨ "B", 60, 2, false, "", "", 16⟩ rfl
      simp only [c45, List.drop_zero, List.take_succ_cons, List.take_zero, List.drop_succ_cons, List.getElem?_cons_zero, List.getElem?_cons_succ] at f0 f1
      obtain ⟨a, b, e0⟩ := t45 f0
      obtain ⟨c, d, e1⟩ := t45 f1
      simp only [List.cons.injEq, and_true] at e0 e1
      obtain ⟨rfl, rfl⟩ := e0
      obtain ⟨rfl, rfl⟩ := e1
      refine ⟨(a, b, c, d), LRel.cons (.int _ _) (LRel.cons (.int _ _) (LRel.cons (.int _ _) (LRel.cons (.int _ _) (LRel.nil _)))), fun c hc => ?_⟩
      simp only [List.mem_cons, List.not_mem_nil, or_false] at hc
      rcases hc with rfl | rfl | rfl | rfl <;> rfl

theorem spot_of {r : Reach} {b0 : Nat} {t e : TypeId} {v : Value} (ht : Tryz.prog.underlying t = some (.slice e)) (h : Cell.okWide Tryz.prog w r b0 t v) : ∀ (a : Addr) l c, v = .slice (some a) l c → a.spot = none := by
  rintro a l c rfl
  simp only [Cell.okWide, ht, Cell.ok] at h
  exact h.2.2.2.1

theorem open_sig {r : Reach} {b0 : Nat} {v : Value} {d : DataW H} {ps : List MemPlace} (hval : Value.okWide Tryz.prog w r b0 22 v) (hd : DataW.Trod enc Tryz.prog w base sp held 22 v d ps) : ∃ x s, VRel (rho0 w) x v ∧ IsSig x s := by
  have ht : Tryz.prog.underlying 22 = some (.slice 58) := by kernel_rfl
  obtain ⟨a, len, cap, rfl⟩ := okWide_slice ht hval
  obtain ⟨fuel, hf⟩ := hd
  have hc : Cell.okWide Tryz.prog w r b0 22 (.slice a len cap) := by
    unfold Value.okWide at hval
    rw [ht] at hval
    exact hval
  exact open_listA (encA := agV) (sz := 2) ht (by kernel_rfl) (fun _ => rfl) (fun n cs x h => t43 h) (spot_of ht hc) (by simpa [Value.cells] using hf)

theorem open_net {r : Reach} {b0 : Nat} {v : Value} {d : DataW H} {ps : List MemPlace} (hval : Value.okWide Tryz.prog w r b0 43 v) (hd : DataW.Trod enc Tryz.prog w base sp held 43 v d ps) : ∃ x n, VRel (rho0 w) x v ∧ IsNet x n := by
  have hs2 : Tryz.prog.underlying 43 = some (.struct #[⟨ "Cells", 40, 0, false, "", "", 0⟩, ⟨ "Free", 3, 1, false, "", "", 24⟩, ⟨ "Wires", 41, 2, false, "", "", 32⟩]) := by kernel_rfl
  have h23 : Tryz.prog.underlying 40 = some (.slice 3) := by kernel_rfl
  have h24 : Tryz.prog.underlying 41 = some (.slice 62) := by kernel_rfl
  have hct : Program.cellTypes Tryz.prog Tryz.prog.depth 43 = some [40, 3, 41] := by kernel_rfl
  have c26 : Tryz.prog.cellsOf 43 = 3 := by kernel_rfl
  have c23 : Tryz.prog.cellsOf 40 = 1 := by kernel_rfl
  have c24 : Tryz.prog.cellsOf 41 = 1 := by kernel_rfl
  have c3 : Tryz.prog.cellsOf 3 = 1 := by kernel_rfl
  unfold Value.okWide at hval
  rw [hs2] at hval
  obtain ⟨cs, rfl, hsz, ts, hts, _, hcell⟩ := hval
  rw [hct] at hts
  simp only [Option.some.injEq] at hts
  subst hts
  rw [c26] at hsz
  obtain ⟨cl⟩ := cs
  match cl, hsz with
  | [v2, v3, v4], _ =>
    obtain ⟨u2, hu2, ok2⟩ := hcell 0 v2 rfl
    obtain ⟨u4, hu4, ok4⟩ := hcell 2 v4 rfl
    simp only [List.length_cons, List.length_nil] at hu2 hu4
    have e2 : u2 = 40 := by simpa using hu2.symm
    have e4 : u4 = 41 := by simpa using hu4.symm
    subst e2; subst e4
    obtain ⟨fuel, hf⟩ := hd
    obtain ⟨zs, m2, _, _, hl2, hlen2, hfs2⟩ := DataW.trod_struct hs2 hf
    match zs, hlen2 with
    | [z0, z1, z2], _ =>
      have g0 := hfs2 0 ⟨ "Cells", 40, 0, false, "", "", 0⟩ rfl
      have g1 := hfs2 1 ⟨ "Free", 3, 1, false, "", "", 24⟩ rfl
      have g2 := hfs2 2 ⟨ "Wires", 41, 2, false, "", "", 32⟩ rfl
      simp only [Value.cells, c23, c24, c3, List.drop_zero, List.take_succ_cons, List.take_zero, List.drop_succ_cons, List.getElem?_cons_zero, List.getElem?_cons_succ] at g0 g1 g2
      obtain ⟨f, e3⟩ := t3 g1
      simp only [List.cons.injEq, and_true] at e3
      subst e3
      obtain ⟨uc, lc, hv2, hl2⟩ := open_listA (encA := intV) (sz := 1) h23 c3 (fun _ => rfl) (fun n cs x h => by
        obtain ⟨a, rfl⟩ := t3 h
        refine ⟨a, LRel.cons (.int _ _) (LRel.nil _), fun c hc => ?_⟩
        simp only [List.mem_cons, List.not_mem_nil, or_false] at hc
        subst hc; rfl) (spot_of h23 ok2) g0
      obtain ⟨uw, lw, hv4, hl4⟩ := open_listA (encA := wireV) (sz := 4) h24 (by kernel_rfl) (fun _ => rfl) (fun n cs x h => t47 h) (spot_of h24 ok4) g2
      refine ⟨.agg [uc, .int .i64 f, uw], ⟨lc, f, lw⟩, ?_, uc, uw, rfl, hl2, hl4⟩
      have hL : LRel (rho0 w) [uc, .int .i64 f, uw] [v2, .int .i64 f, v4] := LRel.cons hv2 (LRel.cons (.int _ _) (LRel.cons hv4 (LRel.nil _)))
      exact .agg _ _ hL.1 fun i hi hj => hL.2 i hi hj
end
end Go.Proofs.Nt

/- It is proved that the law TwinBooks (skeinlaw28) answers true for every signature and leaves its argument as it was. No further conditions. -/
import Derived.Test.YtnhejnnpcnoeeaaGreatPc
import Derived.Test.YtnhejnnpcnoeeaaGreatPb
import Derived.Test.YtnhejnnpcnoeeaaGreatSkX3
import Derived.Shelf.Small.Bits
import Derived.Shelf.Small.Wraps
import Derived.Shelf.Strconv.Itoa0
import Derived.Shelf.Sort.Plain
import Derived.Ground.Names2Prog
import Derived.Shelf.Slices.Clone
import Derived.Shelf.Slices.SearchI
import Derived.Shelf.Slices.In.SortNone
import Derived.Ground.SlgnProg
import Derived.Shelf.SlicesE.Clone
import Derived.Test.YtnhejnnpcnoeeaaGreatProg
import Derived.Test.YtnhejnnpcnoeeaaGreatSkX9
import Derived.Test.YtnhejnnpcnoeeaaGreatPa
import Derived.Test.YtnhejnnpcnoeeaaGreatSkOpen
import Derived.Deep.Slices
import Derived.Test.YtnhejnnpcnoeeaaGreatRows
import Derived.WalkKit
import Derived.ProofKit
import Derived.OpenShut
import Derived.ChangeMaps5
import Derived.KernelRfl
set_option linter.unusedVariables false
set_option linter.unusedSimpArgs false
set_option maxRecDepth 10000
namespace Go.Proofs.Nt
open Go.Sk
def hWq (call : CallT) : Prop := ∀ (F : List Sk.Id) (h0 h : AH) (R : List HE) (lb wb ob fb oi fi r m : Sk.Id) (c w : AV) (cx : Cap) (s : List Ag) (nt : Nt) (es : List (AV × AV × Nat)) (cl : Nat) (P : Pst) (st : Pt) (E : List HE),
  Good s nt → IsL c (nt.cells.map intV) → IsMap portV es cl (LM (linksOf nt.wires)) → st ∈ portsL s nt → P.cf.length = nt.cells.length → P.fr.length = nt.free.toNat → P.ps.length ≤ 10000 → PstE lb wb ob fb oi fi r P E →
  Hb F h0 h (WebE r m c w cx s nt es cl ++ (E ++ R)) →
  ∃ h' E', call (.func 145) [portV st, .ptr lb 0, .ptr wb 0, .ptr ob 0, .ptr fb 0] h = some (.ret (.tup []), h') ∧ PstE lb wb ob fb oi fi r (tk s nt P st) E' ∧ Hb F h0 h' (WebE r m c w cx s nt es cl ++ (E' ++ R))
theorem hWq_of {hk : Hooks} {n : Nat} (hno : ∀ args h, hk 145 args h = none) (hno2 : ∀ args h, hk 152 args h = none) (dWd : ∀ n, 0 < n → hWd (evCall (mkEv Tryz.prog mu0 hk) n)) (dSo : ∀ n, 100 < n → hSo (evCall (mkEv Tryz.prog mu0 hk) n)) (hn : 6000 < n) : hWq (evCall (mkEv Tryz.prog mu0 hk) n) := by
  intro F h0 h R lb wb ob fb oi fi r m c w cx s nt es cl P st E g hc hM hst hcf hfr hps hE H
  obtain ⟨n, rfl⟩ : ∃ m, n = m + 3 := ⟨n - 3, by omega⟩
  obtain ⟨h', q, E', a, b⟩ := bWq (evCall (mkEv Tryz.prog mu0 hk) (n + 2)) (evCall (mkEv Tryz.prog mu0 hk) (n + 1)) (evCall (mkEv Tryz.prog mu0 hk) n) (rg Tryz.prog mu0 hk (n + 2) 145) (fun f => rg Tryz.prog mu0 hk n f) (n + 2) n F h0 h R lb wb ob fb oi fi r m c w cx s nt es cl P st E g hc hM hst hcf hfr hps hE H yieldOK (hWc_of hno2 (by omega)) (dWd _ (by omega)) (dSo _ (by omega)) (fun _ _ _ => rfl) (fun _ _ _ => rfl) (by omega)
    (Q := fun y => ∃ h', y = some (.ret (.tup []), h') ∧ ∃ E', PstE lb wb ob fb oi fi r (tk s nt P st) E' ∧ Hb F h0 h' (WebE r m c w cx s nt es cl ++ (E' ++ R))) (by rintro ⟨_, h, _⟩; cases h) (fun h' E' a b => ⟨h', rfl, E', a, b⟩)
  exact ⟨h', E', ev_of_cBodyS tabWq (hno _ _) Tryz.func145 rfl fitsWq q, a, b⟩
def hWp (call : CallT) : Prop := ∀ (F : List Sk.Id) (h0 h : AH) (R : List HE) (x c w : AV) (s : List Ag) (nt : Nt), (IsSig x s) → (IsL c (nt.cells.map intV)) → (IsL w (nt.wires.map wireV)) → ((netChk s nt).1 = 0) → (nt.wires.length ≤ 30000) → (Hb F h0 h R) → ∃ h' lv pv G L, call (.func 133) [x, .agg [c, .int .i64 nt.free, w]] h = some (.ret (.tup [lv, .int .i64 0]), h') ∧ PartsR (partsN s nt) pv L ∧ GrowingM 2 225 lv pv G ∧ Hb F h0 h' (G ++ (L ++ R))
set_option maxHeartbeats 4000000 in
theorem bWp (call rgn n) (F : List Sk.Id) (h0 h : AH) (R : List HE) (x c w : AV) (s : List Ag) (nt : Nt) (hx : IsSig x s) (hc : IsL c (nt.cells.map intV)) (hw : IsL w (nt.wires.map wireV)) (ok : (netChk s nt).1 = 0) (hl : nt.wires.length ≤ 30000) (H : Hb F h0 h R) (dWl : hWl call) (dWq : hWq call) (hrg : ∀ id ops st, rgn id ops st = drawn ⟨Tryz.prog, mu0, call⟩ 133 ops st) (hfu : 40000 ≤ n) : ∃ h' lv pv G L, B shT call rgn n 133 Tryz.f133 [x, .agg [c, .int .i64 nt.free, w]] h = some (.ret (.tup [lv, .int .i64 0]), h') ∧ PartsR (partsN s nt) pv L ∧ GrowingM 2 225 lv pv G ∧ Hb F h0 h' (G ++ (L ++ R)) := by
  suffices hq : ∀ Q : Option (AOut × AH) → Prop, ¬ Q none → (∀ h' lv pv G L, PartsR (partsN s nt) pv L ∧ GrowingM 2 225 lv pv G ∧ Hb F h0 h' (G ++ (L ++ R)) → Q (some (.ret (.tup [lv, .int .i64 0]), h'))) → Q (B shT call rgn n 133 Tryz.f133 [x, .agg [c, .int .i64 nt.free, w]] h) from hq (fun y => ∃ h' lv pv G L, y = some (.ret (.tup [lv, .int .i64 0]), h') ∧ PartsR (partsN s nt) pv L ∧ GrowingM 2 225 lv pv G ∧ Hb F h0 h' (G ++ (L ++ R))) (by rintro ⟨_, _, _, _, _, h_, _⟩; cases h_) (fun h' lv pv G L p_ => ⟨h', lv, pv, G, L, rfl, p_⟩)
  intro Q hnone hQ
  have g := good_of ok
  obtain ⟨cx, rfl⟩ := g.sig hx
  have sc : c.scalar = true := isL_scalar hc
  have sw_ : w.scalar = true := isL_scalar hw
  have hs : [c, AV.int .i64 nt.free, w].all AV.scalar = true := by simp only [List.all_cons, sc, sw_]; rfl
  have hN := g.cl
  have hf0 : nt.free = ((nt.free.toNat : Nat) : Int) := by have := g.f0; omega
  refine H.xB (hs := hs) fun i3 h H => ?_
  refine H.xM 3 ?_
  obtain ⟨h1, r, m, es, cl, q1, hM, H1⟩ := dWl F h0 h _ _ c w s nt hx hc hw ok hl H
  refine sC q1 ?_
  clear H
  refine H1.xA [.nilptr] fun wb h H => ?_
  refine H.xJ fun h H => ?_
  refine H.xL ?_
  refine sN hc ?_
  rw [List.length_map]
  refine H.xZ 3 (.int .i64 0) nt.cells.length (by have := g.cl; omega) fun oi h H => ?_
  refine H.xA [.nilsl] fun ob h H => ?_
  refine H.xJ fun h H => ?_
  refine H.xL ?_
  refine H.xZ 3 (.int .i64 0) nt.free.toNat (by have := g.f1; omega) (fun fi h H => ?_) (ha := hf0)
  refine H.xA [.nilsl] fun fb h H => ?_
  refine H.xJ fun h H => ?_
  refine H.xA [.nilsl] fun lb h H => ?_
  refine H.xL ?_
  refine sNh ?_
  have hE0 : PstE lb wb ob fb oi fi r (pst0 nt) (⟨wb, .cells [.ptr r 0] 233, true⟩ :: ⟨ob, .cells [.hsl oi 0 nt.cells.length (.known nt.cells.length)] 42, true⟩ :: ⟨oi, .cells (List.replicate nt.cells.length (.int .i64 0)) 3, true⟩ :: ⟨fb, .cells [.hsl fi 0 nt.free.toNat (.known nt.free.toNat)] 42, true⟩ :: ⟨fi, .cells (List.replicate nt.free.toNat (.int .i64 0)) 3, true⟩ :: [⟨lb, .cells [.nilsl] 220, true⟩]) :=
    ⟨_, ⟨.nilsl, [], [], [], .nil, GrowingM.nil, rfl⟩, by simp only [pst0, List.length_replicate, List.map_replicate]; rfl⟩
  refine rounds (fun (i : Nat) tm h => tm.length = 68 ∧ tm[8]? = some (.ptr ob 0) ∧ tm[9]? = some (.ptr fb 0) ∧ tm[10]? = some (.ptr lb 0) ∧ tm[11]? = some (.fn (.func 145) [] [.ptr lb 0, .ptr wb 0, .ptr ob 0, .ptr fb 0]) ∧ tm[32]? = some (.int .i64 nt.free.toNat) ∧ tm[33]? = some (.int .i64 i) ∧ i ≤ nt.free.toNat ∧
    ∃ E, PstE lb wb ob fb oi fi r (partsF s nt (pst0 nt) i) E ∧ Hb F h0 h (WebE r m c w cx s nt es cl ++ (E ++ R))) (fun i => nt.free.toNat - i) (s0 := 0) ?_ ?_ ?_
  · exact ⟨rfl, rfl, rfl, rfl, rfl, rfl, rfl, Nat.zero_le _, _, hE0, ((((((((H.pu lb).pu fi).pu fb).pu oi).pu ob).pu wb).pu m).pu r).sb⟩
  · show nt.free.toNat - 0 < n; have := g.f1; omega
  clear H hE0
  rintro m' i tm h ⟨hl2, t8, t9, t10, t11, t32, t33, hi, E, hE, H⟩ hm ih
  obtain ⟨pl1, pl2, pl3⟩ := partsF_len s nt (pst0 nt) i
  rw [show (pst0 nt).cf.length = nt.cells.length from List.length_replicate] at pl1
  rw [show (pst0 nt).fr.length = nt.free.toNat from List.length_replicate] at pl2
  have hf1 := g.f1
  have pl4 : (partsF s nt (pst0 nt) i).ps.length ≤ 10000 := by have : (pst0 nt).ps.length = 0 := rfl; omega
  have hsu := partsF_succ s nt (pst0 nt) i
  generalize hPi : partsF s nt (pst0 nt) i = P at hE pl1 pl2 pl3 pl4 hsu
  iterate 68 (obtain ⟨_, tm, rfl, hl3⟩ := exL hl2; clear hl2; have hl2 := hl3; clear hl3)
  obtain rfl := List.eq_nil_of_length_eq_zero hl2
  obtain rfl := (Option.some.inj t8).symm
  obtain rfl := (Option.some.inj t9).symm
  obtain rfl := (Option.some.inj t10).symm
  obtain rfl := (Option.some.inj t11).symm
  obtain rfl := (Option.some.inj t32).symm
  obtain rfl := (Option.some.inj t33).symm
  conv => arg 1; whnf
  split
  · rename_i hd
    have hlt : i < nt.free.toNat := by simp at hd; omega
    have hst : (-1, (i : Int)) ∈ portsL s nt := List.mem_append_left _ (mem_free.2 ⟨rfl, by show (0 : Int) ≤ (i : Int); omega, by show (i : Int) < nt.free; omega⟩)
    have hE2 := hE
    have H2 := H
    obtain ⟨E1, hE1, rfl⟩ := hE
    simp only [WebE, List.cons_append, List.nil_append] at H
    have g0 : (0 : Int) ≤ (i : Int) := by omega
    have g1 : (i : Int) < (P.fr.length : Int) := by omega
    have g2 : (P.fr.map intV)[0 + (i : Int).toNat * 1]? = some (.int .i64 (P.fr.getD i 0)) := by
      rw [Nat.mul_one, Nat.zero_add, Int.toNat_natCast, List.getElem?_map, List.getD_eq_getElem?_getD, List.getElem?_eq_getElem (by omega)]; rfl
    refine H.xL ?_
    refine sH 1 g0 g1 ?_
    refine H.xL ?_ (hv := g2)
    conv => arg 1; whnf
    cases e : (P.fr.getD i 0 == 0)
    · rw [if_neg (by simpa using e)] at hsu
      conv => arg 1; whnf
      exact ih (i + 1) _ _ ⟨rfl, rfl, rfl, rfl, rfl, rfl, sw (by omega), by omega, _, by rw [hsu]; exact hE2, H2⟩ (by omega)
    · rw [if_pos (by simpa using e)] at hsu
      obtain ⟨h3, E3, q3, hE3, H3⟩ := dWq F h0 h _ lb wb ob fb oi fi r m c w cx s nt es cl P _ _ g hc hM hst pl1 pl2 pl4 hE2 H2
      refine sC q3 ?_
      conv => arg 1; whnf
      exact ih (i + 1) _ _ ⟨rfl, rfl, rfl, rfl, rfl, rfl, sw (by omega), by omega, _, by rw [hsu]; exact hE3, H3⟩ (by omega)
  rename_i hd
  obtain rfl : i = nt.free.toNat := by simp at hd; omega
  clear hsu hi ih hm hf1 hd
  obtain ⟨P0, hP0⟩ : ∃ P0, partsF s nt (pst0 nt) nt.free.toNat = P0 := ⟨_, rfl⟩
  obtain rfl : P0 = P := hP0.symm.trans hPi
  refine rounds (fun (b : Nat × Bool) tm h => tm.length = 68 ∧ tm[8]? = some (.ptr ob 0) ∧ tm[10]? = some (.ptr lb 0) ∧ tm[11]? = some (.fn (.func 145) [] [.ptr lb 0, .ptr wb 0, .ptr ob 0, .ptr fb 0]) ∧ tm[13]? = some (.int .i64 b.1) ∧ b.1 ≤ nt.cells.length ∧
    ∃ P E, (b.2 = false ∧ partsC s nt P0 b.1 = P ∨ b.2 = true ∧ b.1 < nt.cells.length ∧ P.cf.getD b.1 0 ≠ 0 ∧ partsC s nt P0 (b.1 + 1) = P) ∧ PstE lb wb ob fb oi fi r P E ∧ Hb F h0 h (WebE r m c w cx s nt es cl ++ (E ++ R))) (fun b => 2 * (nt.cells.length - b.1) + (if b.2 then 0 else 1)) (s0 := (0, false)) ?_ ?_ ?_
  · exact ⟨rfl, rfl, rfl, rfl, rfl, Nat.zero_le _, _, E, .inl ⟨rfl, rfl⟩, hE, H⟩
  · show 2 * (nt.cells.length - 0) + 1 < n; omega
  clear H hE
  rintro m' ⟨left, bb⟩ tm h ⟨hl2, t8, t10, t11, t13, hi, P, E, hS, hE, H⟩ hm ih
  dsimp only at t13 hi hS hm ih
  iterate 68 (obtain ⟨_, tm, rfl, hl3⟩ := exL hl2; clear hl2; have hl2 := hl3; clear hl3)
  obtain rfl := List.eq_nil_of_length_eq_zero hl2
  obtain rfl := (Option.some.inj t8).symm
  obtain rfl := (Option.some.inj t10).symm
  obtain rfl := (Option.some.inj t11).symm
  obtain rfl := (Option.some.inj t13).symm
  have pc : P.cf.length = nt.cells.length ∧ P.fr.length = nt.free.toNat ∧ P.ps.length ≤ 10000 := by
    have := g.f1
    have hz : (pst0 nt).ps.length = 0 := rfl
    rcases hS with ⟨_, rfl⟩ | ⟨_, _, _, rfl⟩
    · obtain ⟨a, b, c⟩ := partsC_len s nt P0 left; omega
    · obtain ⟨a, b, c⟩ := partsC_len s nt P0 (left + 1); omega
  obtain ⟨pc1, pc2, pc3⟩ := pc
  refine rounds (fun (b : Nat × Bool) tm h => tm.length = 68 ∧ tm[8]? = some (.ptr ob 0) ∧ tm[10]? = some (.ptr lb 0) ∧ tm[11]? = some (.fn (.func 145) [] [.ptr lb 0, .ptr wb 0, .ptr ob 0, .ptr fb 0]) ∧ tm[13]? = some (.int .i64 b.1) ∧ b.1 ≤ nt.cells.length ∧ left ≤ b.1 ∧ (bb = true → b.2 = true ∨ left < b.1) ∧
    (b.2 = false ∧ partsC s nt P0 b.1 = P ∨ b.2 = true ∧ b.1 < nt.cells.length ∧ P.cf.getD b.1 0 ≠ 0 ∧ partsC s nt P0 (b.1 + 1) = P) ∧ Hb F h0 h (WebE r m c w cx s nt es cl ++ (E ++ R))) (fun b => nt.cells.length - b.1) (s0 := (left, bb)) ?_ ?_ ?_
  · exact ⟨rfl, rfl, rfl, rfl, rfl, hi, Nat.le_refl _, fun h => .inl h, hS, H⟩
  · show nt.cells.length - left < n; omega
  clear H hS
  rintro m2 ⟨l2, b2⟩ tm h ⟨hl2, t8, t10, t11, t13, hi2, hle, hbb, hS, H⟩ hm2 ih2
  dsimp only at t13 hi2 hle hbb hS hm2 ih2
  have hE2 := hE
  obtain ⟨E1, hE1, rfl⟩ := hE
  have H2 := H
  simp only [WebE, List.cons_append, List.nil_append] at H
  iterate 68 (obtain ⟨_, tm, rfl, hl3⟩ := exL hl2; clear hl2; have hl2 := hl3; clear hl3)
  obtain rfl := List.eq_nil_of_length_eq_zero hl2
  obtain rfl := (Option.some.inj t8).symm
  obtain rfl := (Option.some.inj t10).symm
  obtain rfl := (Option.some.inj t11).symm
  obtain rfl := (Option.some.inj t13).symm
  refine H.xL ?_
  refine sNh ?_
  rw [pc1]
  conv => arg 1; whnf
  cases e1 : decide ((l2 : Int) < (nt.cells.length : Int))
  · have hL : l2 = nt.cells.length := by simp at e1; omega
    have hb2 : partsC s nt P0 nt.cells.length = P := by
      rcases hS with ⟨_, h⟩ | ⟨_, h, _⟩
      · rw [← hL]; exact h
      · omega
    refine H.xL ?_
    refine sNh ?_
    have e2 : ((l2 : Int) == (P.cf.length : Int)) = true := by rw [hL, pc1]; simp
    conv => arg 1; whnf
    rw [e2]
    obtain ⟨lv, pv, G, L, hP, hG, rfl⟩ := hE1
    refine H.xL ?_
    conv => arg 1; whnf
    refine atLeave_P (leave_plain (.inl rfl) rfl) (hQ _ lv pv G L ⟨?_, hG, ?_⟩)
    · unfold partsN; rw [hP0, hb2]; exact hP
    · simp only [List.cons_append, List.append_assoc] at H
      have H := (H.pu lb).sb (R := ⟨lb, .cells [lv] 220, true⟩ :: (G ++ (L ++ R)))
      exact H.tail
  · have hlt : l2 < nt.cells.length := by simp at e1; omega
    have g0 : (0 : Int) ≤ (l2 : Int) := by omega
    have g1 : (l2 : Int) < (P.cf.length : Int) := by omega
    have g2 : (P.cf.map intV)[0 + (l2 : Int).toNat * 1]? = some (.int .i64 (P.cf.getD l2 0)) := by
      rw [Nat.mul_one, Nat.zero_add, Int.toNat_natCast, List.getElem?_map, List.getD_eq_getElem?_getD, List.getElem?_eq_getElem (by omega)]; rfl
    refine H.xL ?_
    refine sH 1 g0 g1 ?_
    refine H.xL ?_ (hv := g2)
    conv => arg 1; whnf
    cases e2 : (P.cf.getD l2 0 != 0)
    rotate_left
    · have hne : P.cf.getD l2 0 ≠ 0 := by simpa using e2
      have hnx : partsC s nt P0 (l2 + 1) = P := by
        rcases hS with ⟨_, h⟩ | ⟨_, _, _, h⟩
        · rw [partsC_succ, h, if_neg hne]
        · exact h
      conv => arg 1; whnf
      refine ih2 (l2 + 1, false) _ _ ?_ ?_
      · refine ⟨rfl, rfl, rfl, rfl, ?_, ?_, ?_, fun _ => .inr ?_, .inl ⟨rfl, hnx⟩, H2⟩
        · exact sw (by omega)
        · show l2 + 1 ≤ nt.cells.length; omega
        · show left ≤ l2 + 1; omega
        · show left < l2 + 1; omega
      · show nt.cells.length - (l2 + 1) < nt.cells.length - l2; omega
    · have hz : P.cf.getD l2 0 = 0 := by simpa using e2
      have hcu : partsC s nt P0 l2 = P ∧ b2 = false := by
        rcases hS with ⟨a, h⟩ | ⟨_, _, h, _⟩
        · exact ⟨h, a⟩
        · exact absurd hz h
      refine H.xL ?_
      refine sNh ?_
      have e3 : ((l2 : Int) == (P.cf.length : Int)) = false := by rw [pc1]; simp; omega
      conv => arg 1; whnf
      rw [e3]
      have hcell : ((l2 : Int), (0 : Int)) ∈ portsL s nt := by
        have ha := List.getElem?_eq_getElem hlt
        obtain ⟨u1, u2, u3⟩ := g.arity ha
        exact cellPort ha (by omega) (by omega)
      obtain ⟨h3, E3, q3, hE3, H3⟩ := dWq F h0 h _ lb wb ob fb oi fi r m c w cx s nt es cl P _ _ g hc hM hcell pc1 pc2 pc3 hE2 H2
      refine sC q3 ?_
      conv => arg 1; whnf
      refine ih (l2, true) _ _ ⟨rfl, rfl, rfl, rfl, rfl, by show l2 ≤ nt.cells.length; omega, _, E3, .inr ⟨rfl, hlt, tk_at hlt pc1, by rw [partsC_succ, hcu.1, if_pos hz]⟩, hE3, H3⟩ ?_
      show 2 * (nt.cells.length - l2) + 0 < 2 * (nt.cells.length - left) + (if bb = true then 0 else 1)
      cases bb with
      | false => simp; omega
      | true =>
        rcases hbb rfl with h | h
        · rw [hcu.2] at h; cases h
        · simp; omega
theorem hWp_of {hk : Hooks} {n : Nat} (hno : ∀ args h, hk 133 args h = none) (dWl : ∀ n, 40000 - 1 < n → hWl (evCall (mkEv Tryz.prog mu0 hk) n)) (dWq : ∀ n, 40000 - 1 < n → hWq (evCall (mkEv Tryz.prog mu0 hk) n)) (hn : 40000 < n) : hWp (evCall (mkEv Tryz.prog mu0 hk) n) := by
  intro F h0 h R x c w s nt hx hc hw ok hl H
  obtain ⟨n, rfl⟩ : ∃ m, n = m + 1 := ⟨n - 1, by omega⟩
  obtain ⟨h', lv, pv, G, L, a_, b_⟩ := bWp (evCall (mkEv Tryz.prog mu0 hk) n) (rg Tryz.prog mu0 hk n 133) n (F := F) (h0 := h0) (h := h) (R := R) (x := x) (c := c) (w := w) (s := s) (nt := nt) hx hc hw ok hl H (dWl n (by omega)) (dWq n (by omega)) (fun _ _ _ => rfl) (by omega)
  exact ⟨h', lv, pv, G, L, ev_of_cBodyS shT (hno _ _) Tryz.func133 rfl (by kernel_rfl) a_, b_⟩
theorem foldl_inv {σ α : Type} {f : σ → α → σ} (I : σ → Prop) : ∀ (l : List α) (b : σ), I b → (∀ b a, a ∈ l → I b → I (f b a)) → I (l.foldl f b)
  | [], _, h, _ => h
  | a :: r, b, h, hs => foldl_inv I r (f b a) (hs b a (List.mem_cons_self ..) h) fun b x hx => hs b x (List.mem_cons_of_mem _ hx)
theorem walk_none {s : List Ag} {nt : Nt} (g : Good s nt) (hc : nt.cells = []) {st : Pt} (hp : st ∈ portsL s nt) : walkN s nt st = [] := by
  have hfr : ∀ p ∈ portsL s nt, p.1 = -1 := by
    intro p hp
    unfold portsL at hp
    rw [hc, show cellsPorts s [] 0 = [] from rfl, List.append_nil] at hp
    exact (mem_free.1 hp).1
  unfold walkN
  rw [if_pos]
  unfold begP
  rw [if_pos (by have := hfr st hp; omega)]
  have := hfr _ (g.inv.val hp).1
  omega
def BareF (nt : Nt) (p : Prt) : Prop := p.1 = [] ∧ ∃ k r, p.2 = k :: r ∧ 0 ≤ k ∧ k < nt.free
theorem parts_bare {s : List Ag} {nt : Nt} (g : Good s nt) (hc : nt.cells = []) : ∀ p ∈ partsN s nt, BareF nt p := by
  unfold partsN
  rw [show nt.cells.length = 0 by rw [hc]; rfl, show ∀ P, partsC s nt P 0 = P from fun _ => rfl]
  have hf := g.f0
  suffices h : (partsF s nt (pst0 nt) nt.free.toNat).fr.length = nt.free.toNat ∧ ∀ p ∈ (partsF s nt (pst0 nt) nt.free.toNat).ps, BareF nt p from h.2
  unfold partsF
  refine foldl_inv (fun P : Pst => P.fr.length = nt.free.toNat ∧ ∀ p ∈ P.ps, BareF nt p) _ _ ?_ ?_
  · exact ⟨by simp [pst0], by simp [pst0]⟩
  · rintro P i hi ⟨h1, h2⟩
    rw [List.mem_range] at hi
    split
    · have hst : ((-1 : Int), (i : Int)) ∈ portsL s nt := List.mem_append_left _ (mem_free.2 ⟨rfl, by show (0 : Int) ≤ (i : Int); omega, by show (i : Int) < nt.free; omega⟩)
      refine ⟨(tk_len s nt P _).2.1.trans h1, fun p hp => ?_⟩
      unfold tk at hp
      rcases List.mem_append.1 hp with hp | hp
      · exact h2 p hp
      · obtain rfl := List.mem_singleton.1 hp
        rw [walk_none g hc hst]
        refine ⟨by simp, ?_⟩
        have hm : (i : Int) ∈ freesN nt (setAll ((P.ps.length + 1 : Nat) : Int) P.cf []) ((P.ps.length + 1 : Nat) : Int) (-1, (i : Int)) P.fr.length := by
          unfold freesN
          refine List.mem_map.2 ⟨i, List.mem_filter.2 ⟨List.mem_range.2 (by omega), ?_⟩, rfl⟩
          unfold freeIn; simp
        generalize hL : freesN nt (setAll ((P.ps.length + 1 : Nat) : Int) P.cf []) ((P.ps.length + 1 : Nat) : Int) (-1, (i : Int)) P.fr.length = L at hm
        cases L with
        | nil => cases hm
        | cons k r =>
          refine ⟨k, r, rfl, ?_⟩
          have : k ∈ freesN nt (setAll ((P.ps.length + 1 : Nat) : Int) P.cf []) ((P.ps.length + 1 : Nat) : Int) (-1, (i : Int)) P.fr.length := by rw [hL]; exact List.mem_cons_self ..
          unfold freesN at this
          obtain ⟨j, hj, rfl⟩ := List.mem_map.1 this
          have := List.mem_range.1 (List.mem_filter.1 hj).1
          omega
    · exact ⟨h1, h2⟩
theorem flatJ : ∀ l : List Int, flat (l.map intV) = l.map intV
  | [] => rfl
  | a :: r => by rw [List.map_cons, show flat (intV a :: r.map intV) = intV a :: flat (r.map intV) from rfl, flatJ r]
theorem flat_at {n : Nat} : ∀ {xs : List AV}, (∀ x ∈ xs, x.cells.length = n) → ∀ {i : Nat} {v : AV}, xs[i]? = some v → ((flat xs).drop (i * n)).take n = v.cells ∧ i * n + n ≤ (flat xs).length
  | [], _, i, v, h => by simp at h
  | x :: r, hl, i, v, h => by
    have hx := hl x (.head _)
    have e : flat (x :: r) = x.cells ++ flat r := by simp [flat]
    rw [e]
    cases i with
    | zero =>
      simp only [List.getElem?_cons_zero, Option.some.injEq] at h; subst h
      rw [Nat.zero_mul, List.drop_zero, ← hx, List.take_left', List.length_append] <;> simp
    | succ i =>
      obtain ⟨a, b⟩ := flat_at (fun y hy => hl y (.tail _ hy)) (xs := r) (i := i) (v := v) (by simpa using h)
      rw [List.length_append, hx, Nat.succ_mul, List.drop_append, List.drop_eq_nil_of_le (by omega), List.nil_append, hx, show i * n + n - n = i * n by omega]
      exact ⟨a, by omega⟩
theorem PartsR.at_ {ps : List Prt} {pv : List AV} {L : List HE} (h : PartsR ps pv L) : ∀ {i : Nat} {p : Prt}, ps[i]? = some p → p.2 ≠ [] → ∃ cv fr, pv[i]? = some (.agg [cv, .hsl fr 0 p.2.length (.room 1)]) ∧ cv.scalar = true ∧ (⟨fr, .cells (p.2.map intV) 3, true⟩ : HE) ∈ L := by
  induction h with
  | nil => intro i p h; simp at h
  | @snoc ps pv E C D cv fv cs fs hp hc hf ih =>
    intro i p hi hne
    have hlen := hp.len.1
    by_cases hlt : i < ps.length
    · rw [List.getElem?_append_left hlt] at hi
      obtain ⟨cv2, fr, a, b, m⟩ := ih hi hne
      exact ⟨cv2, fr, by rw [List.getElem?_append_left (by omega)]; exact a, b, List.mem_append_right _ (List.mem_append_right _ m)⟩
    · rw [List.getElem?_append_right (by omega)] at hi
      have h0 : i - ps.length = 0 := by
        rcases Nat.eq_zero_or_pos (i - ps.length) with h | h
        · exact h
        · rw [List.getElem?_eq_none (by simp; omega)] at hi; cases hi
      rw [h0] at hi
      simp only [List.getElem?_cons_zero, Option.some.injEq] at hi
      subst hi
      rcases hf with ⟨_, e, _⟩ | ⟨fr, e, _, hD⟩
      · exact absurd (by simpa using e) hne
      · refine ⟨cv, fr, ?_, hc.scalar, ?_⟩
        · rw [List.getElem?_append_right (by omega), hlen, h0, e, List.length_map]; rfl
        · rw [hD, flatJ]
          exact List.mem_append_right _ (List.mem_append_left _ (.head _))
def hSz (call : CallT) : Prop := ∀ (F : List Sk.Id) (h0 h : AH) (R : List HE) (x c w : AV) (f : Int) (s : List Ag) (cx : Cap), (x = .vsl (s.map agV) cx) → (c.scalar = true) → (w.scalar = true) → (Hb F h0 h R) → ∃ h' b1 b2, call (.func 117) [x, .agg [c, .int .i64 f, w]] h = some (.ret (.fn (.func 132) [] [.ptr b1 0, .ptr b2 0]), h') ∧ Hb F h0 h' (⟨b1, .cells [x] 22, true⟩ :: ⟨b2, .cells [c, .int .i64 f, w] 49, true⟩ :: R)
theorem bSz (call rgn n) (F : List Sk.Id) (h0 h : AH) (R : List HE) (x c w : AV) (f : Int) (s : List Ag) (cx : Cap) (hx : x = .vsl (s.map agV) cx) (sc : c.scalar = true) (sw_ : w.scalar = true) (H : Hb F h0 h R)  (hrg : ∀ id ops st, rgn id ops st = drawn ⟨Tryz.prog, mu0, call⟩ 117 ops st) (hfu : 0 ≤ n) : ∃ h' b1 b2, B shT call rgn n 117 Tryz.f117 [x, .agg [c, .int .i64 f, w]] h = some (.ret (.fn (.func 132) [] [.ptr b1 0, .ptr b2 0]), h') ∧ Hb F h0 h' (⟨b1, .cells [x] 22, true⟩ :: ⟨b2, .cells [c, .int .i64 f, w] 49, true⟩ :: R) := by
  suffices hq : ∀ Q : Option (AOut × AH) → Prop, ¬ Q none → (∀ h' b1 b2, Hb F h0 h' (⟨b1, .cells [x] 22, true⟩ :: ⟨b2, .cells [c, .int .i64 f, w] 49, true⟩ :: R) → Q (some (.ret (.fn (.func 132) [] [.ptr b1 0, .ptr b2 0]), h'))) → Q (B shT call rgn n 117 Tryz.f117 [x, .agg [c, .int .i64 f, w]] h) from hq (fun y => ∃ h' b1 b2, y = some (.ret (.fn (.func 132) [] [.ptr b1 0, .ptr b2 0]), h') ∧ Hb F h0 h' (⟨b1, .cells [x] 22, true⟩ :: ⟨b2, .cells [c, .int .i64 f, w] 49, true⟩ :: R)) (by rintro ⟨_, _, _, h_, _⟩; cases h_) (fun h' b1 b2 p_ => ⟨h', b1, b2, rfl, p_⟩)
  intro Q hnone hQ
  subst hx
  refine H.xB fun b1 h H => ?_
  refine H.xB (hs := by simp only [List.all_cons, sc, sw_]; rfl) fun b2 h H => ?_
  conv => arg 1; whnf
  exact atLeave_P (leave_plain (.inl rfl) rfl) (hQ _ _ _ (((H.pu b2).pu b1)))
theorem hSz_of {hk : Hooks} {n : Nat} (hno : ∀ args h, hk 117 args h = none)  (hn : 0 < n) : hSz (evCall (mkEv Tryz.prog mu0 hk) n) := by
  intro F h0 h R x c w f s cx hx sc sw_ H
  obtain ⟨n, rfl⟩ : ∃ m, n = m + 1 := ⟨n - 1, by omega⟩
  obtain ⟨h', b1, b2, a_, b_⟩ := bSz (evCall (mkEv Tryz.prog mu0 hk) n) (rg Tryz.prog mu0 hk n 117) n (F := F) (h0 := h0) (h := h) (R := R) (x := x) (c := c) (w := w) (f := f) (s := s) (cx := cx) hx sc sw_ H  (fun _ _ _ => rfl) (by omega)
  exact ⟨h', b1, b2, ev_of_cBodyS shT (hno _ _) Tryz.func117 rfl (by kernel_rfl) a_, b_⟩
def RoundsF (call : CallT) (F : List Sk.Id) (h0 : AH) (l : Sk.Id) (f : Int) (Iv : List HE → Prop) : Prop :=
  ∀ (k : Int) h E R, 0 ≤ k → k < f → Iv E → Hb F h0 h (E ++ R) → ∃ h' E', call (.yield l) [portV (-1, k)] h = some (.ret (.bool true), h') ∧ Iv E' ∧ Hb F h0 h' (E' ++ R)
theorem fitsSy : tabFits Tryz.prog (mu0 132) shT (codeOf Tryz.f132) = true := by kernel_rfl
set_option maxHeartbeats 4000000 in
theorem bSy (call rgn n) (F : List Sk.Id) (h0 h : AH) (R : List HE) (b1 b2 l : Sk.Id) (x c w : AV) (s : List Ag) (nt : Nt) (Iv : List HE → Prop) (E0 : List HE)
    (g : Good s nt) (hnc : nt.cells = []) (hx : IsSig x s) (hc : IsL c (nt.cells.map intV)) (hw : IsL w (nt.wires.map wireV)) (hl : nt.wires.length ≤ 30000) (hY : RoundsF call F h0 l nt.free Iv) (i0 : Iv E0)
    (H : Hb F h0 h (E0 ++ (⟨b1, .cells [x] 22, true⟩ :: ⟨b2, .cells [c, .int .i64 nt.free, w] 49, true⟩ :: R))) (dWp : hWp call) (dZf : hZf call)
    (hrg : ∀ id ops st, rgn id ops st = drawn ⟨Tryz.prog, mu0, call⟩ 132 ops st) (hfu : 40000 ≤ n) {Q : Option (AOut × AH) → Prop} (hnone : ¬ Q none)
    (hQ : ∀ h' E', Iv E' → Hb F h0 h' (E' ++ (⟨b1, .cells [x] 22, true⟩ :: ⟨b2, .cells [c, .int .i64 nt.free, w] 49, true⟩ :: R)) → Q (some (.ret (.tup []), h'))) :
    Q (B shT call rgn n 132 Tryz.f132 [.fn (.yield l) [] [], .ptr b1 0, .ptr b2 0] h) := by
  have ok : (netChk s nt).1 = 0 := by rw [g.chk]
  refine H.xL ?_
  refine H.xM 3 ?_
  obtain ⟨h1, lv, pv, G, L, q1, hP, hG, H1⟩ := dWp F h0 h _ x c w s nt hx hc hw ok hl H
  clear H
  have hbare := parts_bare g hnc
  obtain ⟨hpl, hp2⟩ := hP.len
  have hpn : pv.length ≤ 30000 := by
    rw [hpl]
    have z1 := (partsF_len s nt (pst0 nt) nt.free.toNat).2.2
    have z2 := (partsC_len s nt (partsF s nt (pst0 nt) nt.free.toNat) nt.cells.length).2.2
    have z3 : (pst0 nt).ps.length = 0 := rfl
    have z4 := g.f1
    have z5 := g.cl
    unfold partsN
    omega
  have hG' := hG
  rcases hG with ⟨rfl, hpv, rfl⟩ | ⟨gr, rfl, hne, rfl⟩
  all_goals
    refine sC q1 ?_
    first | refine sNh ?_ | refine sN (.inl ⟨rfl, hpv⟩) ?_
    refine rounds (fun (i : Nat) tm h => tm.length = 69 ∧ tm[0]? = some (.fn (.yield l) [] []) ∧ tm[6]? = some .nilsl ∧ tm[21]? = some (.int .i64 pv.length) ∧ tm[22]? = some (.int .i64 i) ∧ i ≤ pv.length ∧
      ∃ lv G E, tm[20]? = some lv ∧ GrowingM 2 225 lv pv G ∧ Iv E ∧ Hb F h0 h (G ++ (L ++ (E ++ (⟨b1, .cells [x] 22, true⟩ :: ⟨b2, .cells [c, .int .i64 nt.free, w] 49, true⟩ :: R))))) (fun i => pv.length - i) (s0 := 0) ?_ ?_ ?_
    · exact ⟨rfl, rfl, rfl, rfl, rfl, Nat.zero_le _, _, _, E0, rfl, hG', i0, H1⟩
    · show pv.length - 0 < n; omega
    clear H1 i0 hG'
    rintro m' i tm h ⟨hl2, t0, t6, t21, t22, hi, lv, G, E, t20, hG, hE, H⟩ hm ih
    iterate 69 (obtain ⟨_, tm, rfl, hl3⟩ := exL hl2; clear hl2; have hl2 := hl3; clear hl3)
    obtain rfl := List.eq_nil_of_length_eq_zero hl2
    obtain rfl := (Option.some.inj t0).symm
    obtain rfl := (Option.some.inj t6).symm
    obtain rfl := (Option.some.inj t20).symm
    obtain rfl := (Option.some.inj t21).symm
    obtain rfl := (Option.some.inj t22).symm
    conv => arg 1; whnf
    split
    · rename_i hd
      have hlt : i < pv.length := by simp at hd; omega
      obtain ⟨p, hp⟩ : ∃ p, (partsN s nt)[i]? = some p := ⟨_, List.getElem?_eq_getElem (by omega)⟩
      obtain ⟨p1, k0, r0, p2, k1, k2⟩ := hbare p (List.mem_of_getElem? hp)
      obtain ⟨cv, fr, e1, sc, hmem⟩ := hP.at_ hp (by rw [p2]; simp)
      obtain ⟨f1, f2⟩ := flat_at hp2 e1
      have hG2 := hG
      rcases hG with ⟨_, e, _⟩ | ⟨gr, rfl, hne, rfl⟩
      · rw [e] at hlt; cases hlt
      have g0 : (0 : Int) ≤ (i : Int) := by omega
      have g1 : (i : Int) < (pv.length : Int) := by omega
      have f3 : 0 + (i : Int).toNat * 2 + 2 ≤ (flat pv).length := by rw [Int.toNat_natCast]; omega
      have f4 : ((flat pv).drop (0 + (i : Int).toNat * 2)).take 2 = [cv, .hsl fr 0 p.2.length (.room 1)] := by rw [Int.toNat_natCast, Nat.zero_add, f1]; rfl
      refine sH 2 g0 g1 ?_
      refine H.xM 2 (hv := f3) (hl := f4) ?_
      refine H.xA [.nilsl, .nilsl] fun t8 h H => ?_
      refine H.xJ (hs := by simp only [AV.cells, List.all_cons, sc]; rfl) fun h H => ?_
      refine H.xL ?_
      refine sNh ?_
      have f5 : (0 : Int) < (p.2.length : Int) := by rw [p2]; simp only [List.length_cons]; omega
      have g2 : (p.2.map intV)[0 + (0 : Int).toNat * 1]? = some (.int .i64 k0) := by rw [p2]; rfl
      conv => arg 1; whnf
      rw [show ((p.2.length : Int) == 0) = false from beq_false_of_ne (by omega)]
      refine H.xL ?_
      refine sH 1 (Int.le_refl 0) f5 ?_
      refine H.xL (hk := List.Mem.tail _ (List.mem_append_right _ (List.mem_append_left _ hmem))) (hv := g2) ?_
      have H3 := H.tail
      have H4 : Hb F h0 h (E ++ ((_ ++ L) ++ _)) := Hb.front (A := _ ++ L) (by rw [List.append_assoc]; exact H3)
      obtain ⟨h5, E5, q5, hE5, H5⟩ := hY k0 h E _ k1 k2 hE H4
      refine sC q5 ?_
      conv => arg 1; whnf
      refine ih (i + 1) _ _ ⟨rfl, rfl, rfl, rfl, sw (by omega), by omega, _, _, E5, rfl, hG2, hE5, ?_⟩ (by omega)
      have := Hb.front H5
      rw [List.append_assoc] at this
      exact this
    rename_i hd
    clear ih hm hd
    refine sC (dZf _ _ rfl) ?_
    refine sN (.inl ⟨rfl, rfl⟩) ?_
    obtain ⟨k, rfl⟩ : ∃ k, n = k + 1 := ⟨n - 1, by omega⟩
    conv => arg 1; whnf
    rw [cIter_succ]
    conv => arg 1; whnf
    have H6 : Hb F h0 h (E ++ ((G ++ L) ++ _)) := Hb.front (A := G ++ L) (by rw [List.append_assoc]; exact H)
    exact atLeave_P (leave_plain (.inr rfl) rfl) (hQ _ E hE (Hb.drop (A := G ++ L) (Hb.front H6) |> fun (h : Hb _ _ _ _) => h))
def hSy (call call1 : CallT) : Prop := ∀ (F : List Sk.Id) (h0 h : AH) (R : List HE) (b1 b2 l : Sk.Id) (x c w : AV) (s : List Ag) (nt : Nt) (Iv : List HE → Prop) (E0 : List HE),
  Good s nt → nt.cells = [] → IsSig x s → IsL c (nt.cells.map intV) → IsL w (nt.wires.map wireV) → nt.wires.length ≤ 30000 → RoundsF call1 F h0 l nt.free Iv → Iv E0 →
  Hb F h0 h (E0 ++ (⟨b1, .cells [x] 22, true⟩ :: ⟨b2, .cells [c, .int .i64 nt.free, w] 49, true⟩ :: R)) →
  ∃ h' E', call (.func 132) [.fn (.yield l) [] [], .ptr b1 0, .ptr b2 0] h = some (.ret (.tup []), h') ∧ Iv E' ∧ Hb F h0 h' (E' ++ (⟨b1, .cells [x] 22, true⟩ :: ⟨b2, .cells [c, .int .i64 nt.free, w] 49, true⟩ :: R))
theorem hSy_of {hk : Hooks} {n : Nat} (hno : ∀ args h, hk 132 args h = none) (dWp : hWp (evCall (mkEv Tryz.prog mu0 hk) n)) (dZf : hZf (evCall (mkEv Tryz.prog mu0 hk) n)) (hn : 40000 ≤ n) : hSy (evCall (mkEv Tryz.prog mu0 hk) (n + 1)) (evCall (mkEv Tryz.prog mu0 hk) n) := by
  intro F h0 h R b1 b2 l x c w s nt Iv E0 g hnc hx hc hw hl hY i0 H
  have := bSy (evCall (mkEv Tryz.prog mu0 hk) n) (rg Tryz.prog mu0 hk n 132) n F h0 h R b1 b2 l x c w s nt Iv E0 g hnc hx hc hw hl hY i0 H dWp dZf (fun _ _ _ => rfl) hn
    (Q := fun y => ∃ h', y = some (.ret (.tup []), h') ∧ ∃ E', Iv E' ∧ Hb F h0 h' (E' ++ (⟨b1, .cells [x] 22, true⟩ :: ⟨b2, .cells [c, .int .i64 nt.free, w] 49, true⟩ :: R))) (by rintro ⟨_, h, _⟩; cases h) (fun h' E' a b => ⟨h', rfl, E', a, b⟩)
  obtain ⟨h', q, E', a, b⟩ := this
  exact ⟨h', E', ev_of_cBodyS shT (hno _ _) Tryz.func132 rfl fitsSy q, a, b⟩
theorem xG0 {α : Type} {k kp : AV → AH → Option α} {Q : Option α → Prop} {h : AH} {x : Option α} {X : Cx} {t : TypeId} {l v : AV} {m : Bool} (hl : IsL l []) (hv : IsL v []) (y : Q (k l h))
    (e : x = atCall k kp (aBuiltin X m .append #[t, t] [l, v] h) := by (conv => lhs; whnf); try rfl) (u : appOK X.P t 1 = true := by kernel_rfl) : Q x := by
  obtain ⟨el, z, u1, u2, u3, _, _, u4, u5⟩ := appOK_spec u
  rw [e]
  refine atCall_P (v := l) (h := h) ?_ y
  have ha : aAppend X.P m #[t, t] l v h = some (l, h) := by
    have hx : aElems X.P el v h = some [] := by rcases hv with ⟨rfl, _⟩ | ⟨c2, rfl⟩ <;> rfl
    unfold aAppend
    simp only [show (#[t, t])[0]? = some t from rfl, show (#[t, t])[1]? = some t from rfl, u1, hx, u2, u3]
    rw [if_neg (by simp [headOk, u4, u5])]
    rcases hl with ⟨rfl, _⟩ | ⟨c1, rfl⟩ <;> simp
  show vhOf (aAppend X.P m #[t, t] l v h) = _
  rw [ha]; rfl
def hOr (call : CallT) : Prop := ∀ (F : List Sk.Id) (h0 h : AH) (R : List HE) (x c w : AV) (s : List Ag) (nt : Nt), IsSig x s → IsL c (nt.cells.map intV) → IsL w (nt.wires.map wireV) → (netChk s nt).1 = 0 → nt.wires.length ≤ 30000 → nt.cells = [] → Hb F h0 h R →
  ∃ h' v, call (.func 102) [x, .agg [c, .int .i64 nt.free, w]] h = some (.ret (.tup [v, .int .i64 0]), h') ∧ IsL v [] ∧ Hb F h0 h' R
theorem bOr (call call1 call0 rgn rgn0 n n0) (F : List Sk.Id) (h0 h : AH) (R : List HE) (x c w : AV) (s : List Ag) (nt : Nt) (hx : IsSig x s) (hc : IsL c (nt.cells.map intV)) (hw : IsL w (nt.wires.map wireV)) (ok : (netChk s nt).1 = 0) (hl : nt.wires.length ≤ 30000) (hnc : nt.cells = []) (H : Hb F h0 h R)
    (dY : YieldOK call1 call0 rgn0 n0) (dSy : hSy call call1) (d16 : h16 call) (dSz : hSz call) (dWf : hWf call0) (hrg : ∀ id ops st, rgn id ops st = drawn ⟨Tryz.prog, mu0, call⟩ 102 ops st) :
    ∃ h' v, B shT call rgn n 102 Tryz.f102 [x, .agg [c, .int .i64 nt.free, w]] h = some (.ret (.tup [v, .int .i64 0]), h') ∧ IsL v [] ∧ Hb F h0 h' R := by
  suffices hq : ∀ Q : Option (AOut × AH) → Prop, ¬ Q none → (∀ h' v, IsL v [] → Hb F h0 h' R → Q (some (.ret (.tup [v, .int .i64 0]), h'))) → Q (B shT call rgn n 102 Tryz.f102 [x, .agg [c, .int .i64 nt.free, w]] h) from
    hq (fun y => ∃ h' v, y = some (.ret (.tup [v, .int .i64 0]), h') ∧ IsL v [] ∧ Hb F h0 h' R) (by rintro ⟨_, _, h, _⟩; cases h) fun h' v a b => ⟨h', v, rfl, a, b⟩
  intro Q hnone hQ
  have g := good_of ok
  have q := fun h => d16 _ _ s nt h hx ⟨c, w, rfl, hc, hw⟩ (by omega)
  rw [g.chk] at q
  obtain ⟨cx, rfl⟩ := g.sig hx
  have sc : c.scalar = true := isL_scalar hc
  have sw_ : w.scalar = true := isL_scalar hw
  have hs : [c, AV.int .i64 nt.free, w].all AV.scalar = true := by simp only [List.all_cons, sc, sw_]; rfl
  refine H.xB fun i2 h H => ?_
  refine H.xB (hs := hs) fun i3 h H => ?_
  refine H.xL ?_
  refine H.xM 3 ?_
  refine sC (q _) ?_
  refine H.xA [.nilsl] fun i8 h H => ?_
  refine H.xL ?_
  refine H.xM 3 ?_
  obtain ⟨h1, b1, b2, q1, H1⟩ := dSz F h0 h _ _ c w nt.free s cx rfl sc sw_ H
  refine sC q1 ?_
  refine H1.xLp fun l d h5 tm' a' b' etm ea eb H5 => ?_
  have hY : RoundsF call1 F h0 l nt.free fun E => ∃ lv, E = ⟨l, .loop .ready none 102 tm' #[24] a' b' d, true⟩ :: ⟨d, .defs true, true⟩ :: ⟨i8, .cells [lv] 42, true⟩ :: ⟨i2, .cells [.vsl (s.map agV) cx] 22, true⟩ :: ⟨i3, .cells [c, .int .i64 nt.free, w] 49, true⟩ :: [] ∧ IsL lv [] := by
    rintro k h E R' k0 k1 ⟨lv, rfl, hlv⟩ H
    suffices hq : ∀ Q : Option (AOut × AH) → Prop, (∀ h' lv, IsL lv [] → Hb F h0 h' (⟨l, .loop .ready none 102 tm' #[24] a' b' d, true⟩ :: ⟨d, .defs true, true⟩ :: ⟨i8, .cells [lv] 42, true⟩ :: ⟨i2, .cells [.vsl (s.map agV) cx] 22, true⟩ :: ⟨i3, .cells [c, .int .i64 nt.free, w] 49, true⟩ :: R') → Q (some (.ret (.bool true), h'))) →
        Q (cR Tryz.prog mu0 call0 (rgn0 102) shT n0 l 102 a' b' (setTmps tm' [24] [portV (-1, k)]) h) by
      obtain ⟨h', lv', q, iv, H'⟩ := hq (fun y => ∃ h' lv, y = some (.ret (.bool true), h') ∧ IsL lv [] ∧ Hb F h0 h' (⟨l, .loop .ready none 102 tm' #[24] a' b' d, true⟩ :: ⟨d, .defs true, true⟩ :: ⟨i8, .cells [lv] 42, true⟩ :: ⟨i2, .cells [.vsl (s.map agV) cx] 22, true⟩ :: ⟨i3, .cells [c, .int .i64 nt.free, w] 49, true⟩ :: R')) (fun h' lv a b => ⟨h', lv, rfl, a, b⟩)
      exact ⟨h', _, dY shT l _ _ _ _ _ _ _ _ _ _ h _ (H.get (.head _)) rfl (by rw [← ea]; kernel_rfl) (by rw [← eb]; kernel_rfl) (by rw [← ea]; kernel_rfl) rfl q, ⟨lv', rfl, iv⟩, H'⟩
    intro Q hQ
    have hst : ((-1 : Int), k) ∈ portsL s nt := List.mem_append_left _ (mem_free.2 ⟨rfl, k0, k1⟩)
    have hwk := walk_none g hnc hst
    rw [← etm, ← ea, ← eb]
    refine H.xA [.int .i64 0, .int .i64 0] fun i9 h H => ?_
    refine H.xJ fun h H => ?_
    refine H.xBz fun h H => ?_
    refine H.xL ?_
    refine H.xM 3 ?_
    refine H.xM 2 ?_
    obtain ⟨h6, v6, q6, hv6, H6⟩ := dWf F h0 h _ _ c w s nt (-1, k) hx hc hw ok hl hst H
    rw [hwk] at hv6
    refine sC q6 ?_
    have hv7 := hv6
    rcases hv6 with ⟨rfl, _⟩ | ⟨c6, rfl⟩
    all_goals
      refine H6.xL ?_
      refine xG0 hlv hv7 ?_
      refine H6.xV (by rcases hlv with ⟨rfl, _⟩ | ⟨_, rfl⟩ <;> rfl) (isL_scalar hlv) fun h H => ?_
      rw [ea, eb, etm] at *
      refine H.xRd fun h H => ?_
      exact hQ _ _ hlv H.sb
  have H6 := (((((((H5.pu b2).pu b1).pu i3).pu i2).pu i8).pu d).pu l)
  obtain ⟨h7, E7, q7, ⟨lv, rfl, hlv⟩, H7⟩ := dSy F h0 h5 _ b1 b2 l _ c w s nt _ _ g hnc hx hc hw hl hY ⟨.nilsl, rfl, .inl ⟨rfl, rfl⟩⟩ H6
  clear H1 H5 H6 hY
  refine H7.xLe q7 fun h H => ?_
  refine H.xL ?_
  conv => arg 1; whnf
  refine H.xQd (.inl rfl) rfl fun h H => ?_
  exact hQ _ _ hlv H.sb
theorem hOr_of {hk : Hooks} {n : Nat} (hno : ∀ args h, hk 102 args h = none) (hno2 : ∀ args h, hk 132 args h = none) (d16 : ∀ n, 0 < n → h16 (evCall (mkEv Tryz.prog mu0 hk) n)) (dWp : ∀ n, 41000 < n → hWp (evCall (mkEv Tryz.prog mu0 hk) n)) (dZf : ∀ n, 100 < n → hZf (evCall (mkEv Tryz.prog mu0 hk) n)) (dSz : ∀ n, 0 < n → hSz (evCall (mkEv Tryz.prog mu0 hk) n)) (dWf : ∀ n, 40001 < n → hWf (evCall (mkEv Tryz.prog mu0 hk) n)) (hn : 42000 < n) : hOr (evCall (mkEv Tryz.prog mu0 hk) n) := by
  intro F h0 h R x c w s nt hx hc hw ok hl hnc H
  obtain ⟨n, rfl⟩ : ∃ m, n = m + 3 := ⟨n - 3, by omega⟩
  obtain ⟨h', v, q, a, b⟩ := bOr (evCall (mkEv Tryz.prog mu0 hk) (n + 2)) (evCall (mkEv Tryz.prog mu0 hk) (n + 1)) (evCall (mkEv Tryz.prog mu0 hk) n) (rg Tryz.prog mu0 hk (n + 2) 102) (fun f => rg Tryz.prog mu0 hk n f) (n + 2) n F h0 h R x c w s nt hx hc hw ok hl hnc H yieldOK (hSy_of hno2 (dWp _ (by omega)) (dZf _ (by omega)) (by omega)) (d16 _ (by omega)) (dSz _ (by omega)) (dWf _ (by omega)) (fun _ _ _ => rfl)
  exact ⟨h', v, ev_of_cBodyS shT (hno _ _) Tryz.func102 rfl (by kernel_rfl) q, a, b⟩
theorem free_ends {s : List Ag} {f : Int} {V : List Wr} (g : Good s ⟨[], f, V⟩) : ∀ p ∈ ends V, p.1 < 0 := by
  intro p hp
  have hp := isPort_iff.1 (g.ip p hp)
  unfold portsL at hp
  rw [show cellsPorts s [] 0 = [] from rfl, List.append_nil] at hp
  have := (mem_free.1 hp).1
  omega
def hSa (call : CallT) : Prop := ∀ (F : List Sk.Id) (h0 h : AH) (R : List HE) (x c c' w w' : AV) (s : List Ag) (f : Int) (V W : List Wr), (IsSig x s) → (IsL c []) → (IsL c' []) → (IsL w (V.map wireV)) → (IsL w' (W.map wireV)) → ((netChk s ⟨[], f, V⟩).1 = 0) → ((netChk s ⟨[], f, W⟩).1 = 0) → (V.length ≤ 30000) → (W.length ≤ 30000) → (∀ a ∈ V, linksOf W (wA a) = some (wB a)) → (Hb F h0 h R) → ∃ h' ti, call (.func 76) [x, .agg [c, .int .i64 f, w], .agg [c', .int .i64 f, w']] h = some (.ret (.tup [.hsl ti 0 0 (.known 0), .bool true, .int .i64 0]), h') ∧ Hb F h0 h' R
set_option maxHeartbeats 4000000 in
theorem bSa (call rgn n) (F : List Sk.Id) (h0 h : AH) (R : List HE) (x c c' w w' : AV) (s : List Ag) (f : Int) (V W : List Wr) (hx : IsSig x s) (hc : IsL c []) (hc' : IsL c' []) (hw : IsL w (V.map wireV)) (hw' : IsL w' (W.map wireV)) (ok : (netChk s ⟨[], f, V⟩).1 = 0) (ok' : (netChk s ⟨[], f, W⟩).1 = 0) (hV : V.length ≤ 30000) (hW : W.length ≤ 30000) (hln : ∀ a ∈ V, linksOf W (wA a) = some (wB a)) (H : Hb F h0 h R) (dSf : hSf call) (dOr : hOr call) (dMp : hMp call) (hrg : ∀ id ops st, rgn id ops st = drawn ⟨Tryz.prog, mu0, call⟩ 76 ops st) (hfu : 43000 ≤ n) : ∃ h' ti, B shT call rgn n 76 Tryz.f76 [x, .agg [c, .int .i64 f, w], .agg [c', .int .i64 f, w']] h = some (.ret (.tup [.hsl ti 0 0 (.known 0), .bool true, .int .i64 0]), h') ∧ Hb F h0 h' R := by
  suffices hq : ∀ Q : Option (AOut × AH) → Prop, ¬ Q none → (∀ h' ti, Hb F h0 h' R → Q (some (.ret (.tup [.hsl ti 0 0 (.known 0), .bool true, .int .i64 0]), h'))) → Q (B shT call rgn n 76 Tryz.f76 [x, .agg [c, .int .i64 f, w], .agg [c', .int .i64 f, w']] h) from hq (fun y => ∃ h' ti, y = some (.ret (.tup [.hsl ti 0 0 (.known 0), .bool true, .int .i64 0]), h') ∧ Hb F h0 h' R) (by rintro ⟨_, _, h_, _⟩; cases h_) (fun h' ti p_ => ⟨h', ti, rfl, p_⟩)
  intro Q hnone hQ
  have sc : c.scalar = true := isL_scalar hc
  have sc' : c'.scalar = true := isL_scalar hc'
  have sw1 : w.scalar = true := isL_scalar hw
  have sw2 : w'.scalar = true := isL_scalar hw'
  refine H.xB (hs := by simp only [List.all_cons, sc, sw1]; rfl) fun i4 h H => ?_
  refine H.xB (hs := by simp only [List.all_cons, sc', sw2]; rfl) fun i5 h H => ?_
  refine H.xM 3 ?_
  refine H.xM 3 ?_
  obtain ⟨h1, q1, H1⟩ := dSf F h0 h _ x c w c' w' s ⟨[], f, V⟩ ⟨[], f, W⟩ hx hc hw hc' hw' ok ok' hV hW H
  clear H
  refine sC q1 ?_
  refine H1.xL ?_
  refine H1.xL ?_
  conv => arg 1; whnf
  rw [show (f != f) = false by simp]
  refine H1.xL ?_
  refine sN hc ?_
  refine H1.xL ?_
  refine sN hc' ?_
  refine H1.xM 3 ?_
  obtain ⟨h2, v1, q2, hv1, H2⟩ := dOr F h0 _ _ x c w s ⟨[], f, V⟩ hx hc hw ok hV rfl H1
  clear H1
  refine sC q2 ?_
  have hv1' := hv1
  rcases hv1 with ⟨rfl, _⟩ | ⟨k1, rfl⟩
  all_goals
    refine H2.xM 3 ?_
    obtain ⟨h3, v2, q3, hv2, H3⟩ := dOr F h0 _ _ x c' w' s ⟨[], f, W⟩ hx hc' hw' ok' hW rfl H2
    clear H2
    refine sC q3 ?_
    rcases hv2 with ⟨rfl, _⟩ | ⟨k2, rfl⟩
    all_goals
      refine sN hv1' ?_
      refine H3.xZ 3 (.int .i64 0) 0 (by omega) (fun ti h H => ?_) (ha := rfl)
      refine sN hv1' ?_
      obtain ⟨k, rfl⟩ : ∃ k, n = k + 1 := ⟨n - 1, by omega⟩
      conv => arg 1; whnf
      rw [cIter_succ]
      refine H.xM 3 ?_
      refine H.xM 3 ?_
      obtain ⟨h4, q4, H4⟩ := dMp F h0 _ _ c c' w w' f ti V W hc hc' hw hw' hV hW (free_ends (good_of ok)) hln H
      refine sC q4 ?_
      conv => arg 1; whnf
      exact atLeave_P (leave_plain (.inl rfl) rfl) (hQ _ _ H4.tail.tail.tail)
theorem hSa_of {hk : Hooks} {n : Nat} (hno : ∀ args h, hk 76 args h = none) (dSf : ∀ n, 43000 - 1 < n → hSf (evCall (mkEv Tryz.prog mu0 hk) n)) (dOr : ∀ n, 43000 - 1 < n → hOr (evCall (mkEv Tryz.prog mu0 hk) n)) (dMp : ∀ n, 43000 - 1 < n → hMp (evCall (mkEv Tryz.prog mu0 hk) n)) (hn : 43000 < n) : hSa (evCall (mkEv Tryz.prog mu0 hk) n) := by
  intro F h0 h R x c c' w w' s f V W hx hc hc' hw hw' ok ok' hV hW hln H
  obtain ⟨n, rfl⟩ : ∃ m, n = m + 1 := ⟨n - 1, by omega⟩
  obtain ⟨h', ti, a_, b_⟩ := bSa (evCall (mkEv Tryz.prog mu0 hk) n) (rg Tryz.prog mu0 hk n 76) n (F := F) (h0 := h0) (h := h) (R := R) (x := x) (c := c) (c' := c') (w := w) (w' := w') (s := s) (f := f) (V := V) (W := W) hx hc hc' hw hw' ok ok' hV hW hln H (dSf n (by omega)) (dOr n (by omega)) (dMp n (by omega)) (fun _ _ _ => rfl) (by omega)
  exact ⟨h', ti, ev_of_cBodyS shT (hno _ _) Tryz.func76 rfl (by kernel_rfl) a_, b_⟩
def FairOK (s : List Ag) (r : Rl) : Prop := r.a ≠ r.b ∨ (r.right.cells = [] ∧ ∀ w ∈ r.right.wires, linksOf (tidyN s (turnN s r)).wires (wA w) = some (wB w))
def plFa6 : Plan := ⟨[0, 1, 2, 3, 4, 5, 6, 7, 8, 9, 10, 11, 12, 13, 14], [0, 0, 2, 0, 0, 24, 56, 127, 255, 511, 511, 511, 1023, 6143, 16383]⟩
def hFa (call : CallT) : Prop := ∀ (F : List Sk.Id) (h0 h : AH) (R : List HE) (x c w : AV) (s : List Ag) (r : Rl), (IsSig x s) → (RuleOK s r) → (FairOK s r) → (r.right.wires.length ≤ 30000) → (IsL c (r.right.cells.map intV)) → (IsL w (r.right.wires.map wireV)) → (Hb F h0 h R) → ∃ h', call (.func 49) [x, .agg [.int .i64 r.a, .int .i64 r.b, c, .int .i64 r.right.free, w]] h = some (.ret (.tup [.bool true, .int .i64 0]), h') ∧ Hb F h0 h' R
set_option maxHeartbeats 4000000 in
theorem bFa (call rgn n) (F : List Sk.Id) (h0 h : AH) (R : List HE) (x c w : AV) (s : List Ag) (r : Rl) (hx : IsSig x s) (ok : RuleOK s r) (fo : FairOK s r) (hl : r.right.wires.length ≤ 30000) (hc : IsL c (r.right.cells.map intV)) (hw : IsL w (r.right.wires.map wireV)) (H : Hb F h0 h R) (d12 : h12 call) (dTo : hTo call) (dSa : hSa call) (hrg : ∀ id ops st, rgn id ops st = drawn ⟨Tryz.prog, mu0, call⟩ 49 ops st) (hfu : 43001 ≤ n) : ∃ h', B shT call rgn n 49 Tryz.f49 [x, .agg [.int .i64 r.a, .int .i64 r.b, c, .int .i64 r.right.free, w]] h = some (.ret (.tup [.bool true, .int .i64 0]), h') ∧ Hb F h0 h' R := by
  suffices hq : ∀ Q : Option (AOut × AH) → Prop, ¬ Q none → (∀ h', Hb F h0 h' R → Q (some (.ret (.tup [.bool true, .int .i64 0]), h'))) → Q (B shT call rgn n 49 Tryz.f49 [x, .agg [.int .i64 r.a, .int .i64 r.b, c, .int .i64 r.right.free, w]] h) from hq (fun y => ∃ h', y = some (.ret (.tup [.bool true, .int .i64 0]), h') ∧ Hb F h0 h' R) (by rintro ⟨_, h_, _⟩; cases h_) (fun h' p_ => ⟨h', rfl, p_⟩)
  intro Q hnone hQ
  have sc : c.scalar = true := isL_scalar hc
  have sw_ : w.scalar = true := isL_scalar hw
  have hs : [AV.int .i64 r.a, .int .i64 r.b, c, .int .i64 r.right.free, w].all AV.scalar = true := by simp only [List.all_cons, sc, sw_]; rfl
  have q := fun h => d12 x _ s r h hx ⟨c, w, rfl, hc, hw⟩ (by omega)
  rw [ok.chk] at q
  refine H.xB (hs := hs) fun i3 h H => ?_
  refine H.xM 5 ?_
  refine sC (q _) ?_
  refine H.xL ?_
  refine H.xL ?_
  conv => arg 1; whnf
  cases e : (r.a != r.b)
  rotate_left
  · conv => arg 1; whnf
    exact atLeave_P (leave_plain (.inl rfl) rfl) (hQ _ H.tail)
  obtain ⟨hcn, hln⟩ : r.right.cells = [] ∧ ∀ w ∈ r.right.wires, linksOf (tidyN s (turnN s r)).wires (wA w) = some (wB w) := by
    rcases fo with h | h
    · exact absurd (by simpa using e) h
    · exact h
  have gt := good_turn ok.1 ok.2.2.2.2.2.2
  have gt2 := gt.tidy.1
  have et : tidyN s (turnN s r) = ⟨[], r.right.free, (tidyN s (turnN s r)).wires⟩ := by
    show Nt.mk r.right.cells _ _ = _
    rw [hcn]; rfl
  have hl2 : (tidyN s (turnN s r)).wires.length ≤ 30000 := tidy_len gt
  have sw2 : (wiresW (tidyN s (turnN s r)).wires).scalar = true := isL_scalar (wiresW_isL _)
  have hc2 := hc
  rw [hcn] at hc2
  have ok1 : (netChk s ⟨[], r.right.free, r.right.wires⟩).1 = 0 := by
    have := ok.1.chk
    rw [show r.right = ⟨[], r.right.free, r.right.wires⟩ by rw [← hcn]] at this
    rw [this]
  have ok2 : (netChk s ⟨[], r.right.free, (tidyN s (turnN s r)).wires⟩).1 = 0 := by rw [← et, gt2.chk]
  conv => arg 1; whnf
  refine xR plFa6 hnone hrg ?_
  refine H.xM 3 ?_
  refine H.xM 5 ?_
  obtain ⟨h1, q1, H1⟩ := dTo F h0 h _ x c w s r hx ok hl hc hw H
  rw [ruleW_eq] at q1
  refine sC q1 ?_
  obtain ⟨h2, ti, q2, H2⟩ := dSa F h0 h1 _ x c (.vsl ([] : List AV) .unk) w _ s r.right.free r.right.wires _ hx hc2 (.inr ⟨_, rfl⟩) hw (wiresW_isL (tidyN s (turnN s r)).wires) ok1 ok2 hl hl2 hln H1
  have q3 : call (.func 76) [x, .agg [c, .int .i64 r.right.free, w], .agg [.vsl ((overN s r).right.cells.map intV) .unk, .int .i64 (overN s r).right.free, wiresW (overN s r).right.wires]] h1 = some (.ret (.tup [.hsl ti 0 0 (.known 0), .bool true, .int .i64 0]), h2) := by
    rw [show (overN s r).right = ⟨[], r.right.free, (tidyN s (turnN s r)).wires⟩ from et]; exact q2
  refine sC q3 ?_
  refine xO ?_
  conv => arg 1; whnf
  exact atLeave_P (leave_plain (.inl rfl) rfl) (hQ _ H2.tail)
theorem hFa_of {hk : Hooks} {n : Nat} (hno : ∀ args h, hk 49 args h = none) (d12 : ∀ n, 43001 - 1 < n → h12 (evCall (mkEv Tryz.prog mu0 hk) n)) (dTo : ∀ n, 43001 - 1 < n → hTo (evCall (mkEv Tryz.prog mu0 hk) n)) (dSa : ∀ n, 43001 - 1 < n → hSa (evCall (mkEv Tryz.prog mu0 hk) n)) (hn : 43001 < n) : hFa (evCall (mkEv Tryz.prog mu0 hk) n) := by
  intro F h0 h R x c w s r hx ok fo hl hc hw H
  obtain ⟨n, rfl⟩ : ∃ m, n = m + 1 := ⟨n - 1, by omega⟩
  obtain ⟨h', a_, b_⟩ := bFa (evCall (mkEv Tryz.prog mu0 hk) n) (rg Tryz.prog mu0 hk n 49) n (F := F) (h0 := h0) (h := h) (R := R) (x := x) (c := c) (w := w) (s := s) (r := r) hx ok fo hl hc hw H (d12 n (by omega)) (dTo n (by omega)) (dSa n (by omega)) (fun _ _ _ => rfl) (by omega)
  exact ⟨h', ev_of_cBodyS shT (hno _ _) Tryz.func49 rfl (by kernel_rfl) a_, b_⟩
abbrev MEs := List (AV × AV × Nat)
abbrev KM := Int × Int → Option AV
theorem keyK : KeyOK keyV 100 where
  eq := fun p q => by
    obtain ⟨b, c⟩ := p
    obtain ⟨e, f⟩ := q
    have h2 : aEq Tryz.prog 100 (keyV (b, c)) (keyV (e, f)) = (match aEqIn Tryz.prog 9999 3 (.int .i64 b) (.int .i64 e) with
      | some true => (match aEqIn Tryz.prog 9999 3 (.int .i64 c) (.int .i64 f) with | some true => some true | some false => some false | none => none)
      | some false => some false
      | none => none) := by kernel_rfl
    rw [h2, eqIn_int (d := 9998) (k := .i64) (by kernel_rfl), eqIn_int (d := 9998) (k := .i64) (by kernel_rfl)]
    have : decide ((b, c) = (e, f)) = (b == e && c == f) := by
      rw [Bool.eq_iff_iff]; simp
    rw [this]
    cases b == e <;> cases c == f <;> rfl
  ok := fun p => by obtain ⟨b, c⟩ := p; kernel_rfl
  beq := fun p => by obtain ⟨b, c⟩ := p; simp [plainBeq, keyV, plainCellsEq, plainCellEq]
def plBa3 : Plan := ⟨[0, 1, 2, 3, 4, 5, 6, 7, 8, 9, 10], [0, 1, 3, 7, 0, 31, 63, 127, 127, 255, 1023]⟩
def plBa6 : Plan := ⟨[0, 1, 2, 3, 4, 5, 6, 7, 8, 9, 10], [0, 1, 3, 7, 0, 31, 63, 127, 127, 255, 1023]⟩
def plBa9 : Plan := ⟨[0, 1, 2, 3, 4, 5, 6, 7, 8, 9, 10, 11], [0, 1, 3, 7, 15, 0, 32, 0, 128, 480, 1023, 2047]⟩
def plBa11 : Plan := ⟨[0, 1, 2, 3, 4, 5, 6, 7, 8, 9, 10, 11], [0, 1, 3, 7, 0, 16, 63, 127, 255, 255, 511, 1535]⟩
def plBa12 : Plan := ⟨[0, 1, 2, 3, 4, 5, 6, 7, 8, 9, 10, 11, 12], [0, 0, 2, 6, 14, 30, 0, 64, 254, 511, 1023, 2047, 4095]⟩
def plBa13 : Plan := ⟨[0, 1, 2, 3, 4, 5, 6, 7, 8, 10, 11, 12, 13, 14, 15, 9, 16], [0, 1, 3, 7, 15, 0, 32, 0, 128, 480, 0, 1024, 3072, 7168, 15360, 31744, 65535]⟩
theorem sigChk_ok {s : List Ag} (h0 : (sigChk s).1 = 0) : sigChk s = (0, 0) := by
  have : ∀ (all r : List Ag) (i : Nat), (sigF all r i).1 = 0 → sigF all r i = (0, 0) := by
    intro all r
    induction r with
    | nil => intro i _; rfl
    | cons a r ih =>
      intro i h
      simp only [sigF] at h ⊢
      split at h
      · simp at h
      · rename_i c1
        rw [if_neg c1]
        split at h
        · simp at h
        · rename_i c2
          rw [if_neg c2]
          split at h
          · simp at h
          · rename_i c3
            rw [if_neg c3]
            exact ih _ h
  unfold sigChk at h0 ⊢
  split at h0
  · simp at h0
  · rename_i c1
    rw [if_neg c1]
    split at h0
    · simp at h0
    · rename_i c2
      rw [if_neg c2]
      exact this _ _ _ h0
def BkE (bk m : Sk.Id) (lv : AV) (s : List Ag) (c : Cap) (es : MEs) (cl : Nat) (G : List HE) : List HE :=
  ⟨bk, .cells [lv, .map m, .vsl (s.map agV) c] 71, true⟩ :: ⟨m, .map es cl, true⟩ :: G
def hBw (call : CallT) : Prop := ∀ (F : List Sk.Id) (h0 h : AH) (R : List HE) (x : AV) (s : List Ag), (IsSig x s) → ((sigChk s).1 = 0) → (s.length ≤ 1000000) → (Hb F h0 h R) → ∃ h' bk m c, call (.func 24) [x] h = some (.ret (.tup [.ptr bk 0, .int .i64 0]), h') ∧ Hb F h0 h' (BkE bk m .nilsl s c [] 0 [] ++ R)
theorem bBw (call rgn n) (F : List Sk.Id) (h0 h : AH) (R : List HE) (x : AV) (s : List Ag) (hx : IsSig x s) (ok : (sigChk s).1 = 0) (hl : s.length ≤ 1000000) (H : Hb F h0 h R) (d14 : h14 call) (dKa : hKa call) (hrg : ∀ id ops st, rgn id ops st = drawn ⟨Tryz.prog, mu0, call⟩ 24 ops st) (hfu : 5 ≤ n) : ∃ h' bk m c, B shT call rgn n 24 Tryz.f24 [x] h = some (.ret (.tup [.ptr bk 0, .int .i64 0]), h') ∧ Hb F h0 h' (BkE bk m .nilsl s c [] 0 [] ++ R) := by
  suffices hq : ∀ Q : Option (AOut × AH) → Prop, ¬ Q none → (∀ h' bk m c, Hb F h0 h' (BkE bk m .nilsl s c [] 0 [] ++ R) → Q (some (.ret (.tup [.ptr bk 0, .int .i64 0]), h'))) → Q (B shT call rgn n 24 Tryz.f24 [x] h) from hq (fun y => ∃ h' bk m c, y = some (.ret (.tup [.ptr bk 0, .int .i64 0]), h') ∧ Hb F h0 h' (BkE bk m .nilsl s c [] 0 [] ++ R)) (by rintro ⟨_, _, _, _, h_, _⟩; cases h_) (fun h' bk m c p_ => ⟨h', bk, m, c, rfl, p_⟩)
  intro Q hnone hQ
  have q := fun h => d14 x s h hx
  rw [show sigChk s = (0, 0) from sigChk_ok ok] at q
  have hne : s ≠ [] := by rintro rfl; exact absurd ok (by decide)
  rcases hx with ⟨_, e⟩ | ⟨c, rfl⟩
  · exact absurd (by simpa using e) hne
  refine sC (q h) ?_
  have H1 := H.new (.map [] 0)
  conv => arg 1; whnf
  generalize h.next = m at H1 ⊢
  generalize h.alloc (.map [] 0) = h1 at H1 ⊢
  obtain ⟨h2, d, q2, H2⟩ := dKa F h0 h1 _ s c hne hl H1
  refine sC q2 ?_
  refine H2.xB fun bk h H => ?_
  conv => arg 1; whnf
  exact atLeave_P (leave_plain (.inl rfl) rfl) (hQ _ _ _ _ H)
theorem hBw_of {hk : Hooks} {n : Nat} (hno : ∀ args h, hk 24 args h = none) (d14 : ∀ n, 5 - 1 < n → h14 (evCall (mkEv Tryz.prog mu0 hk) n)) (dKa : ∀ n, 5 - 1 < n → hKa (evCall (mkEv Tryz.prog mu0 hk) n)) (hn : 5 < n) : hBw (evCall (mkEv Tryz.prog mu0 hk) n) := by
  intro F h0 h R x s hx ok hl H
  obtain ⟨n, rfl⟩ : ∃ m, n = m + 1 := ⟨n - 1, by omega⟩
  obtain ⟨h', bk, m, c, a_, b_⟩ := bBw (evCall (mkEv Tryz.prog mu0 hk) n) (rg Tryz.prog mu0 hk n 24) n (F := F) (h0 := h0) (h := h) (R := R) (x := x) (s := s) hx ok hl H (d14 n (by omega)) (dKa n (by omega)) (fun _ _ _ => rfl) (by omega)
  exact ⟨h', bk, m, c, ev_of_cBodyS shT (hno _ _) Tryz.func24 rfl (by kernel_rfl) a_, b_⟩
def hBa (call : CallT) : Prop := ∀ (F : List Sk.Id) (h0 h : AH) (R : List HE) (bk m : Sk.Id) (lv : AV) (s : List Ag) (cc : Cap) (es : MEs) (cl : Nat) (G : List HE) (M : KM) (L : List Rl) (c w : AV) (r : Rl), (IsMap keyV es cl M) → (Growing lv (L.map ruleW) G) → (M (keyN r) = none) → (L.length ≤ 1000000) → (RuleOK s r) → (FairOK s r) → (r.right.wires.length ≤ 30000) → (IsL c (r.right.cells.map intV)) → (IsL w (r.right.wires.map wireV)) → (Hb F h0 h (BkE bk m lv s cc es cl G ++ R)) → ∃ h' lv' es' cl' G', call (.func 28) [.ptr bk 0, .agg [.int .i64 r.a, .int .i64 r.b, c, .int .i64 r.right.free, w]] h = some (.ret (.int .i64 0), h') ∧ IsMap keyV es' cl' (updG M (keyN r) (.int .i64 ((L.length + 1 : Nat) : Int))) ∧ Growing lv' ((L ++ [tidyR s r]).map ruleW) G' ∧ Hb F h0 h' (BkE bk m lv' s cc es' cl' G' ++ R)
set_option maxHeartbeats 4000000 in
theorem bBa (call rgn n) (F : List Sk.Id) (h0 h : AH) (R : List HE) (bk m : Sk.Id) (lv : AV) (s : List Ag) (cc : Cap) (es : MEs) (cl : Nat) (G : List HE) (M : KM) (L : List Rl) (c w : AV) (r : Rl) (hM : IsMap keyV es cl M) (hG : Growing lv (L.map ruleW) G) (hkn : M (keyN r) = none) (hL : L.length ≤ 1000000) (ok : RuleOK s r) (fo : FairOK s r) (hl : r.right.wires.length ≤ 30000) (hc : IsL c (r.right.cells.map intV)) (hw : IsL w (r.right.wires.map wireV)) (H : Hb F h0 h (BkE bk m lv s cc es cl G ++ R)) (d12 : h12 call) (d13 : h13 call) (dBn : hBn call) (dFa : hFa call) (dBk : hBk call) (hrg : ∀ id ops st, rgn id ops st = drawn ⟨Tryz.prog, mu0, call⟩ 28 ops st) (hfu : 44000 ≤ n) : ∃ h' lv' es' cl' G', B shT call rgn n 28 Tryz.f28 [.ptr bk 0, .agg [.int .i64 r.a, .int .i64 r.b, c, .int .i64 r.right.free, w]] h = some (.ret (.int .i64 0), h') ∧ IsMap keyV es' cl' (updG M (keyN r) (.int .i64 ((L.length + 1 : Nat) : Int))) ∧ Growing lv' ((L ++ [tidyR s r]).map ruleW) G' ∧ Hb F h0 h' (BkE bk m lv' s cc es' cl' G' ++ R) := by
  suffices hq : ∀ Q : Option (AOut × AH) → Prop, ¬ Q none → (∀ h' lv' es' cl' G', IsMap keyV es' cl' (updG M (keyN r) (.int .i64 ((L.length + 1 : Nat) : Int))) ∧ Growing lv' ((L ++ [tidyR s r]).map ruleW) G' ∧ Hb F h0 h' (BkE bk m lv' s cc es' cl' G' ++ R) → Q (some (.ret (.int .i64 0), h'))) → Q (B shT call rgn n 28 Tryz.f28 [.ptr bk 0, .agg [.int .i64 r.a, .int .i64 r.b, c, .int .i64 r.right.free, w]] h) from hq (fun y => ∃ h' lv' es' cl' G', y = some (.ret (.int .i64 0), h') ∧ IsMap keyV es' cl' (updG M (keyN r) (.int .i64 ((L.length + 1 : Nat) : Int))) ∧ Growing lv' ((L ++ [tidyR s r]).map ruleW) G' ∧ Hb F h0 h' (BkE bk m lv' s cc es' cl' G' ++ R)) (by rintro ⟨_, _, _, _, _, h_, _⟩; cases h_) (fun h' lv' es' cl' G' p_ => ⟨h', lv', es', cl', G', rfl, p_⟩)
  intro Q hnone hQ
  have sc : c.scalar = true := isL_scalar hc
  have sw_ : w.scalar = true := isL_scalar hw
  have hs : [AV.int .i64 r.a, .int .i64 r.b, c, .int .i64 r.right.free, w].all AV.scalar = true := by simp only [List.all_cons, sc, sw_]; rfl
  have hx : IsSig (.vsl (s.map agV) cc) s := .inr ⟨_, rfl⟩
  have q12 := fun h => d12 _ _ s r h hx ⟨c, w, rfl, hc, hw⟩ (by omega)
  rw [ok.chk] at q12
  have q13 := fun h => d13 _ _ s r.right h hx ⟨c, w, rfl, hc, hw⟩ (by omega)
  have q14 : tidyV s r.right = .tup [netW (tidyN s r.right), .int .i64 0] := by unfold tidyV; rw [ok.1.chk, if_pos rfl]
  rw [q14, netW_eq] at q13
  have sw2 : (wiresW (tidyN s r.right).wires).scalar = true := isL_scalar (wiresW_isL _)
  have bn := dBn F h0
  simp only [BkE, List.cons_append, List.nil_append] at H hQ
  refine H.xB (hs := hs) fun i3 h H => ?_
  refine sC (dBn F h0 _ _ bk _ _ _ cc (H.pu bk)) ?_
  conv => arg 1; whnf
  refine xR plBa3 hnone hrg ?_
  refine H.xL ?_
  refine H.xM 5 ?_
  refine sC (q12 _) ?_
  refine xO ?_
  conv => arg 1; whnf
  refine xR plBa6 hnone hrg ?_
  refine H.xL ?_
  refine H.xM 5 ?_
  obtain ⟨h1, q1, H1⟩ := dFa F h0 _ _ _ c w s r hx ok fo hl hc hw H
  refine sC q1 ?_
  refine xO ?_
  have H := H1
  clear H1
  conv => arg 1; whnf
  refine xR plBa9 hnone hrg ?_
  refine H.xL ?_
  refine H.xL ?_
  refine H.xL ?_
  obtain ⟨h2, q2, H2⟩ := dBk F h0 _ _ r.a r.b H
  refine sC q2 ?_
  refine H2.xK hM keyK (keyN r) (.int .i64 0) ?_
  have hlk := lkE H2 hM keyK (keyN r) (t := 67) (z := .int .i64 0)
  rw [hkn] at hlk ⊢
  refine xO ?_
  have H := H2
  clear H2 q2
  conv => arg 1; whnf
  refine xR plBa11 hnone hrg ?_
  refine H.xL ?_
  refine H.xM 3 ?_
  refine sC (q13 _) ?_
  refine H.xJ (hs := by simp only [AV.cells, List.all_cons, sw2]; rfl) fun h1 H1 => ?_
  refine xO ?_
  have H := H1
  clear H1
  conv => arg 1; whnf
  have hl0 : ((L.map ruleW).length : Int) = L.length := by rw [List.length_map]
  refine xR plBa12 hnone hrg ?_
  refine H.xL ?_
  refine H.xM 5 ?_
  conv => arg 1; whnf
  rw [evBuildS (v := .vsl [ruleW (tidyR s r)] .lit) ?o1 ?o2 ?o3]
  case o1 => rfl
  case o2 => rfl
  case o3 =>
    have hwl := wiresW_isL (tidyN s r.right).wires
    unfold ruleW tidyR
    dsimp only
    generalize wiresW (tidyN s r.right).wires = ww at hwl ⊢
    rcases hwl with ⟨rfl, _⟩ | ⟨_, rfl⟩ <;> rfl
  refine H.xG hG (tidyR s r) (by omega) fun lv2 h2 G2 hG2 H2 => ?_
  refine H2.xV hG2.cells hG2.scalar fun h3 H3 => ?_
  refine xO ?_
  have H := H3
  clear H2 H3
  conv => arg 1; whnf
  have hil := hG2.il
  refine xR plBa13 hnone hrg ?_
  refine H.xL ?_
  refine H.xL ?_
  refine H.xL ?_
  refine H.xL ?_
  refine sN hil ?_
  obtain ⟨h4, q4, H4⟩ := dBk F h0 _ _ r.a r.b H
  refine sC q4 ?_
  refine H4.xU hM keyK (keyN r) (v := .int .i64 ((L ++ [tidyR s r]).map ruleW).length) fun h5 es5 cl5 hM5 H5 => ?_
  refine xO ?_
  conv => arg 1; whnf
  rw [List.length_map, List.length_append] at hM5
  exact atLeave_P (leave_plain (.inl rfl) rfl) (hQ _ _ _ _ _ ⟨hM5, hG2, H5.tail⟩)
theorem hBa_of {hk : Hooks} {n : Nat} (hno : ∀ args h, hk 28 args h = none) (d12 : ∀ n, 44000 - 1 < n → h12 (evCall (mkEv Tryz.prog mu0 hk) n)) (d13 : ∀ n, 44000 - 1 < n → h13 (evCall (mkEv Tryz.prog mu0 hk) n)) (dBn : ∀ n, 44000 - 1 < n → hBn (evCall (mkEv Tryz.prog mu0 hk) n)) (dFa : ∀ n, 44000 - 1 < n → hFa (evCall (mkEv Tryz.prog mu0 hk) n)) (dBk : ∀ n, 44000 - 1 < n → hBk (evCall (mkEv Tryz.prog mu0 hk) n)) (hn : 44000 < n) : hBa (evCall (mkEv Tryz.prog mu0 hk) n) := by
  intro F h0 h R bk m lv s cc es cl G M L c w r hM hG hkn hL ok fo hl hc hw H
  obtain ⟨n, rfl⟩ : ∃ m, n = m + 1 := ⟨n - 1, by omega⟩
  obtain ⟨h', lv', es', cl', G', a_, b_⟩ := bBa (evCall (mkEv Tryz.prog mu0 hk) n) (rg Tryz.prog mu0 hk n 28) n (F := F) (h0 := h0) (h := h) (R := R) (bk := bk) (m := m) (lv := lv) (s := s) (cc := cc) (es := es) (cl := cl) (G := G) (M := M) (L := L) (c := c) (w := w) (r := r) hM hG hkn hL ok fo hl hc hw H (d12 n (by omega)) (d13 n (by omega)) (dBn n (by omega)) (dFa n (by omega)) (dBk n (by omega)) (fun _ _ _ => rfl) (by omega)
  exact ⟨h', lv', es', cl', G', ev_of_cBodyS shT (hno _ _) Tryz.func28 rfl (by kernel_rfl) a_, b_⟩
def hBs (call : CallT) : Prop := ∀ (F : List Sk.Id) (h0 h : AH) (R : List HE) (bk : Sk.Id) (lv mv : AV) (s : List Ag) (c : Cap), (s ≠ []) → (s.length ≤ 1000000) → (Hb F h0 h (⟨bk, .cells [lv, mv, .vsl (s.map agV) c] 71, true⟩ :: R)) → ∃ h' d, call (.func 12) [.ptr bk 0] h = some (.ret (.vsl (s.map agV) d), h') ∧ Hb F h0 h' (⟨bk, .cells [lv, mv, .vsl (s.map agV) c] 71, true⟩ :: R)
theorem bBs (call rgn n) (F : List Sk.Id) (h0 h : AH) (R : List HE) (bk : Sk.Id) (lv mv : AV) (s : List Ag) (c : Cap) (hne : s ≠ []) (hl : s.length ≤ 1000000) (H : Hb F h0 h (⟨bk, .cells [lv, mv, .vsl (s.map agV) c] 71, true⟩ :: R)) (dBn : hBn call) (dKa : hKa call) (hrg : ∀ id ops st, rgn id ops st = drawn ⟨Tryz.prog, mu0, call⟩ 12 ops st) (hfu : 5 ≤ n) : ∃ h' d, B shT call rgn n 12 Tryz.f12 [.ptr bk 0] h = some (.ret (.vsl (s.map agV) d), h') ∧ Hb F h0 h' (⟨bk, .cells [lv, mv, .vsl (s.map agV) c] 71, true⟩ :: R) := by
  suffices hq : ∀ Q : Option (AOut × AH) → Prop, ¬ Q none → (∀ h' d, Hb F h0 h' (⟨bk, .cells [lv, mv, .vsl (s.map agV) c] 71, true⟩ :: R) → Q (some (.ret (.vsl (s.map agV) d), h'))) → Q (B shT call rgn n 12 Tryz.f12 [.ptr bk 0] h) from hq (fun y => ∃ h' d, y = some (.ret (.vsl (s.map agV) d), h') ∧ Hb F h0 h' (⟨bk, .cells [lv, mv, .vsl (s.map agV) c] 71, true⟩ :: R)) (by rintro ⟨_, _, h_, _⟩; cases h_) (fun h' d p_ => ⟨h', d, rfl, p_⟩)
  intro Q hnone hQ
  refine sC (dBn F h0 _ _ bk _ _ _ c H) ?_
  refine H.xL ?_
  obtain ⟨h1, d, q1, H1⟩ := dKa F h0 h _ s c hne hl H
  refine sC q1 ?_
  conv => arg 1; whnf
  exact atLeave_P (leave_plain (.inl rfl) rfl) (hQ _ _ H1)
theorem hBs_of {hk : Hooks} {n : Nat} (hno : ∀ args h, hk 12 args h = none) (dBn : ∀ n, 5 - 1 < n → hBn (evCall (mkEv Tryz.prog mu0 hk) n)) (dKa : ∀ n, 5 - 1 < n → hKa (evCall (mkEv Tryz.prog mu0 hk) n)) (hn : 5 < n) : hBs (evCall (mkEv Tryz.prog mu0 hk) n) := by
  intro F h0 h R bk lv mv s c hne hl H
  obtain ⟨n, rfl⟩ : ∃ m, n = m + 1 := ⟨n - 1, by omega⟩
  obtain ⟨h', d, a_, b_⟩ := bBs (evCall (mkEv Tryz.prog mu0 hk) n) (rg Tryz.prog mu0 hk n 12) n (F := F) (h0 := h0) (h := h) (R := R) (bk := bk) (lv := lv) (mv := mv) (s := s) (c := c) hne hl H (dBn n (by omega)) (dKa n (by omega)) (fun _ _ _ => rfl) (by omega)
  exact ⟨h', d, ev_of_cBodyS shT (hno _ _) Tryz.func12 rfl (by kernel_rfl) a_, b_⟩
abbrev RVt := Rl × AV × AV
def ruV (x : RVt) : AV := .agg [.int .i64 x.1.a, .int .i64 x.1.b, x.2.1, .int .i64 x.1.right.free, x.2.2]
def fstL (bs : List RVt) : List Rl := bs.map Prod.fst
def GoodRV (x : RVt) : Prop := IsL x.2.1 (x.1.right.cells.map intV) ∧ IsL x.2.2 (x.1.right.wires.map wireV)
theorem GoodRV.rule {x : RVt} (h : GoodRV x) : IsRule (ruV x) x.1 := ⟨_, _, rfl, h.1, h.2⟩
def hBr (call : CallT) : Prop := ∀ (F : List Sk.Id) (h0 h : AH) (R : List HE) (bk m : Sk.Id) (lv : AV) (s : List Ag) (c : Cap) (L : List Rl), (IsL lv (L.map ruleW)) → (L.length ≤ 1000000) → (∀ r ∈ L, r.right.cells.length ≤ 1000000 ∧ r.right.wires.length ≤ 1000000) → (Hb F h0 h (⟨bk, .cells [lv, .map m, .vsl (s.map agV) c] 71, true⟩ :: R)) → ∃ h' v bs G, call (.func 14) [.ptr bk 0] h = some (.ret (v), h') ∧ Growing v (List.map ruV bs) G ∧ fstL bs = L ∧ (∀ x ∈ bs, GoodRV x) ∧ Hb F h0 h' (⟨bk, .cells [lv, .map m, .vsl (s.map agV) c] 71, true⟩ :: (G ++ R))
set_option maxHeartbeats 4000000 in
theorem bBr (call rgn n) (F : List Sk.Id) (h0 h : AH) (R : List HE) (bk m : Sk.Id) (lv : AV) (s : List Ag) (c : Cap) (L : List Rl) (hL : IsL lv (L.map ruleW)) (hl : L.length ≤ 1000000) (hok : ∀ r ∈ L, r.right.cells.length ≤ 1000000 ∧ r.right.wires.length ≤ 1000000) (H : Hb F h0 h (⟨bk, .cells [lv, .map m, .vsl (s.map agV) c] 71, true⟩ :: R)) (dBn : hBn call) (dBo : hBo call) (hrg : ∀ id ops st, rgn id ops st = drawn ⟨Tryz.prog, mu0, call⟩ 14 ops st) (hfu : 1000010 ≤ n) : ∃ h' v bs G, B shT call rgn n 14 Tryz.f14 [.ptr bk 0] h = some (.ret (v), h') ∧ Growing v (List.map ruV bs) G ∧ fstL bs = L ∧ (∀ x ∈ bs, GoodRV x) ∧ Hb F h0 h' (⟨bk, .cells [lv, .map m, .vsl (s.map agV) c] 71, true⟩ :: (G ++ R)) := by
  suffices hq : ∀ Q : Option (AOut × AH) → Prop, ¬ Q none → (∀ h' v bs G, Growing v (List.map ruV bs) G ∧ fstL bs = L ∧ (∀ x ∈ bs, GoodRV x) ∧ Hb F h0 h' (⟨bk, .cells [lv, .map m, .vsl (s.map agV) c] 71, true⟩ :: (G ++ R)) → Q (some (.ret (v), h'))) → Q (B shT call rgn n 14 Tryz.f14 [.ptr bk 0] h) from hq (fun y => ∃ h' v bs G, y = some (.ret (v), h') ∧ Growing v (List.map ruV bs) G ∧ fstL bs = L ∧ (∀ x ∈ bs, GoodRV x) ∧ Hb F h0 h' (⟨bk, .cells [lv, .map m, .vsl (s.map agV) c] 71, true⟩ :: (G ++ R))) (by rintro ⟨_, _, _, _, h_, _⟩; cases h_) (fun h' v bs G p_ => ⟨h', v, bs, G, rfl, p_⟩)
  intro Q hnone hQ
  refine sC (dBn F h0 _ _ bk _ _ _ c H) ?_
  refine H.xL ?_
  refine sN hL ?_
  rw [List.length_map]
  refine rounds (fun (i : Nat) tm h => tm.length = 25 ∧ tm[12]? = some lv ∧ tm[13]? = some (.int .i64 L.length) ∧ tm[14]? = some (.int .i64 i) ∧ i ≤ L.length ∧
    ∃ v bs G, tm[3]? = some v ∧ Growing v (List.map ruV bs) G ∧ fstL bs = L.take i ∧ (∀ x ∈ bs, GoodRV x) ∧ Hb F h0 h (⟨bk, .cells [lv, .map m, .vsl (s.map agV) c] 71, true⟩ :: (G ++ R))) (fun i => L.length - i) (s0 := 0) ?_ ?_ ?_
  · exact ⟨rfl, rfl, rfl, rfl, Nat.zero_le _, .nilsl, [], [], rfl, Growing.nil, rfl, by simp, H⟩
  · show L.length - 0 < n; omega
  clear H
  rintro m' i tm h ⟨hl2, t12, t13, t14, hi, v, bs, G, t3, hG, hbs, hgd, H⟩ hm ih
  iterate 25 (obtain ⟨_, tm, rfl, hl3⟩ := exL hl2; clear hl2; have hl2 := hl3; clear hl3)
  obtain rfl := List.eq_nil_of_length_eq_zero hl2
  obtain rfl := (Option.some.inj t3).symm
  obtain rfl := (Option.some.inj t12).symm
  obtain rfl := (Option.some.inj t13).symm
  obtain rfl := (Option.some.inj t14).symm
  conv => arg 1; whnf
  split
  · rename_i hd
    have hlt : i < L.length := by simp at hd; omega
    obtain ⟨r, hr⟩ : ∃ a, L[i]? = some a := ⟨_, List.getElem?_eq_getElem hlt⟩
    obtain ⟨k1, k2⟩ := hok r (List.mem_of_getElem? hr)
    have hbl : bs.length = i := by
      have := congrArg List.length hbs
      rw [fstL, List.length_map, List.length_take] at this; omega
    have swx : (wiresW r.right.wires).scalar = true := isL_scalar (wiresW_isL _)
    refine sI hL rfl (v := ruleW r) (by rw [List.getElem?_map, hr]; rfl) ?_
    refine H.xA [.int .i64 0, .int .i64 0, .nilsl, .int .i64 0, .nilsl] fun i5 h H => ?_
    refine H.xJ (v := ruleW r) (hs := by rw [ruleW_eq]; simp only [AV.cells, List.all_cons, swx]; rfl) fun h H => ?_
    refine H.xM 5 ?_
    obtain ⟨h2, c', w', q2, hc', hw', H2⟩ := dBo F h0 h _ r.a r.b r.right.free (.vsl (r.right.cells.map intV) .unk) (wiresW r.right.wires) r.right.cells r.right.wires (.inr ⟨_, rfl⟩) (wiresW_isL _) k1 k2 H
    refine sC q2 ?_
    clear H
    have hgn : GoodRV (r, c', w') := ⟨hc', hw'⟩
    have htk : fstL (bs ++ [(r, c', w')]) = L.take (i + 1) := by rw [fstL, List.map_append, show List.map Prod.fst bs = _ from hbs, List.take_add_one, hr]; rfl
    have hga : ∀ x ∈ bs ++ [(r, c', w')], GoodRV x := by
      intro x hx
      rcases List.mem_append.1 hx with hx | hx
      · exact hgd x hx
      · obtain rfl := List.mem_singleton.1 hx; exact hgn
    have H3 := H2.tail
    rcases hc' with ⟨rfl, hc'⟩ | ⟨cc, rfl⟩ <;> rcases hw' with ⟨rfl, hw'⟩ | ⟨cw, rfl⟩
    case' inl.inl => refine H3.xG hG (r, .nilsl, .nilsl) (by omega) fun v2 h G2 hG2 H => ?_
    case' inl.inr => refine H3.xG hG (r, .nilsl, .vsl (r.right.wires.map wireV) cw) (by omega) fun v2 h G2 hG2 H => ?_
    case' inr.inl => refine H3.xG hG (r, .vsl (r.right.cells.map intV) cc, .nilsl) (by omega) fun v2 h G2 hG2 H => ?_
    case' inr.inr => refine H3.xG hG (r, .vsl (r.right.cells.map intV) cc, .vsl (r.right.wires.map wireV) cw) (by omega) fun v2 h G2 hG2 H => ?_
    all_goals
      conv => arg 1; whnf
      exact ih (i + 1) _ _ ⟨rfl, rfl, rfl, sw (by omega), by omega, v2, _, G2, rfl, hG2, htk, hga, H⟩ (by omega)
  rename_i hd
  obtain rfl : i = L.length := by simp at hd; omega
  rw [List.take_length] at hbs
  conv => arg 1; whnf
  exact atLeave_P (leave_plain (.inl rfl) rfl) (hQ _ _ _ _ ⟨hG, hbs, hgd, H⟩)
theorem hBr_of {hk : Hooks} {n : Nat} (hno : ∀ args h, hk 14 args h = none) (dBn : ∀ n, 1000010 - 1 < n → hBn (evCall (mkEv Tryz.prog mu0 hk) n)) (dBo : ∀ n, 1000010 - 1 < n → hBo (evCall (mkEv Tryz.prog mu0 hk) n)) (hn : 1000010 < n) : hBr (evCall (mkEv Tryz.prog mu0 hk) n) := by
  intro F h0 h R bk m lv s c L hL hl hok H
  obtain ⟨n, rfl⟩ : ∃ m, n = m + 1 := ⟨n - 1, by omega⟩
  obtain ⟨h', v, bs, G, a_, b_⟩ := bBr (evCall (mkEv Tryz.prog mu0 hk) n) (rg Tryz.prog mu0 hk n 14) n (F := F) (h0 := h0) (h := h) (R := R) (bk := bk) (m := m) (lv := lv) (s := s) (c := c) (L := L) hL hl hok H (dBn n (by omega)) (dBo n (by omega)) (fun _ _ _ => rfl) (by omega)
  exact ⟨h', v, bs, G, ev_of_cBodyS shT (hno _ _) Tryz.func14 rfl (by kernel_rfl) a_, b_⟩
def hTe (call : CallT) : Prop := ∀ (x : AV) (s : List Ag) (h : AH), (IsSig x s) → (sigE s ≠ 0) → call (.func 10) [x] h = some (.ret (.tup [.nilptr, .int .i64 (sigE s)]), h)
theorem bTe (call rgn n) (x : AV) (s : List Ag) (h : AH) (hx : IsSig x s) (he : sigE s ≠ 0) (dTS : hTS call) (hrg : ∀ id ops st, rgn id ops st = drawn ⟨Tryz.prog, mu0, call⟩ 10 ops st) (hfu : 5 ≤ n) : B shT call rgn n 10 Tryz.f10 [x] h = some (.ret (.tup [.nilptr, .int .i64 (sigE s)]), h) := by
  suffices hq : ∀ Q : Option (AOut × AH) → Prop, ¬ Q none → (∀ v_, v_ = (.tup [.nilptr, .int .i64 (sigE s)] : AV) → Q (some (.ret v_, h))) → Q (B shT call rgn n 10 Tryz.f10 [x] h) from hq (fun y => y = some (.ret (.tup [.nilptr, .int .i64 (sigE s)]), h)) (by simp) (fun v_ e_ => by rw [e_])
  intro Q hnone hQ
  have q := fun h => dTS x s h hx
  rw [show sigXV s = .tup [.nilsl, .int .i64 (sigE s)] by unfold sigXV; rw [if_neg he]] at q
  refine sC (q _) ?_
  conv => arg 1; whnf
  rw [show (sigE s != 0) = true by simpa using he]
  conv => arg 1; whnf
  exact atLeave_P (leave_plain (.inl rfl) rfl) (hQ _ rfl)
theorem hTe_of {hk : Hooks} {n : Nat} (hno : ∀ args h, hk 10 args h = none) (dTS : ∀ n, 5 - 1 < n → hTS (evCall (mkEv Tryz.prog mu0 hk) n)) (hn : 5 < n) : hTe (evCall (mkEv Tryz.prog mu0 hk) n) := by
  intro x s h hx he
  obtain ⟨n, rfl⟩ : ∃ m, n = m + 1 := ⟨n - 1, by omega⟩
  exact ev_of_cBodyS shT (hno _ _) Tryz.func10 rfl (by kernel_rfl) (bTe (evCall (mkEv Tryz.prog mu0 hk) n) (rg Tryz.prog mu0 hk n 10) n (x := x) (s := s) (h := h) hx he (dTS n (by omega)) (fun _ _ _ => rfl) (by omega))
def dCs (f dup : Int) (i : Nat) : List Int := [f, f] ++ List.replicate i dup
theorem dCs_succ (f dup : Int) (i : Nat) : dCs f dup (i + 1) = dCs f dup i ++ [dup] := by unfold dCs; rw [List.replicate_succ', List.append_assoc]
theorem dCs_len (f dup : Int) (i : Nat) : (dCs f dup i).length = 2 + i := by unfold dCs; simp; omega
theorem dWs_succ (i : Nat) : dWs (i + 1) = dWs i ++ [(-1, 2 + (i : Int), 2 + (i : Int), 0), (2 + (i : Int), 1, 0, (i : Int) + 1), (2 + (i : Int), 2, 1, (i : Int) + 1)] := by
  unfold dWs; rw [List.range_succ, List.flatMap_append, List.append_assoc]; rfl
theorem dWs_len : ∀ i : Nat, (dWs i).length = 2 + 3 * i
  | 0 => rfl
  | i + 1 => by rw [dWs_succ, List.length_append, dWs_len i]; simp; omega
theorem eWs_succ (i : Nat) : eWs (i + 1) = eWs i ++ [(-1, (i : Int), (i : Int), 0)] := by unfold eWs; rw [List.range_succ, List.map_append]; rfl
theorem eWs_len (i : Nat) : (eWs i).length = i := by unfold eWs; simp
def Dom (M : KM) (L : List Rl) : Prop := ∀ k, M k ≠ none → ∃ r ∈ L, keyN r = k
theorem Dom.no {M : KM} {L : List Rl} (d : Dom M L) {k : Int × Int} (h : ∀ r ∈ L, keyN r ≠ k) : M k = none := by
  cases e : M k with
  | none => rfl
  | some v => obtain ⟨r, hr, hk⟩ := d k (by rw [e]; simp); exact absurd hk (h r hr)
theorem Dom.add {M : KM} {L : List Rl} (d : Dom M L) (r : Rl) (v : AV) : Dom (updG M (keyN r) v) (L ++ [r]) := by
  intro k hk
  by_cases e : k = keyN r
  · exact ⟨r, by simp, e.symm⟩
  · have : updG M (keyN r) v k = M k := by unfold updG; rw [if_neg e]
    rw [this] at hk
    obtain ⟨r', h1, h2⟩ := d k hk
    exact ⟨r', List.mem_append_left _ h1, h2⟩
def tidL (s : List Ag) (L : List Rl) : List Rl := L.map (tidyR s)
def plBt18 : Plan := ⟨[0, 1, 2, 3, 5, 8, 10, 11, 14, 16, 17, 4, 6, 7, 9, 12, 13, 15, 18, 19, 20, 21, 22, 23], [0, 1, 0, 4, 12, 0, 60, 124, 0, 508, 0, 1024, 4092, 8188, 0, 32764, 0, 65536, 262140, 524284, 1048572, 2097151, 4194303, 8388607]⟩
def plBt20 : Plan := ⟨[0, 1, 2, 4, 3, 5, 6, 7, 8, 9, 10], [0, 1, 0, 4, 0, 28, 60, 124, 255, 511, 1023]⟩
def NetsE (s : List Ag) (i : Nat) (i11 i12 : Sk.Id) (j : Nat) (E : List HE) : Prop := ∃ dc dw gc gw D1 D2 D3 D4, E = ⟨i11, .cells [dc, .int .i64 (2 + (arF s i : Int)), dw] 49, true⟩ :: ⟨i12, .cells [gc, .int .i64 (arF s i : Int), gw] 49, true⟩ :: (D1 ++ (D2 ++ (D3 ++ D4))) ∧
  Growing dc ((dCs (i : Int) (s.length : Int) j).map intV) D1 ∧ Growing dw ((dWs j).map wireV) D2 ∧ Growing gc ((List.replicate j ((s.length : Int) + 1)).map intV) D3 ∧ Growing gw ((eWs j).map wireV) D4
def NetsI (s : List Ag) (x : AV) (bk : Sk.Id) (i : Nat) (i11 i12 : Sk.Id) (F : List Sk.Id) (h0 : AH) (B R : List HE) (j : Nat) (tm : List AV) (h : AH) : Prop :=
  tm.length = 162 ∧ tm[6]? = some (.ptr bk 0) ∧ tm[7]? = some (.int .i64 s.length) ∧ tm[8]? = some (.int .i64 ((s.length : Int) + 1)) ∧ tm[9]? = some (.int .i64 i) ∧ tm[11]? = some (.ptr i11 0) ∧ tm[12]? = some (.ptr i12 0) ∧ tm[36]? = some x ∧ tm[37]? = some (.int .i64 s.length) ∧ tm[38]? = some (.int .i64 i) ∧ tm[61]? = some (.int .i64 (arF s i)) ∧ tm[62]? = some (.int .i64 j) ∧ j ≤ arF s i ∧
    ∃ E, NetsE s i i11 i12 j E ∧ Hb F h0 h (B ++ (E ++ R))
set_option maxHeartbeats 4000000 in
theorem lTb (call rgn n) (s : List Ag) (x : AV) (bk : Sk.Id) (i : Nat) (i11 i12 : Sk.Id) (F : List Sk.Id) (h0 : AH) (B R : List HE) (a7 : arF s i < 7) (hs : s.length ≤ 1000) (dTf : hTf call) (dTa : hTa call) (dTw : hTw call) (hrg : ∀ id ops st, rgn id ops st = drawn ⟨Tryz.prog, mu0, call⟩ 10 ops st)
    {Q : Option (AOut × AH) → Prop} (hnone : ¬ Q none) {K : KC (AOut × AH)} (hK : ∀ tm h, NetsI s x bk i i11 i12 F h0 B R (arF s i) tm h → Q (K (.exit 2) ⟨tm, [], h⟩)) {tm : List AV} {h : AH} (hI : NetsI s x bk i i11 i12 F h0 B R 0 tm h) (hn : 10 < n) :
    Q (cIter (LB shT call rgn n 10 Tryz.f10 1) n ⟨tm, [], h⟩ K) := by
  refine rounds (NetsI s x bk i i11 i12 F h0 B R) (fun j => arF s i - j) (n := n) (s0 := 0) hI (by show arF s i - 0 < n; omega) ?_
  clear hI
  rintro m2 j tm h ⟨hl2, t6, t7, t8, t9, t11, t12, t36, t37, t38, t61, t62, hj, E, ⟨dc, dw, gc, gw, D1, D2, D3, D4, rfl, hG1, hG2, hG3, hG4⟩, H⟩ hm2 ih2
  simp only [List.cons_append, List.append_assoc] at H
  iterate 162 (obtain ⟨_, tm, rfl, hl3⟩ := exL hl2; clear hl2; have hl2 := hl3; clear hl3)
  obtain rfl := List.eq_nil_of_length_eq_zero hl2
  obtain rfl := (Option.some.inj t6).symm
  obtain rfl := (Option.some.inj t7).symm
  obtain rfl := (Option.some.inj t8).symm
  obtain rfl := (Option.some.inj t9).symm
  obtain rfl := (Option.some.inj t11).symm
  obtain rfl := (Option.some.inj t12).symm
  obtain rfl := (Option.some.inj t36).symm
  obtain rfl := (Option.some.inj t37).symm
  obtain rfl := (Option.some.inj t38).symm
  obtain rfl := (Option.some.inj t61).symm
  obtain rfl := (Option.some.inj t62).symm
  conv => arg 1; whnf
  split
  · rename_i hd
    have hlt : j < arF s i := by simp at hd; omega
    have hil := hG1.il
    refine H.xL ?_
    refine sN hil ?_
    rw [show ((((dCs (i : Int) (s.length : Int) j).map intV).length : Nat) : Int) = 2 + (j : Int) by rw [List.length_map, dCs_len]; omega]
    refine H.xL ?_
    refine H.xG hG1 (s.length : Int) (by rw [dCs_len]; omega) fun dc2 h E1 hG1 H => ?_
    refine H.xV hG1.cells hG1.scalar fun h H => ?_
    have w1 : IntKind.i64.wrap (2 + (j : Int)) = 2 + (j : Int) := wrapS (by omega) (by omega)
    have w2 : IntKind.i64.wrap ((j : Int) + 1) = (j : Int) + 1 := wrapS (by omega) (by omega)
    refine xR plBt18 hnone hrg ?_
    refine H.xL ?_
    refine sC (dTf _ _) ?_
    refine sC (dTa _ _ _) ?_
    refine sC (dTw (-1, IntKind.i64.wrap (2 + (j : Int))) (2 + (j : Int), 0) _) ?_
    refine sC (dTa _ _ _) ?_
    refine sC (dTa _ _ _) ?_
    refine sC (dTw (2 + (j : Int), 1) (0, IntKind.i64.wrap ((j : Int) + 1)) _) ?_
    refine sC (dTa _ _ _) ?_
    refine sC (dTa _ _ _) ?_
    refine sC (dTw (2 + (j : Int), 2) (1, IntKind.i64.wrap ((j : Int) + 1)) _) ?_
    refine H.xGl 4 hG2 (bs := [(-1, IntKind.i64.wrap (2 + (j : Int)), 2 + (j : Int), 0), (2 + (j : Int), 1, 0, IntKind.i64.wrap ((j : Int) + 1)), (2 + (j : Int), 2, 1, IntKind.i64.wrap ((j : Int) + 1))]) (.inr ⟨.lit, rfl⟩) (by rw [dWs_len]; simp; omega) fun dw2 h2 E2 hG2 H2 => ?_
    refine H2.xV hG2.cells hG2.scalar fun h3 H3 => ?_
    refine xO ?_
    have H := H3
    clear H2 H3
    rw [w1, w2, ← dWs_succ] at hG2
    rw [← dCs_succ] at hG1
    refine H.xL ?_
    refine H.xG hG3 ((s.length : Int) + 1) (by simp; omega) fun gc2 h E3 hG3 H => ?_
    refine H.xV hG3.cells hG3.scalar fun h H => ?_
    refine xR plBt20 hnone hrg ?_
    refine H.xL ?_
    refine sC (dTf _ _) ?_
    refine sC (dTa _ _ _) ?_
    refine sC (dTw (-1, (j : Int)) ((j : Int), 0) _) ?_
    refine H.xG hG4 (-1, (j : Int), (j : Int), 0) (by rw [eWs_len]; omega) fun gw2 h4 E4 hG4 H4 => ?_
    refine H4.xV hG4.cells hG4.scalar fun h5 H5 => ?_
    refine xO ?_
    have H := H5
    clear H4 H5
    rw [← eWs_succ] at hG4
    rw [← List.replicate_succ'] at hG3
    conv => arg 1; whnf
    exact ih2 (j + 1) _ _ ⟨rfl, rfl, rfl, rfl, rfl, rfl, rfl, rfl, rfl, rfl, rfl, sw (by omega), by omega, _, ⟨_, _, _, _, _, _, _, _, rfl, hG1, hG2, hG3, hG4⟩, by simp only [List.cons_append, List.append_assoc]; exact H⟩ (by omega)
  rename_i hd
  obtain rfl : j = arF s i := by simp at hd; omega
  conv => arg 1; whnf
  exact hK _ _ ⟨rfl, rfl, rfl, rfl, rfl, rfl, rfl, rfl, rfl, rfl, rfl, rfl, Nat.le_refl _, _, ⟨dc, dw, gc, gw, D1, D2, D3, D4, rfl, hG1, hG2, hG3, hG4⟩, by simp only [List.cons_append, List.append_assoc]; exact H⟩
theorem fair_dd {s : List Ag} (he : sigE s = 0) : FairOK (sig2 s) (ddRule s) := by
  refine .inr ⟨rfl, fun w hw => ?_⟩
  have hok := ok_dd he
  have gt := good_turn hok.1 hok.2.2.2.2.2.2
  have e : (turnN (sig2 s) (ddRule s)).wires = [(-1, 2, -1, 0), (-1, 3, -1, 1)] := by
    show (ddRule s).right.wires.map (movW (arN (sig2 s) (s.length : Int)) (arN (sig2 s) (s.length : Int))) = _
    rw [arN_dup]; rfl
  have hm : wA w ∈ portsL (sig2 s) (turnN (sig2 s) (ddRule s)) := isPort_iff.1 (hok.1.ip _ (mem_ends hw).1)
  rw [gt.tidy.2.1 _ hm, e]
  have hw : w ∈ [((-1 : Int), (0 : Int), (-1 : Int), (2 : Int)), (-1, 1, -1, 3)] := hw
  simp only [List.mem_cons, List.not_mem_nil, or_false] at hw
  rcases hw with rfl | rfl <;> decide
theorem fair_ee (s : List Ag) : FairOK (sig2 s) (eeRule s) := .inr ⟨rfl, fun w hw => absurd hw (by show ¬ w ∈ ([] : List Wr); simp)⟩
theorem fair_ed (s : List Ag) : FairOK (sig2 s) (edRule s) := .inl (by show (s.length : Int) + 1 ≠ s.length; omega)
theorem all_dd {s : List Ag} : ∀ r ∈ bookL s s.length, keyN r ≠ keyN (ddRule s) := fun r hr e => by
  have := keys_lt (Nat.le_refl _) r hr
  rw [e, key_dd] at this; exact absurd this (by show ¬ (s.length : Int) < s.length; omega)
theorem all_ee {s : List Ag} : ∀ r ∈ bookL s s.length ++ [ddRule s], keyN r ≠ keyN (eeRule s) := fun r hr e => by
  rcases List.mem_append.1 hr with hr | hr
  · have := keys_lt (Nat.le_refl _) r hr
    rw [e, key_ee] at this; exact absurd this (by show ¬ (s.length : Int) + 1 < s.length; omega)
  · obtain rfl := List.mem_singleton.1 hr
    rw [key_dd, key_ee] at e
    have := congrArg Prod.fst e
    simp only at this; omega
theorem all_ed {s : List Ag} : ∀ r ∈ bookL s s.length ++ [ddRule s] ++ [eeRule s], keyN r ≠ keyN (edRule s) := fun r hr e => by
  rcases List.mem_append.1 hr with hr | hr
  · rcases List.mem_append.1 hr with hr | hr
    · have := keys_lt (Nat.le_refl _) r hr
      rw [e, key_ed] at this; exact absurd this (by show ¬ (s.length : Int) < s.length; omega)
    · obtain rfl := List.mem_singleton.1 hr
      rw [key_dd, key_ed] at e
      have := congrArg Prod.snd e
      simp only at this; omega
  · obtain rfl := List.mem_singleton.1 hr
    rw [key_ee, key_ed] at e
    have := congrArg Prod.fst e
    simp only at this; omega
theorem twinR_eq (s : List Ag) : twinR s = bookL s s.length ++ [ddRule s] ++ [eeRule s] ++ [edRule s] := by
  unfold twinR bookL; simp
theorem tidL_app (s : List Ag) (A B : List Rl) : tidL s (A ++ B) = tidL s A ++ tidL s B := by unfold tidL; rw [List.map_append]
theorem tidL_len (s : List Ag) (A : List Rl) : (tidL s A).length = A.length := by unfold tidL; rw [List.length_map]
def plBt11 : Plan := ⟨[0, 1, 2, 3, 4, 5, 14, 6, 7, 8, 9, 10, 11, 12, 13, 15], [0, 0, 3, 0, 8, 24, 0, 64, 192, 448, 960, 1984, 4032, 8191, 0, 32767]⟩
def hTb (call : CallT) : Prop := ∀ (F : List Sk.Id) (h0 h : AH) (R : List HE) (x : AV) (s : List Ag), (IsSig x s) → (sigE s = 0) → (s.length ≤ 1000) → (Hb F h0 h R) → ∃ h' bk m lv c es cl G, call (.func 10) [x] h = some (.ret (.tup [.ptr bk 0, .int .i64 0]), h') ∧ Growing lv ((tidL (sig2 s) (twinR s)).map ruleW) G ∧ Hb F h0 h' (BkE bk m lv (sig2 s) c es cl G ++ R)
set_option maxHeartbeats 4000000 in
theorem bTb (call rgn n) (F : List Sk.Id) (h0 h : AH) (R : List HE) (x : AV) (s : List Ag) (hx : IsSig x s) (he : sigE s = 0) (hl : s.length ≤ 1000) (H : Hb F h0 h R) (dTS : hTS call) (dTf : hTf call) (dTa : hTa call) (dTw : hTw call) (dBw : hBw call) (dBa : hBa call) (hrg : ∀ id ops st, rgn id ops st = drawn ⟨Tryz.prog, mu0, call⟩ 10 ops st) (hfu : 45000 ≤ n) : ∃ h' bk m lv c es cl G, B shT call rgn n 10 Tryz.f10 [x] h = some (.ret (.tup [.ptr bk 0, .int .i64 0]), h') ∧ Growing lv ((tidL (sig2 s) (twinR s)).map ruleW) G ∧ Hb F h0 h' (BkE bk m lv (sig2 s) c es cl G ++ R) := by
  suffices hq : ∀ Q : Option (AOut × AH) → Prop, ¬ Q none → (∀ h' bk m lv c es cl G, Growing lv ((tidL (sig2 s) (twinR s)).map ruleW) G ∧ Hb F h0 h' (BkE bk m lv (sig2 s) c es cl G ++ R) → Q (some (.ret (.tup [.ptr bk 0, .int .i64 0]), h'))) → Q (B shT call rgn n 10 Tryz.f10 [x] h) from hq (fun y => ∃ h' bk m lv c es cl G, y = some (.ret (.tup [.ptr bk 0, .int .i64 0]), h') ∧ Growing lv ((tidL (sig2 s) (twinR s)).map ruleW) G ∧ Hb F h0 h' (BkE bk m lv (sig2 s) c es cl G ++ R)) (by rintro ⟨_, _, _, _, _, _, _, _, h_, _⟩; cases h_) (fun h' bk m lv c es cl G p_ => ⟨h', bk, m, lv, c, es, cl, G, rfl, p_⟩)
  intro Q hnone hQ
  have q := fun h => dTS x s h hx
  rw [show sigXV s = .tup [listW agV (sig2 s), .int .i64 0] by unfold sigXV; rw [if_pos he]] at q
  obtain ⟨sg1, sg2⟩ := sig2_ok he
  have hlw : ∃ c, listW agV (sig2 s) = .vsl ((sig2 s).map agV) c := by
    rcases listW_isL (enc := agV) (sig2 s) with ⟨_, e⟩ | h
    · exact absurd e (by unfold sig2; simp)
    · exact h
  obtain ⟨c0, hlw⟩ := hlw
  rw [hlw] at q
  refine sC (q _) ?_
  obtain ⟨h1, bk, m, c, q1, H1⟩ := dBw F h0 h R _ (sig2 s) (.inr ⟨c0, rfl⟩) sg2 (by rw [sig2_len]; omega) H
  refine sC q1 ?_
  refine sN hx ?_
  refine sN hx ?_
  rw [List.length_map]
  refine sN hx ?_
  rw [List.length_map, wrapS (a := (s.length : Int) + 1) (by omega) (by omega)]
  refine rounds (fun (i : Nat) tm h => tm.length = 162 ∧ tm[6]? = some (.ptr bk 0) ∧ tm[7]? = some (.int .i64 s.length) ∧ tm[8]? = some (.int .i64 ((s.length : Int) + 1)) ∧ tm[36]? = some x ∧ tm[37]? = some (.int .i64 s.length) ∧ tm[38]? = some (.int .i64 i) ∧ i ≤ s.length ∧
    ∃ lv es cl G M, IsMap keyV es cl M ∧ Dom M (bookL s i) ∧ Growing lv ((tidL (sig2 s) (bookL s i)).map ruleW) G ∧ Hb F h0 h (BkE bk m lv (sig2 s) c es cl G ++ R)) (fun i => s.length - i) (s0 := 0) ?_ ?_ ?_
  · exact ⟨rfl, rfl, rfl, rfl, rfl, rfl, rfl, Nat.zero_le _, .nilsl, [], 0, [], fun _ => none, IsMap.nil, fun k hk => absurd rfl hk, Growing.nil, H1⟩
  · show s.length - 0 < n; omega
  clear H1 H
  rintro m' i tm h ⟨hl2, t6, t7, t8, t36, t37, t38, hi, lv, es, cl, G, M, hM, hD, hG, H⟩ hm ih
  iterate 162 (obtain ⟨_, tm, rfl, hl3⟩ := exL hl2; clear hl2; have hl2 := hl3; clear hl3)
  obtain rfl := List.eq_nil_of_length_eq_zero hl2
  obtain rfl := (Option.some.inj t6).symm
  obtain rfl := (Option.some.inj t7).symm
  obtain rfl := (Option.some.inj t8).symm
  obtain rfl := (Option.some.inj t36).symm
  obtain rfl := (Option.some.inj t37).symm
  obtain rfl := (Option.some.inj t38).symm
  conv => arg 1; whnf
  split
  · rename_i hd
    have hlt : i < s.length := by simp at hd; omega
    obtain ⟨g, hg⟩ : ∃ a, s[i]? = some a := ⟨_, List.getElem?_eq_getElem hlt⟩
    obtain ⟨a7, aeq⟩ := arF_lt sg1 i
    have hga : g.2 = (arF s i : Int) := by rw [← aeq]; unfold arN; rw [Int.toNat_natCast, hg]
    obtain ⟨nm, ar⟩ := g
    dsimp only at hga
    subst hga
    refine sI hx rfl (v := agV (nm, (arF s i : Int))) (by rw [List.getElem?_map, hg]; rfl) ?_
    refine H.xA [.str [], .int .i64 0] fun i10 h H => ?_
    refine H.xJ fun h H => ?_
    refine xR plBt11 hnone hrg ?_
    refine H.xL ?_
    refine H.xW (.cells [.nilsl, .int .i64 0, .nilsl] 49) fun i11 h2 e1 e2 H2 => ?_
    conv => arg 1; whnf
    rw [e1, e2]
    refine sC (dTf _ _) ?_
    refine sC (dTa _ _ _) ?_
    refine sC (dTw (-1, 0) (0, 0) _) ?_
    refine sC (dTf _ _) ?_
    refine sC (dTa _ _ _) ?_
    refine sC (dTw (-1, 1) (1, 0) _) ?_
    refine H2.xJ (v := .agg [.vsl ((dCs (i : Int) (s.length : Int) 0).map intV) .lit, .int .i64 (IntKind.i64.wrap (2 + (arF s i : Int))), .vsl ((dWs 0).map wireV) .lit]) fun h3 H3 => ?_
    rw [wrapS (a := 2 + (arF s i : Int)) (by omega) (by omega)] at H3 ⊢
    refine xO ?_
    have H := H3
    clear H2 H3 e1 e2
    refine H.xL ?_
    refine H.xA [.nilsl, .int .i64 0, .nilsl] fun i12 h H => ?_
    refine H.xJ fun h H => ?_
    refine H.xL ?_
    refine lTb call rgn n s x bk i i11 i12 F h0 (BkE bk m lv (sig2 s) c es cl G) R a7 hl dTf dTa dTw hrg hnone ?_ ?_ (by omega)
    rotate_left
    · refine ⟨rfl, rfl, rfl, rfl, rfl, rfl, rfl, rfl, rfl, rfl, rfl, rfl, Nat.zero_le _, _, ⟨_, _, .nilsl, .nilsl, [], [], [], [], rfl, .inr (.inr ⟨.lit, rfl, .inr rfl, rfl⟩), .inr (.inr ⟨.lit, rfl, .inr rfl, rfl⟩), Growing.nil, Growing.nil⟩, ?_⟩
      exact Hb.front (A := [_, _]) ((H.pu i12).pu i11).sb
    clear H
    rintro tm h ⟨hl2, t6, t7, t8, t9, t11, t12, t36, t37, t38, t61, t62, hj, E, ⟨dc, dw, gc, gw, D1, D2, D3, D4, rfl, hG1, hG2, hG3, hG4⟩, H⟩
    iterate 162 (obtain ⟨_, tm, rfl, hl3⟩ := exL hl2; clear hl2; have hl2 := hl3; clear hl3)
    obtain rfl := List.eq_nil_of_length_eq_zero hl2
    obtain rfl := (Option.some.inj t6).symm
    obtain rfl := (Option.some.inj t7).symm
    obtain rfl := (Option.some.inj t8).symm
    obtain rfl := (Option.some.inj t9).symm
    obtain rfl := (Option.some.inj t11).symm
    obtain rfl := (Option.some.inj t12).symm
    obtain rfl := (Option.some.inj t36).symm
    obtain rfl := (Option.some.inj t37).symm
    obtain rfl := (Option.some.inj t38).symm
    obtain rfl := (Option.some.inj t61).symm
    obtain rfl := (Option.some.inj t62).symm
    simp only [List.cons_append, List.append_assoc] at H
    refine H.xM 3 ?_
    have hrd : RuleOK (sig2 s) (dRule s i) := ok_d he hlt
    have hre : RuleOK (sig2 s) (eRule s i) := ok_e he hlt
    have hln : (tidL (sig2 s) (bookL s i)).length ≤ 1000000 := by unfold tidL; rw [List.length_map, bookL_len]; omega
    have hk1 : M (keyN (dRule s i)) = none := hD.no fun r hr e => by
      have := keys_lt (by omega) r hr
      rw [e, key_d hlt] at this; exact absurd this (by show ¬ (i : Int) < i; omega)
    obtain ⟨h2, lv2, es2, cl2, G2, q2, hM2, hG2', H2⟩ := dBa F h0 h _ bk m lv (sig2 s) c es cl G M _ dc dw (dRule s i) hM hG hk1 hln hrd (.inl (by show ((s.length : Nat) : Int) ≠ i; omega)) (by show (dWs (arF s i)).length ≤ _; rw [dWs_len]; omega) hG1.il hG2.il H
    refine sC q2 ?_
    refine H2.xM 3 ?_
    have hD2 := hD.add (dRule s i) (.int .i64 (((tidL (sig2 s) (bookL s i)).length + 1 : Nat) : Int))
    have hk2 : updG M (keyN (dRule s i)) (.int .i64 (((tidL (sig2 s) (bookL s i)).length + 1 : Nat) : Int)) (keyN (eRule s i)) = none := hD2.no fun r hr e => by
      rcases List.mem_append.1 hr with hr | hr
      · have := keys_lt (by omega) r hr
        rw [e, key_e hlt] at this; exact absurd this (by show ¬ (i : Int) < i; omega)
      · obtain rfl := List.mem_singleton.1 hr
        rw [key_d hlt, key_e hlt] at e
        have := congrArg Prod.snd e
        simp only at this; omega
    obtain ⟨h3, lv3, es3, cl3, G3, q3, hM3, hG3', H3⟩ := dBa F h0 h2 _ bk m lv2 (sig2 s) c es2 cl2 G2 _ _ gc gw (eRule s i) hM2 hG2' hk2 (by rw [List.length_append]; simp; unfold tidL; rw [List.length_map, bookL_len]; omega) hre (.inl (by show ((s.length : Nat) : Int) + 1 ≠ i; omega)) (by show (eWs (arF s i)).length ≤ _; rw [eWs_len]; omega) hG3.il hG4.il H2
    refine sC q3 ?_
    have hD3 := hD2.add (eRule s i) (.int .i64 (((tidL (sig2 s) (bookL s i) ++ [tidyR (sig2 s) (dRule s i)]).length + 1 : Nat) : Int))
    rw [List.append_assoc] at hD3
    conv => arg 1; whnf
    refine ih (i + 1) _ _ ⟨rfl, rfl, rfl, rfl, rfl, rfl, sw (by omega), by omega, lv3, es3, cl3, G3, _, hM3, ?_, ?_, H3.sb⟩ (by omega)
    · rw [bookL_succ]; exact hD3
    · rw [bookL_succ]; unfold tidL at hG3' ⊢; rw [List.map_append]; rw [List.append_assoc] at hG3'; exact hG3'
  rename_i hd
  obtain rfl : i = s.length := by simp at hd; omega
  clear ih hm hd
  have hb0 := bookL_len s s.length
  refine sC (dTf _ _) ?_
  refine sC (dTf _ _) ?_
  refine sC (dTw (-1, 0) (-1, 2) _) ?_
  refine sC (dTf _ _) ?_
  refine sC (dTf _ _) ?_
  refine sC (dTw (-1, 1) (-1, 3) _) ?_
  obtain ⟨h2, lv2, es2, cl2, G2, q2, hM2, hG2, H2⟩ := dBa F h0 h _ bk m lv (sig2 s) c es cl G M _ .nilsl (.vsl ((ddRule s).right.wires.map wireV) .lit) (ddRule s) hM hG (hD.no all_dd) (by rw [tidL_len]; omega) (ok_dd he) (fair_dd he) (by show (2 : Nat) ≤ 30000; omega) (.inl ⟨rfl, rfl⟩) (.inr ⟨_, rfl⟩) H
  refine sC q2 ?_
  have hD2 := hD.add (ddRule s) (.int .i64 (((tidL (sig2 s) (bookL s s.length)).length + 1 : Nat) : Int))
  rw [show tidL (sig2 s) (bookL s s.length) ++ [tidyR (sig2 s) (ddRule s)] = tidL (sig2 s) (bookL s s.length ++ [ddRule s]) from (tidL_app (sig2 s) (bookL s s.length) [ddRule s]).symm] at hG2
  obtain ⟨h3, lv3, es3, cl3, G3, q3, hM3, hG3, H3⟩ := dBa F h0 h2 _ bk m lv2 (sig2 s) c es2 cl2 G2 _ _ .nilsl .nilsl (eeRule s) hM2 hG2 (hD2.no all_ee) (by rw [tidL_len, List.length_append]; simp; omega) (ok_ee he) (fair_ee s) (by show (0 : Nat) ≤ 30000; omega) (.inl ⟨rfl, rfl⟩) (.inl ⟨rfl, rfl⟩) H2
  refine sC q3 ?_
  have hD3 := hD2.add (eeRule s) (.int .i64 (((tidL (sig2 s) (bookL s s.length ++ [ddRule s])).length + 1 : Nat) : Int))
  rw [show tidL (sig2 s) (bookL s s.length ++ [ddRule s]) ++ [tidyR (sig2 s) (eeRule s)] = tidL (sig2 s) (bookL s s.length ++ [ddRule s] ++ [eeRule s]) from (tidL_app (sig2 s) (bookL s s.length ++ [ddRule s]) [eeRule s]).symm] at hG3
  refine sC (dTf _ _) ?_
  refine sC (dTa _ _ _) ?_
  refine sC (dTw (-1, 0) (0, 0) _) ?_
  refine sC (dTf _ _) ?_
  refine sC (dTa _ _ _) ?_
  refine sC (dTw (-1, 1) (1, 0) _) ?_
  obtain ⟨h4, lv4, es4, cl4, G4, q4, hM4, hG4, H4⟩ := dBa F h0 h3 _ bk m lv3 (sig2 s) c es3 cl3 G3 _ _ (.vsl ((edRule s).right.cells.map intV) .lit) (.vsl ((edRule s).right.wires.map wireV) .lit) (edRule s) hM3 hG3 (hD3.no all_ed) (by rw [tidL_len, List.length_append, List.length_append]; simp; omega) (ok_ed he) (fair_ed s) (by show (2 : Nat) ≤ 30000; omega) (.inr ⟨_, rfl⟩) (.inr ⟨_, rfl⟩) H3
  refine sC q4 ?_
  rw [show tidL (sig2 s) (bookL s s.length ++ [ddRule s] ++ [eeRule s]) ++ [tidyR (sig2 s) (edRule s)] = tidL (sig2 s) (twinR s) by rw [twinR_eq, tidL_app (sig2 s) (bookL s s.length ++ [ddRule s] ++ [eeRule s]) [edRule s]]; rfl] at hG4
  conv => arg 1; whnf
  exact atLeave_P (leave_plain (.inl rfl) rfl) (hQ _ _ _ _ _ _ _ _ ⟨hG4, H4⟩)
theorem hTb_of {hk : Hooks} {n : Nat} (hno : ∀ args h, hk 10 args h = none) (dTS : ∀ n, 45000 - 1 < n → hTS (evCall (mkEv Tryz.prog mu0 hk) n)) (dTf : ∀ n, 45000 - 1 < n → hTf (evCall (mkEv Tryz.prog mu0 hk) n)) (dTa : ∀ n, 45000 - 1 < n → hTa (evCall (mkEv Tryz.prog mu0 hk) n)) (dTw : ∀ n, 45000 - 1 < n → hTw (evCall (mkEv Tryz.prog mu0 hk) n)) (dBw : ∀ n, 45000 - 1 < n → hBw (evCall (mkEv Tryz.prog mu0 hk) n)) (dBa : ∀ n, 45000 - 1 < n → hBa (evCall (mkEv Tryz.prog mu0 hk) n)) (hn : 45000 < n) : hTb (evCall (mkEv Tryz.prog mu0 hk) n) := by
  intro F h0 h R x s hx he hl H
  obtain ⟨n, rfl⟩ : ∃ m, n = m + 1 := ⟨n - 1, by omega⟩
  obtain ⟨h', bk, m, lv, c, es, cl, G, a_, b_⟩ := bTb (evCall (mkEv Tryz.prog mu0 hk) n) (rg Tryz.prog mu0 hk n 10) n (F := F) (h0 := h0) (h := h) (R := R) (x := x) (s := s) hx he hl H (dTS n (by omega)) (dTf n (by omega)) (dTa n (by omega)) (dTw n (by omega)) (dBw n (by omega)) (dBa n (by omega)) (fun _ _ _ => rfl) (by omega)
  exact ⟨h', bk, m, lv, c, es, cl, G, ev_of_cBodyS shT (hno _ _) Tryz.func10 rfl (by kernel_rfl) a_, b_⟩
section
variable {i10 i13 i2 i3 i14 rt rs : Sk.Id} {x c w : AV} {f : Int} {T : Mp}
end
section
variable {i1 r : Sk.Id} {c w ev pv : AV} {f : Int}
end
section
variable {i2 i3 i10 r : Sk.Id} {x c w ev pv : AV} {f : Int}
end
def hkTT := hkRa
theorem ETT : EvOK (mkEv Tryz.prog mu0 hkTT) := ERa
section
variable {i5 i8 i13 i14 : Sk.Id} {sv cl c0 w : AV} {nf : Int} {c f : Nat}
end
end Go.Proofs.Nt
namespace Go.Proofs.Nt
open Go.Sk
end Go.Proofs.Nt
namespace Go.Proofs.Nt
open Go.Sk
def hkMd := hkTT
theorem EMd : EvOK (mkEv Tryz.prog mu0 hkMd) := ETT
def hkCo := hkMd
def hkEr := hkCo
theorem ECo : EvOK (mkEv Tryz.prog mu0 hkCo) := EMd
theorem EEr : EvOK (mkEv Tryz.prog mu0 hkEr) := ECo
theorem sorted_range (c : Int) (m i : Nat) : List.Pairwise (fun p q => before p q = true) ((List.range' i m).map fun (k : Nat) => (c, (k : Int))) := by
  refine List.pairwise_map.2 (List.Pairwise.imp ?_ (List.pairwise_lt_range' (s := i) (n := m)))
  intro a b h
  unfold before
  simp; omega
theorem sorted_cells (s : List Ag) : ∀ (cells : List Int) (c : Nat), List.Pairwise (fun p q => before p q = true) (cellsPorts s cells c)
  | [], c => by simp [cellsPorts]
  | a :: r, c => by
    simp only [cellsPorts]
    rw [List.pairwise_append]
    refine ⟨sorted_range _ _ _, sorted_cells s r (c + 1), fun p hp q hq => ?_⟩
    obtain ⟨i, b, h1, h2, _⟩ := mem_cells.1 hq
    have h3 : p.1 = (c : Int) := by
      unfold cellPorts at hp
      obtain ⟨k, _, rfl⟩ := List.mem_map.1 hp
      rfl
    unfold before
    simp only [Bool.or_eq_true, decide_eq_true_eq]
    left; omega
theorem sorted_ports (s : List Ag) (n : Nt) : List.Pairwise (fun p q => before p q = true) (portsL s n) := by
  unfold portsL
  rw [List.pairwise_append]
  refine ⟨sorted_range _ _ _, sorted_cells s _ _, fun p hp q hq => ?_⟩
  obtain ⟨i, b, h1, h2, _⟩ := mem_cells.1 hq
  have h3 := (mem_free.1 hp).1
  unfold before
  simp only [Bool.or_eq_true, decide_eq_true_eq]
  left; omega
theorem before_idx {l : List Pt} (hl : List.Pairwise (fun p q => before p q = true) l) {i j : Nat} {p q : Pt} (hi : l[i]? = some p) (hj : l[j]? = some q) (hne : p ≠ q) : before p q = decide (i < j) := by
  obtain ⟨a1, rfl⟩ := List.getElem?_eq_some_iff.1 hi
  obtain ⟨b1, rfl⟩ := List.getElem?_eq_some_iff.1 hj
  rw [List.pairwise_iff_getElem] at hl
  by_cases h : i < j
  · rw [hl i j a1 b1 h]; simp [h]
  · have : j < i := by
      apply Classical.byContradiction
      intro hn
      have : i = j := by omega
      subst this
      exact hne rfl
    rw [before_not (hl j i b1 a1 this)]; simp [h]
def neatF (all : List Pt) : List Int → Nat → List Wr
  | [], _ => []
  | l :: r, i => if l > (i : Int) then mkW (all.getD i (0, 0)) (all.getD l.toNat (0, 0)) :: neatF all r (i + 1) else neatF all r (i + 1)
theorem neat_eq {s : List Ag} {n : Nt} (g : Good s n) : ∀ (ps pre : List Pt), portsL s n = pre ++ ps → neatF (portsL s n) (ps.map (vP s n (linksOf n.wires))) pre.length = tw (linksOf n.wires) ps
  | [], _, _ => rfl
  | p :: r, pre, h => by
    have hP := fun a => (sigChk_ports g.sg a).1
    have hp : p ∈ portsL s n := by rw [h]; simp
    have hi : (portsL s n)[pre.length]? = some p := by rw [h]; simp
    obtain ⟨i1, i2, i3, i4⟩ := g.inv.val hp
    obtain ⟨v, v1, v2⟩ := place_at hP g.f0 (isPort_iff.2 i1)
    have hb := before_idx (sorted_ports s n) hi v2 (fun e => i4 e.symm)
    have ih := neat_eq g r (pre ++ [p]) (by rw [h]; simp)
    rw [List.length_append, List.length_singleton] at ih
    simp only [List.map_cons, neatF, tw]
    rw [ih, hb]
    have e : vP s n (linksOf n.wires) p = v := by unfold vP; rw [i2]; exact v1
    rw [e]
    have g1 : (portsL s n).getD pre.length (0, 0) = p := by rw [List.getD_eq_getElem?_getD, hi]; rfl
    have g2 : (portsL s n).getD ((v : Int)).toNat (0, 0) = valN (linksOf n.wires) p := by rw [Int.toNat_natCast, List.getD_eq_getElem?_getD, v2]; rfl
    rw [g1, g2]
    by_cases hlt : pre.length < v
    · rw [if_pos (by omega), if_pos (by simpa using hlt)]
    · rw [if_neg (by omega), if_neg (by simpa using hlt)]
def neatN (s : List Ag) (n : Nt) : Nt := ⟨n.cells, n.free, neatF (portsL s n) ((portsL s n).map (vP s n (linksOf n.wires))) 0⟩
theorem neat_tidy {s : List Ag} {n : Nt} (g : Good s n) : neatN s n = tidyN s n := by
  rw [tidyN_eq]
  unfold neatN
  rw [show neatF (portsL s n) ((portsL s n).map (vP s n (linksOf n.wires))) 0 = tw (linksOf n.wires) (portsL s n) from neat_eq g (portsL s n) [] rfl]
section
variable {i3 r : Sk.Id} {c w : AV} {f : Int}
end
section
variable {i3 r sn : Sk.Id} {x c w av fv : AV} {f : Int} {m0 : Nat}
end
section
variable {i3 r sn : Sk.Id} {x c w av fv : AV} {f : Int} {m0 : Nat}
end
theorem lk_at {s : List Ag} {nt : Nt} (g : Good s nt) {p : Pt} (hp : p ∈ portsL s nt) : ∃ v b : Nat, placeN s nt p = v ∧ v < (portsL s nt).length ∧ (links03 s nt nt.wires (List.replicate (portsL s nt).length 0))[v]? = some ((b : Nat) : Int) ∧ b < (portsL s nt).length ∧ (portsL s nt)[b]? = some (valN (linksOf nt.wires) p) := by
  have hP := fun a => (sigChk_ports g.sg a).1
  obtain ⟨i1, i2, _, _⟩ := g.inv.val hp
  obtain ⟨v, v1, v2⟩ := place_at hP g.f0 (isPort_iff.2 hp)
  obtain ⟨b, b1, b2⟩ := place_at hP g.f0 (isPort_iff.2 i1)
  refine ⟨v, b, v1, (List.getElem?_eq_some_iff.1 v2).1, ?_, (List.getElem?_eq_some_iff.1 b2).1, b2⟩
  rw [links_good g, List.getElem?_map, v2]
  simp only [Option.map_some, vP, i2]
  rw [b1]
theorem mkEv_addy {P : Program} {mu mu' : FuncId → Nat → Bool} {hk hk0 : Hooks} {f : FuncId} {s : List AV → Option AV} (hE : EvOK (mkEv P mu hk)) (hE0 : EvOK (mkEv P mu' hk0))
    (hs : ∀ args v, s args = some v → plainV v = true ∧ ∃ n h', evCall (mkEv P mu' hk0) n (.func f) args .empty = some (.ret v, h')) : EvOK (mkEv P mu (addHk hk f s)) where
  hk := fun g args hh v hh' h ρ w cargs hR hb ha => by
    by_cases hg : g = f
    · subst hg
      obtain ⟨hfr, h', rfl⟩ := addHk_inv h
      obtain ⟨p2, n, h1, he⟩ := hs _ v h'
      exact ev_hook2 hE0 he hR ha hfr p2
    · have h' : hk g args hh = some (v, hh') := by rw [← addHk_other hk s args hh hg]; exact h
      exact hE.hk g args hh v hh' h' ρ w cargs hR hb ha
  ng := hE.ng
  rgn := hE.rgn
def hkRT := hkEr
theorem ERT : EvOK (mkEv Tryz.prog mu0 hkRT) := EEr
theorem cp_ints {call : CallT} {Y : List Int} {h : AH} {x : AV} (hx : IsL x (Y.map intV)) (hb : Y.length ≤ 1000000000) :
    ∃ l' h', aBuiltin ⟨Tryz.prog, mu0, call⟩ false .append #[42, 42] [.nilsl, x] h = some (.ret l', h') ∧ IsN intV l' Y ∧ Grow h' l' (Y.map intV) ∧ h.next.nat ≤ h'.next.nat ∧ (∀ q o, h.get q = some o → NotGrp h q → q.nat < h.next.nat → h'.get q = some o) := by
  by_cases hY : Y = []
  · subst hY
    have ht : Tryz.prog.underlying 42 = some (.slice 3) := by kernel_rfl
    have hn : sizeT Tryz.prog 3 = some 1 := by kernel_rfl
    have hz : zeroT Tryz.prog 3 = some (.int .i64 0) := by kernel_rfl
    have hel : aElems Tryz.prog 3 x h = some [] := by rcases hx with ⟨rfl, h1⟩ | ⟨c, rfl⟩ <;> simp_all [aElems]
    refine ⟨.nilsl, h, ?_, .inl ⟨rfl, rfl⟩, .inl ⟨rfl, rfl⟩, Nat.le_refl _, fun q o hq _ _ => hq⟩
    show vhOf (aAppend Tryz.prog false #[42, 42] .nilsl x h) = _
    have : aAppend Tryz.prog false #[42, 42] .nilsl x h = some (.nilsl, h) := by
      unfold aAppend
      simp only [show (#[42, 42] : Array TypeId)[0]? = some 42 from rfl, show (#[42, 42] : Array TypeId)[1]? = some 42 from rfl, ht, hel, hn, hz]
      rw [if_neg (by simp [headOk, AV.cells, AV.scalar])]
      simp
    rw [this]; rfl
  · obtain ⟨l', h', a1, _, a2, a3, a4⟩ := app_ints (call := call) (W := []) (Y := Y) (h := h) (l := .nilsl) (x := x) (.inl (.inl ⟨rfl, rfl⟩)) hx (by simpa using hb)
    have hg := a2 hY
    rw [List.nil_append] at hg
    exact ⟨l', h', a1, IsN.of_grow hg, hg, a3, a4⟩
theorem len_H {X : Cx} {t e : TypeId} {r : Sk.Id} {m : Nat} {h : AH} (ht : X.P.underlying t = some (.slice e)) : aBuiltin X false .len #[t] [.hsl r 0 m (.known m)] h = some (.ret (.int .i64 m), h) := by
  simp [aBuiltin, aLen, ht, vOf]
def IsNetC (u : AV) (n : Nt) : Prop := ∃ c w, u = .agg [c, .int .i64 n.free, w] ∧ IsN intV c n.cells ∧ IsN wireV w n.wires
section
variable {n0 : Nat} {gg : AH} {i8 i9 r : Sk.Id} {av cl : AV} {f : Int} {m0 : Nat}
theorem KeptC.app {n0 : Nat} {g h h' : AH} (hk : KeptC n0 g h) (ha : ∀ q o, h.get q = some o → NotGrp h q → q.nat < h.next.nat → h'.get q = some o) (hn : h.next.nat ≤ h'.next.nat) : KeptC n0 g h' :=
  ⟨fun q o hq hg hlt => ha q o (hk.1 q o hq hg hlt) (fun n hn => by rw [hk.1 q o hq hg hlt] at hn; exact hg n (by simpa using hn)) (Nat.lt_of_lt_of_le hlt hk.2), Nat.le_trans hk.2 hn⟩
structure InvN (n0 : Nat) (gg : AH) (i8 i9 r : Sk.Id) (cl : AV) (f : Int) (lk : List Int) (W : List Wr) (h : AH) : Prop where
  g8 : h.get i8 = some (.cells [.nilsl, .int .i64 0, .nilsl] 49)
  g9 : ∃ wl, h.get i9 = some (.cells [cl, .int .i64 f, wl] 49) ∧ Grow h wl (W.map wireV)
  gr : h.get r = some (.cells (lk.map intV) 3)
  o1 : r.nat < i8.nat
  o2 : i8.nat < i9.nat
  lt : i9.nat < h.next.nat
  kc : KeptC n0 gg h
theorem one_wireG {call : CallT} {W : List Wr} {t : Wr} {h : AH} {l : AV} (hl : Grow h l (W.map wireV)) (hb : W.length ≤ 100000000) :
    ∃ l' h', aBuiltin ⟨Tryz.prog, mu0, call⟩ false .append #[47, 47] [l, .vsl [wireV t] .lit] h = some (.ret l', h') ∧ Grow h' l' ((W ++ [t]).map wireV) ∧ h.next.nat ≤ h'.next.nat ∧ (∀ q o, h.get q = some o → NotGrp h q → q.nat < h.next.nat → h'.get q = some o) := by
  obtain ⟨l', h', a1, _, a2, a3, a4⟩ := app_wires (call := call) (W := W) (Y := [t]) (h := h) (l := l) (x := .vsl [wireV t] .lit) (.inl hl) (.inr ⟨_, rfl⟩) (by simp; omega)
  exact ⟨l', h', a1, a2 (by simp), a3, a4⟩
theorem lNt (call rgn n) (on : n0 ≤ i8.nat) (all : List Pt) (lk : List Int) (ha : IsL av (all.map portV)) (hm0 : all.length = m0) (hml : m0 ≤ 1000000) (hll : lk.length = m0) (hb : ∀ (i : Nat) (b : Int), lk[i]? = some b → 0 ≤ b ∧ b < m0) (hrg : ∀ id ops st, rgn id ops st = drawn ⟨Tryz.prog, mu0, call⟩ 55 ops st) {T : List Wr}
    {K : KC (AOut × AH)} {Q : Option (AOut × AH) → Prop} (hN : ¬ Q none)
    (hK : ∀ {h : AH} {g0 g1 g2 g3 g4 g5 g6 g7 aA aB aC aD aE aF aG aH aI aJ aK aL aM aN aO aP aQ aR aS aT aU aV aW aX aY aZ bA bB bC bD bE bF bG bH bI bJ bK bL bM bN bO bP : AV}, InvN n0 gg i8 i9 r cl f lk T h → Q (K (.exit 0) ⟨[g0,g1,g2,g3,g4,g5,g6,g7,.ptr i8 0,.ptr i9 0,aA,aB,aC,aD,aE,aF,aG,aH,aI,aJ,aK,aL,aM,aN,aO,aP,aQ,aR,aS,aT,aU,aV,aW,aX,aY,aZ,bA,bB,bC,bD,bE,bF,bG,bH,bI,bJ,bK,bL,bM,bN,bO,bP], [], h⟩)) :
    ∀ (m i : Nat) {z : Int} {W : List Wr} {h : AH} {g0 g1 g2 g4 g5 g6 g7 aC aD aE aF aG aH aI aJ aK aL aM aN aO aP aQ aR aS aT aU aV aW aX aY aZ bA bB bC bD bE bF bG bH bI bJ bK bL bM bN bO bP : AV}, z = i → i ≤ lk.length → lk.length - i < m → W.length ≤ i → W ++ neatF all (lk.drop i) i = T → InvN n0 gg i8 i9 r cl f lk W h →
    Q (cIter (LB shT call rgn n 55 Tryz.f55 0) m ⟨[g0,g1,g2,.hsl r 0 m0 (.known m0),g4,g5,g6,g7,.ptr i8 0,.ptr i9 0,av,.int .i64 z,aC,aD,aE,aF,aG,aH,aI,aJ,aK,aL,aM,aN,aO,aP,aQ,aR,aS,aT,aU,aV,aW,aX,aY,aZ,bA,bB,bC,bD,bE,bF,bG,bH,bI,bJ,bK,bL,bM,bN,bO,bP], [], h⟩ K) := by
  have u : Tryz.prog.underlying 145 = some (.slice 44) := by kernel_rfl
  have ui : Tryz.prog.underlying 42 = some (.slice 3) := by kernel_rfl
  have hlen := fun h => len_H (X := ⟨Tryz.prog, mu0, call⟩) (r := r) (m := m0) (h := h) ui
  intro m
  induction m with
  | zero => intros; omega
  | succ m ih =>
    intro i z W h g0 g1 g2 g4 g5 g6 g7 aC aD aE aF aG aH aI aJ aK aL aM aN aO aP aQ aR aS aT aU aV aW aX aY aZ bA bB bC bD bE bF bG bH bI bJ bK bL bM bN bO bP hz hi hm hW hT hI
    rw [cIter_succ]
    conv => arg 1; whnf
    refine atCall_P (hlen h) ?_
    conv => arg 1; whnf
    split
    · rename_i hd
      have hlt : i < lk.length := by simp at hd; omega
      obtain ⟨g8, ⟨wl, g9, gw⟩, gr, o1, o2, lt, kc⟩ := hI
      have hdrop : lk.drop i = lk[i] :: lk.drop (i + 1) := List.drop_eq_getElem_cons hlt
      have hgi : lk[i]? = some lk[i] := List.getElem?_eq_getElem hlt
      obtain ⟨b0, bm⟩ := hb i _ hgi
      rw [hdrop] at hT
      simp only [neatF] at hT
      generalize lk[i] = b at hgi b0 bm hT
      have hz' : IntKind.i64.wrap (z + 1) = ((i + 1 : Nat) : Int) := by rw [hz]; exact wrap_succ (by omega)
      have ia := fun h => hix (r := r) (m := m0) (a := z) (h := h) ui (by kernel_rfl) (by omega) (by omega)
      have la : ∀ h, h.get r = some (.cells (lk.map intV) 3) → vOf h (aLoad Tryz.prog 3 (.ptr r (0 + z.toNat * 1)) h) = some (.ret (.int .i64 b), h) := fun h gr => hld (v := .int .i64 b) gr (by kernel_rfl) (by kernel_rfl) (by rw [List.getElem?_map, hz, Int.toNat_natCast, hgi]; rfl)
      conv => arg 1; whnf
      refine atCall_P (ia h) ?_
      conv => arg 1; whnf
      refine atCall_P (la h gr) ?_
      conv => arg 1; whnf
      cases e1 : decide (b > z)
      · have hn : ¬ b > (i : Int) := by simp at e1; omega
        rw [if_neg hn] at hT
        conv => arg 1; whnf
        exact ih (i + 1) hz' (by omega) (by omega) (by omega) hT ⟨g8, ⟨wl, g9, gw⟩, gr, o1, o2, lt, kc⟩
      · have hn : b > (i : Int) := by simp at e1; omega
        rw [if_pos hn] at hT
        have hgi2 : all[i]? = some all[i] := List.getElem?_eq_getElem (by omega)
        have hgb2 : all[b.toNat]? = some all[b.toNat] := List.getElem?_eq_getElem (by omega)
        rw [getD_some hgi2, getD_some hgb2] at hT
        have hg : (all.map portV)[i]? = some (portV all[i]) := by rw [List.getElem?_map, hgi2]; rfl
        have hgb : (all.map portV)[b.toNat]? = some (portV all[b.toNat]) := by rw [List.getElem?_map, hgb2]; rfl
        have hidx := fun h => idx_L (P := Tryz.prog) (t := 145) (e := 44) (n := 2) (h := h) (k := .i64) u (by kernel_rfl) ha hz hg rfl
        have hidb := fun h => idx_L (P := Tryz.prog) (t := 145) (e := 44) (n := 2) (h := h) (k := .i64) (i := b.toNat) u (by kernel_rfl) ha (show b = ((b.toNat : Nat) : Int) by omega) hgb rfl
        generalize all[i] = p at hidx hT
        generalize all[b.toNat] = q at hidb hT
        obtain ⟨p0, p1⟩ := p
        obtain ⟨q0, q1⟩ := q
        have lw : ∀ h, h.get i9 = some (.cells [cl, .int .i64 f, wl] 49) → vOf h (aLoad Tryz.prog 47 (.ptr i9 2) h) = some (.ret wl, h) := fun h g => ld_ptr (n := 1) g (by kernel_rfl) (by kernel_rfl) rfl
        obtain ⟨wl', h2, r1, r2, r3, r4⟩ := one_wireG (call := call) (t := (p0, p1, q0, q1)) gw (by omega)
        conv => arg 1; whnf
        refine atRgn_N true (fun hh => hh.get i9 = some (.cells [cl, .int .i64 f, wl] 49) ∧ hh.get r = some (.cells (lk.map intV) 3)) (T := [0, 1, 0, 0, 12, 28, 0, 0, 0, 384, 896, 1984, 4032, 8188, 16380, 32767, 65535, 131071]) (ord := [0, 1, 2, 3, 4, 5, 6, 7, 8, 9, 10, 11, 12, 13, 14, 15, 16, 17]) (by kernel_rfl) (hrg _ _ _) hN ?_
        conv => arg 1; whnf
        refine atCall_P (lw h g9) ?_
        conv => arg 1; whnf
        refine atCall_P (hidx h) ?_
        conv => arg 1; whnf
        refine atCall_P (ia h) ?_
        conv => arg 1; whnf
        refine atCall_P (la h gr) ?_
        conv => arg 1; whnf
        refine atCall_P (hidb h) ?_
        conv => arg 1; whnf
        refine atCall_P (r1) ?_
        have e9 := r4 _ _ g9 (notGrp g9) lt
        have er := r4 _ _ gr (notGrp gr) (by omega)
        have e8 := r4 _ _ g8 (notGrp g8) (by omega)
        have hls : wl'.scalar = true := isL_scalar (grow_isL r2)
        have st : hOf (aStore Tryz.prog 47 (.ptr i9 2) wl' h2) = some (.ret undefA, h2.set i9 (.cells [cl, .int .i64 f, wl'] 49)) := by
          have hcl : wl'.cells = [wl'] := isL_cells (grow_isL r2)
          rw [st_ptr (n := 1) e9 (by kernel_rfl) (by rw [hcl]; rfl) (by simp) (by rw [hcl]; simp only [List.all_cons, hls, List.all_nil]; rfl), hcl]; rfl
        conv => arg 1; whnf
        refine atCall_P (st) ?_
        conv => arg 1; whnf
        refine atP_P ⟨?_, (fun k hk hp => match k, hk, hp with
          | 0, _, _ => ⟨g9, gr⟩
          | 1, _, hp => no_pos hp (by kernel_rfl)
          | 2, _, hp => no_pos hp (by kernel_rfl)
          | k + 3, hk, hp => absurd hk (by simp)), (fun a ha => by cases ha), rfl⟩ ?_
        · refine ⟨trivial, fun _ hh g => ⟨hh, lw hh g.1⟩, trivial, trivial, trivial, fun _ hh g => ⟨hh, rfl⟩, trivial, trivial, trivial, trivial, fun _ hh g => ⟨hh, la hh g.2⟩, trivial, fun _ hh g => ⟨hh, rfl⟩, trivial, trivial, trivial, trivial, trivial, trivial⟩
        have gw3 := grow_set r2 (.cells [cl, .int .i64 f, wl'] 49) (notGrp e9)
        clear st
        have kc2 := kc.app r4 r3
        generalize hh_h3 : h2.set i9 (.cells [cl, .int .i64 f, wl'] 49) = h3 at *
        obtain ⟨b_i9, n_h3, k_h3⟩ := set_facts hh_h3
        replace e8 := k_h3 _ _ e8 (by rintro rfl; omega)
        replace er := k_h3 _ _ er (by rintro rfl; omega)
        replace kc2 : KeptC _ _ h3 := hh_h3 ▸ kc2.set _ (by omega)
        clear hh_h3 k_h3
        replace n_h3 : h3.next.nat = h2.next.nat := congrArg Id.nat n_h3
        conv => arg 1; whnf
        exact ih (i + 1) hz' (by omega) (by omega) (by simp; omega) (by rw [List.append_assoc]; exact hT) ⟨e8, ⟨wl', b_i9, gw3⟩, er, o1, o2, by omega, kc2⟩
    · rename_i hd
      have hlt : ¬ i < lk.length := by simp at hd; omega
      rw [List.drop_eq_nil_of_le (by omega)] at hT
      simp only [neatF, List.append_nil] at hT
      subst hT
      exact hK hI
end
set_option maxHeartbeats 1000000 in
theorem bNt (call rgn n) (x cv : AV) (r : Sk.Id) (s : List Ag) (nt : Nt) (lk : List Int) (m0 : Nat) (hx : IsSig x s) (hc : IsL cv (nt.cells.map intV)) (ho : okF s ⟨nt.cells, nt.free, []⟩) (hAl : hAl call) (hm0 : (portsL s nt).length = m0) (hml : m0 ≤ 1000000) (hll : lk.length = m0) (hb : ∀ (i : Nat) (b : Int), lk[i]? = some b → 0 ≤ b ∧ b < m0) (hn : 1000000 < n)
    (hrg : ∀ id ops st, rgn id ops st = drawn ⟨Tryz.prog, mu0, call⟩ 55 ops st) (h : AH) (gr : h.get r = some (.cells (lk.map intV) 3)) (lr : r.nat < h.next.nat) :
    ∃ u h', B shT call rgn n 55 Tryz.f55 [x, cv, .int .i64 nt.free, .hsl r 0 m0 (.known m0)] h = some (.ret u, h') ∧ IsNetC u ⟨nt.cells, nt.free, neatF (portsL s nt) lk 0⟩ ∧ KeptC h.next.nat h h' := by
  suffices hq : ∀ Q : Option (AOut × AH) → Prop, ¬ Q none → (∀ u h', IsNetC u ⟨nt.cells, nt.free, neatF (portsL s nt) lk 0⟩ → KeptC h.next.nat h h' → Q (some (.ret u, h'))) → Q (B shT call rgn n 55 Tryz.f55 [x, cv, .int .i64 nt.free, .hsl r 0 m0 (.known m0)] h) from
    hq (fun y => ∃ u h', y = some (.ret u, h') ∧ IsNetC u ⟨nt.cells, nt.free, neatF (portsL s nt) lk 0⟩ ∧ KeptC h.next.nat h h') (by rintro ⟨_, _, h, _⟩; cases h) (fun u h' h1 h2 => ⟨u, h', rfl, h1, h2⟩)
  intro Q hN hQ
  have kc0 : KeptC h.next.nat h h := ⟨fun q o hq _ _ => hq, Nat.le_refl _⟩
  generalize hn0 : h.next.nat = n0 at kc0 hQ
  obtain ⟨gg, hgg⟩ : ∃ gg, gg = h := ⟨h, rfl⟩
  have kc : KeptC n0 gg h := by rw [hgg]; exact kc0
  rw [← hgg] at hQ
  clear hgg kc0
  have hcs := isL_scalar hc
  have fin : ∀ (hh : AH) (c0 w0 : AV), IsNetC (.agg [c0, .int .i64 nt.free, w0]) ⟨nt.cells, nt.free, neatF (portsL s nt) lk 0⟩ → KeptC n0 gg hh → ∀ {i8 : Sk.Id}, hh.get i8 = some (.cells [c0, .int .i64 nt.free, w0] 49) → ∀ {g0 g1 g2 g3 g4 g5 g6 g7 g9 aA aB aC aD aE aF aG aH aI aJ aK aL aM aN aO aP aQ aR aS aT aU aV aW aX aY aZ bA bB bC bD bE bF bG bH bI bJ bK bL bM bN bO bP : AV}, Q (atLeave Tryz.prog Tryz.f55 .ret ⟨[g0,g1,g2,g3,g4,g5,g6,g7,.ptr i8 0,g9,aA,aB,aC,aD,aE,aF,aG,aH,aI,aJ,aK,aL,aM,aN,aO,aP,aQ,aR,aS,aT,aU,aV,aW,aX,aY,aZ,bA,bB,bC,bD,bE,bF,bG,bH,bI,bJ,bK,bL,bM,bN,bO,bP], [], hh⟩) := by
    intro hh c0 w0 he hk i8 hg
    intros
    have ld : aLoad Tryz.prog 49 (.ptr i8 0) hh = some (.agg [c0, .int .i64 nt.free, w0]) := ld_val (ld_agg (r := i8) (off := 0) (cs := [c0, .int .i64 nt.free, w0]) (T := 49) (n := 3) hg (by kernel_rfl) (by kernel_rfl) (by simp))
    refine atLeave_P (leave_plain (.inl rfl) (l := [.agg [c0, .int .i64 nt.free, w0]]) ?_) (hQ _ _ he hk)
    show (match aLoad Tryz.prog 49 (.ptr i8 0) hh, some ([] : List AV) with | some v, some l => some (v :: l) | _, _ => none) = _
    rw [ld]
  conv => arg 1; whnf
  refine atCall_P (alloc_new (z := .agg [.nilsl, .int .i64 0, .nilsl]) (cs := [.nilsl, .int .i64 0, .nilsl]) (by kernel_rfl) rfl rfl) ?_
  generalize hh_h1 : h.alloc (.cells [.nilsl, .int .i64 0, .nilsl] 49) = h1 at *
  obtain ⟨a_i8, n_i8, k_h1⟩ := alloc_facts hh_h1
  replace gr := k_h1 _ _ gr (by omega)
  replace kc : KeptC _ _ h1 := hh_h1 ▸ kc.alloc _
  clear hh_h1 k_h1
  generalize hi_i8 : h.next = i8 at *
  clear hi_i8
  conv => arg 1; whnf
  refine atCall_P (alloc_new (z := .agg [.nilsl, .int .i64 0, .nilsl]) (cs := [.nilsl, .int .i64 0, .nilsl]) (by kernel_rfl) rfl rfl) ?_
  generalize hh_h2 : h1.alloc (.cells [.nilsl, .int .i64 0, .nilsl] 49) = h2 at *
  obtain ⟨a_i9, n_i9, k_h2⟩ := alloc_facts hh_h2
  replace gr := k_h2 _ _ gr (by omega)
  replace a_i8 := k_h2 _ _ a_i8 (by omega)
  replace kc : KeptC _ _ h2 := hh_h2 ▸ kc.alloc _
  clear hh_h2 k_h2
  generalize hi_i9 : h1.next = i9 at *
  clear hi_i9
  have st : hOf (aStore Tryz.prog 49 (.ptr i9 0) (.agg [.nilsl, .int .i64 nt.free, .nilsl]) h2) = some (.ret undefA, h2.set i9 (.cells [.nilsl, .int .i64 nt.free, .nilsl] 49)) := st_ptr (n := 3) a_i9 (by kernel_rfl) rfl (by simp) rfl
  conv => arg 1; whnf
  refine atCall_P (st) ?_
  clear st
  generalize hh_h3 : h2.set i9 (.cells [.nilsl, .int .i64 nt.free, .nilsl] 49) = h3 at *
  obtain ⟨b_i9, n_h3, k_h3⟩ := set_facts hh_h3
  replace gr := k_h3 _ _ gr (by rintro rfl; omega)
  replace a_i8 := k_h3 _ _ a_i8 (by rintro rfl; omega)
  replace kc : KeptC _ _ h3 := hh_h3 ▸ kc.set _ (by omega)
  clear hh_h3 k_h3
  replace n_h3 : h3.next.nat = h2.next.nat := congrArg Id.nat n_h3
  have l0 : vOf h3 (aLoad Tryz.prog 42 (.ptr i9 0) h3) = some (.ret .nilsl, h3) := ld_ptr (n := 1) b_i9 (by kernel_rfl) (by kernel_rfl) rfl
  conv => arg 1; whnf
  refine atCall_P (l0) ?_
  obtain ⟨l1, h4, r1, r2, r3, r4, r5⟩ := cp_ints (call := call) (h := h3) hc (by have := ho.2.1; simp at this; omega)
  conv => arg 1; whnf
  refine atCall_P (r1) ?_
  have e9 := r5 _ _ b_i9 (notGrp b_i9) (by omega)
  have e8 := r5 _ _ a_i8 (notGrp a_i8) (by omega)
  have er := r5 _ _ gr (notGrp gr) (by omega)
  replace kc := kc.app r5 r4
  have hl1 := isL_scalar r2.isL
  have st : hOf (aStore Tryz.prog 42 (.ptr i9 0) l1 h4) = some (.ret undefA, h4.set i9 (.cells [l1, .int .i64 nt.free, .nilsl] 49)) := by
    have hcl : l1.cells = [l1] := isL_cells r2.isL
    rw [st_ptr (n := 1) e9 (by kernel_rfl) (by rw [hcl]; rfl) (by simp) (by rw [hcl]; simp only [List.all_cons, hl1, List.all_nil]; rfl), hcl]; rfl
  conv => arg 1; whnf
  refine atCall_P (st) ?_
  clear st l0 r1 r5
  generalize hh_h5 : h4.set i9 (.cells [l1, .int .i64 nt.free, .nilsl] 49) = h5 at *
  obtain ⟨b_i9, n_h5, k_h5⟩ := set_facts hh_h5
  replace er := k_h5 _ _ er (by rintro rfl; omega)
  replace e8 := k_h5 _ _ e8 (by rintro rfl; omega)
  replace kc : KeptC _ _ h5 := hh_h5 ▸ kc.set _ (by omega)
  clear hh_h5 k_h5
  replace n_h5 : h5.next.nat = h4.next.nat := congrArg Id.nat n_h5
  have ln : vOf h5 (aLoad Tryz.prog 49 (.ptr i9 0) h5) = some (.ret (.agg [l1, .int .i64 nt.free, .nilsl]), h5) := ld_agg (n := 3) b_i9 (by kernel_rfl) (by kernel_rfl) (by simp)
  have pA := hAl x (.agg [l1, .int .i64 nt.free, .nilsl]) s ⟨nt.cells, nt.free, []⟩ h5 hx ⟨_, _, rfl, r2.isL, .inl ⟨rfl, rfl⟩⟩ ho
  rw [show portsL s ⟨nt.cells, nt.free, []⟩ = portsL s nt from rfl] at pA
  have isa := listW_isL (enc := portV) (portsL s nt)
  generalize listW portV (portsL s nt) = av at isa pA
  conv => arg 1; whnf
  refine atCall_P (ln) ?_
  conv => arg 1; whnf
  refine atCall_P (pA) ?_
  conv => arg 1; whnf
  refine lNt (n0 := n0) (gg := gg) (cl := l1) (f := nt.free) call rgn n (by omega) (portsL s nt) lk isa hm0 hml hll hb hrg (T := neatF (portsL s nt) lk 0) hN ?_ n 0 (z := 0) (W := []) rfl (Nat.zero_le _) (by omega) (Nat.le_refl _) (by rw [List.drop_zero]; rfl) ⟨e8, ⟨.nilsl, b_i9, .inl ⟨rfl, rfl⟩⟩, er, by omega, by omega, by omega, kc⟩
  intro h6 g0 g1 g2 g3 g4 g5 g6 g7 aA aB aC aD aE aF aG aH aI aJ aK aL aM aN aO aP aQ aR aS aT aU aV aW aX aY aZ bA bB bC bD bE bF bG bH bI bJ bK bL bM bN bO bP hI
  obtain ⟨f8, ⟨wl, f9, gw⟩, fr, p1, p2, p3, kd⟩ := hI
  have ln2 : vOf h6 (aLoad Tryz.prog 49 (.ptr i9 0) h6) = some (.ret (.agg [l1, .int .i64 nt.free, wl]), h6) := ld_agg (n := 3) f9 (by kernel_rfl) (by kernel_rfl) (by simp)
  have hls := isL_scalar (grow_isL gw)
  have st2 : hOf (aStore Tryz.prog 49 (.ptr i8 0) (.agg [l1, .int .i64 nt.free, wl]) h6) = some (.ret undefA, h6.set i8 (.cells [l1, .int .i64 nt.free, wl] 49)) := st_ptr (n := 3) f8 (by kernel_rfl) rfl (by simp) (by show (l1.scalar && (true && (wl.scalar && true))) = true; rw [hl1, hls]; rfl)
  conv => arg 1; whnf
  refine atCall_P (ln2) ?_
  conv => arg 1; whnf
  refine atCall_P (st2) ?_
  conv => arg 1; whnf
  exact fin _ _ _ ⟨_, _, rfl, r2, IsN.of_grow gw⟩ (kd.set _ (by omega)) (by rw [AH.get_set, if_pos rfl])
theorem bNe (call rgn n) (x v : AV) (s : List Ag) (nt : Nt) (hx : IsSig x s) (hv : IsNet v nt) (N' : Nt) (hf' : N'.free = nt.free) (lk : List Int) (m0 : Nat)
    (hLk : ∀ v h, IsNet v nt → ∃ r h', call (.func 56) [x, v] h = some (.ret (.hsl r 0 m0 (.known m0)), h') ∧ h'.get r = some (.cells (lk.map intV) 3) ∧ h.next.nat ≤ r.nat ∧ r.nat < h'.next.nat ∧ Kept h.next.nat h h')
    (hNt : ∀ (cv : AV) (r : Sk.Id) (h : AH), IsL cv (nt.cells.map intV) → h.get r = some (.cells (lk.map intV) 3) → r.nat < h.next.nat → ∃ u h', call (.func 55) [x, cv, .int .i64 nt.free, .hsl r 0 m0 (.known m0)] h = some (.ret u, h') ∧ IsNetC u N' ∧ KeptC h.next.nat h h')
    (hrg : ∀ id ops st, rgn id ops st = drawn ⟨Tryz.prog, mu0, call⟩ 35 ops st) (h : AH) :
    ∃ u h', B shT call rgn n 35 Tryz.f35 [x, v] h = some (.ret u, h') ∧ IsNetC u N' := by
  suffices hq : ∀ Q : Option (AOut × AH) → Prop, ¬ Q none → (∀ u h', IsNetC u N' → Q (some (.ret u, h'))) → Q (B shT call rgn n 35 Tryz.f35 [x, v] h) from
    hq (fun y => ∃ u h', y = some (.ret u, h') ∧ IsNetC u N') (by rintro ⟨_, _, h, _⟩; cases h) (fun u h' h1 => ⟨u, h', rfl, h1⟩)
  intro Q hN hQ
  have hv0 := hv
  obtain ⟨c, w, rfl, hc, hw⟩ := hv
  have hcs := isL_scalar hc
  have hws := isL_scalar hw
  conv => arg 1; whnf
  refine atCall_P (box_new (cs := [c, .int .i64 nt.free, w]) rfl (by simp only [List.all_cons, hcs, hws, List.all_nil]; rfl)) ?_
  generalize hh_h1 : h.alloc (.cells [c, .int .i64 nt.free, w] 49) = h1 at *
  obtain ⟨a_i3, n_i3, k_h1⟩ := alloc_facts hh_h1
  clear hh_h1 k_h1
  generalize hi_i3 : h.next = i3 at *
  clear hi_i3
  conv => arg 1; whnf
  refine atCall_P (alloc_new (z := .agg [.nilsl, .int .i64 0, .nilsl]) (cs := [.nilsl, .int .i64 0, .nilsl]) (by kernel_rfl) rfl rfl) ?_
  generalize hh_h2 : h1.alloc (.cells [.nilsl, .int .i64 0, .nilsl] 49) = h2 at *
  obtain ⟨a_i4, n_i4, k_h2⟩ := alloc_facts hh_h2
  replace a_i3 := k_h2 _ _ a_i3 (by omega)
  clear hh_h2 k_h2
  generalize hi_i4 : h1.next = i4 at *
  clear hi_i4
  have ln : ∀ h, h.get i3 = some (.cells [c, .int .i64 nt.free, w] 49) → vOf h (aLoad Tryz.prog 49 (.ptr i3 0) h) = some (.ret (.agg [c, .int .i64 nt.free, w]), h) := fun h g => ld_agg (n := 3) g (by kernel_rfl) (by kernel_rfl) (by simp)
  have lc : ∀ h, h.get i3 = some (.cells [c, .int .i64 nt.free, w] 49) → vOf h (aLoad Tryz.prog 42 (.ptr i3 0) h) = some (.ret c, h) := fun h g => ld_ptr (n := 1) g (by kernel_rfl) (by kernel_rfl) rfl
  have lf : ∀ h, h.get i3 = some (.cells [c, .int .i64 nt.free, w] 49) → vOf h (aLoad Tryz.prog 3 (.ptr i3 1) h) = some (.ret (.int .i64 nt.free), h) := fun h g => ld_ptr (n := 1) g (by kernel_rfl) (by kernel_rfl) rfl
  obtain ⟨r, h3, q1, q2, q3, q4, q5⟩ := hLk (.agg [c, .int .i64 nt.free, w]) h2 hv0
  have e3 := q5.1 _ _ a_i3 (by omega)
  have e4 := q5.1 _ _ a_i4 (by omega)
  have n3 := q5.2
  obtain ⟨u, h4, r1, r2, r3⟩ := hNt c r h3 hc q2 q4
  have f4 := r3.1 _ _ e4 (fun n => by simp) (by omega)
  obtain ⟨c0, w0, rfl, s1, s2⟩ := r2
  have t1 := isL_scalar s1.isL
  have t2 := isL_scalar s2.isL
  have st : hOf (aStore Tryz.prog 49 (.ptr i4 0) (.agg [c0, .int .i64 N'.free, w0]) h4) = some (.ret undefA, h4.set i4 (.cells [c0, .int .i64 N'.free, w0] 49)) := st_ptr (n := 3) f4 (by kernel_rfl) rfl (by simp) (by show (c0.scalar && (true && (w0.scalar && true))) = true; rw [t1, t2]; rfl)
  conv => arg 1; whnf
  refine atRgn_N true (fun hh => hh.get i3 = some (.cells [c, .int .i64 nt.free, w] 49)) (T := [0, 0, 2, 0, 8, 0, 0, 96, 255, 511]) (ord := [0, 1, 2, 3, 4, 5, 6, 7, 8, 9]) (by kernel_rfl) (hrg _ _ _) hN ?_
  conv => arg 1; whnf
  refine atCall_P (lc h2 a_i3) ?_
  conv => arg 1; whnf
  refine atCall_P (lf h2 a_i3) ?_
  conv => arg 1; whnf
  refine atCall_P (ln h2 a_i3) ?_
  conv => arg 1; whnf
  refine atCall_P (q1) ?_
  conv => arg 1; whnf
  refine atCall_P (r1) ?_
  conv => arg 1; whnf
  refine atCall_P (st) ?_
  conv => arg 1; whnf
  refine atP_P ⟨?_, (fun k hk hp => match k, hk, hp with
    | 0, _, _ => a_i3
    | 1, _, _ => e3
    | 2, _, hp => no_pos hp (by kernel_rfl)
    | 3, _, hp => no_pos hp (by kernel_rfl)
    | k + 4, hk, hp => absurd hk (by simp)), (fun a ha => by cases ha), rfl⟩ ?_
  · refine ⟨trivial, trivial, fun _ hh g => ⟨hh, lc hh g⟩, trivial, fun _ hh g => ⟨hh, lf hh g⟩, trivial, fun _ hh g => ⟨hh, ln hh g⟩, trivial, trivial, trivial, trivial⟩
  conv => arg 1; whnf
  have ld : aLoad Tryz.prog 49 (.ptr i4 0) (h4.set i4 (.cells [c0, .int .i64 N'.free, w0] 49)) = some (.agg [c0, .int .i64 N'.free, w0]) := ld_val (ld_agg (r := i4) (off := 0) (cs := [c0, .int .i64 N'.free, w0]) (T := 49) (n := 3) (by rw [AH.get_set, if_pos rfl]) (by kernel_rfl) (by kernel_rfl) (by simp))
  refine atLeave_P (leave_plain (.inl rfl) (l := [.agg [c0, .int .i64 N'.free, w0]]) ?_) (hQ _ _ ⟨_, _, rfl, s1, s2⟩)
  show (match aLoad Tryz.prog 49 (.ptr i4 0) (h4.set i4 (.cells [c0, .int .i64 N'.free, w0] 49)), some ([] : List AV) with | some v, some l => some (v :: l) | _, _ => none) = _
  rw [ld]
def sNe : List AV → Option AV
  | [x, v] => match sigOf x, netOf v with | some s, some n => if n.wires.length ≤ 1000000 ∧ (netChk s n).1 = 0 then some (netC (tidyN s n)) else none | _, _ => none
  | _ => none
def hkNe := addHk hkRT 35 sNe
theorem ENe : EvOK (mkEv Tryz.prog mu0 hkNe) := mkEv_add3 ERT fun args v hs => by
  unfold sNe at hs; split at hs
  · rename_i x v'
    split at hs
    · rename_i s n h1 h2
      split at hs
      · rename_i hl
        cases hs
        have g := good_of hl.2
        have hP := sigChk_ports g.sg
        have hml := ports_len' hP g.f1 g.cl
        have ho : okF s ⟨n.cells, n.free, []⟩ := ⟨g.sg, by have := g.cl; simp; omega, by have := g.f0; simp; omega, by have := g.f1; simp; omega, by simp⟩
        obtain ⟨N, hN⟩ : ∃ N, N = n.wires.length + 1000001 := ⟨_, rfl⟩
        obtain ⟨u, h', hb, hu⟩ := bNe (evCall (mkEv Tryz.prog mu0 hkRT) (N + 1)) (rg Tryz.prog mu0 hkRT (N + 1) 35) (N + 1) x v' s n (decL_inv h1) (netOf_inv h2) (tidyN s n) rfl (links03 s n n.wires (List.replicate (portsL s n).length 0)) (portsL s n).length
          (fun v h hv => by
            obtain ⟨r, h', q0, q⟩ := bLk (evCall (mkEv Tryz.prog mu0 hkRT) N) (rg Tryz.prog mu0 hkRT N 56) N x v s n (decL_inv h1) hv g hl.1 (hF1_of (fun _ _ => rfl) (by omega)) (hPl_of (fun _ _ => rfl) (by omega)) (by omega) h
            exact ⟨r, h', ev_of_cBodyS tab57 rfl Tryz.func56 rfl fits57 q0, q⟩)
          (fun cv r h hc gr lr => by
            obtain ⟨u, h', q0, q1, q2⟩ := bNt (evCall (mkEv Tryz.prog mu0 hkRT) N) (rg Tryz.prog mu0 hkRT N 55) N x cv r s n (links03 s n n.wires (List.replicate (portsL s n).length 0)) (portsL s n).length (decL_inv h1) hc ho (hAl_of (fun _ _ => rfl) (by omega)) rfl (by omega) (by rw [links03_len, List.length_replicate]) (fun i b hb => by
              rw [links_good g, List.getElem?_map] at hb
              cases hp : (portsL s n)[i]? with
              | none => rw [hp] at hb; cases hb
              | some p =>
                rw [hp] at hb
                obtain ⟨v, b', _, _, v3, v4, _⟩ := lk_at g (List.mem_of_getElem? hp)
                obtain ⟨i1, i2, _, _⟩ := g.inv.val (List.mem_of_getElem? hp)
                obtain ⟨w, w1, w2⟩ := place_at (fun a => (hP a).1) g.f0 (isPort_iff.2 i1)
                have hw := (List.getElem?_eq_some_iff.1 w2).1
                simp only [Option.map_some, Option.some.injEq, vP, i2] at hb
                omega) (by omega) (fun _ _ _ => rfl) h gr lr
            refine ⟨u, h', ev_of_cBodyS shT rfl Tryz.func55 rfl (by kernel_rfl) q0, ?_, q2⟩
            rw [links_good g] at q1
            rw [← neat_tidy g]; exact q1) (fun _ _ _ => rfl) .empty
        obtain ⟨c0, w0, rfl, s1, s2⟩ := hu
        obtain ⟨e1, f1⟩ := s1.weak (fun _ => rfl) (fun _ => rfl)
        obtain ⟨e2, f2⟩ := s2.weak (fun _ => rfl) (fun _ => rfl)
        refine ⟨_, ?_, ?_, ev_ofS shT rfl Tryz.func35 rfl (by kernel_rfl) hb⟩
        · show (freeV c0 && (true && (freeV w0 && true))) = true
          rw [f1, f2]; rfl
        · show _ = AV.agg [weakV c0, .int .i64 (tidyN s n).free, weakV w0]
          rw [e1, e2]; rfl
      · cases hs
    · cases hs
  · cases hs
def hNe (call : CallT) : Prop := ∀ x v s n h, IsSig x s → IsNet v n → n.wires.length ≤ 1000000 → (netChk s n).1 = 0 → call (.func 35) [x, v] h = some (.ret (netC (tidyN s n)), h)
theorem hNe_of {hk : Hooks} {n : Nat} (hk' : ∀ args h, hk 35 args h = hkNe 35 args h) (hn : 0 < n) : hNe (evCall (mkEv Tryz.prog mu0 hk) n) := fun x v s nt h hx hv hl h0 => ev_hk (by
  rw [hk']
  refine hk_top (by simp [freeL, sig_free hx, net_free hv]) ?_
  show (match sigOf (weakV x), netOf (weakV v) with | some s, some n => if n.wires.length ≤ 1000000 ∧ (netChk s n).1 = 0 then some (netC (tidyN s n)) else none | _, _ => none) = _
  rw [sigOf_of hx, netOf_of hv]; simp only [if_pos (And.intro hl h0)]) hn
def plRr16 : Plan := ⟨[0, 1, 2, 3, 5, 6, 9, 10, 12, 15, 16, 18, 4, 7, 8, 11, 13, 14, 17, 19, 20, 21, 22, 23, 24], [0, 1, 0, 4, 12, 0, 32, 124, 252, 0, 512, 1788, 0, 7932, 16124, 0, 32768, 114428, 0, 507644, 1031932, 2097148, 4194303, 8388607, 16777215]⟩
def plRr18 : Plan := ⟨[0, 1, 2, 3, 5, 6, 4, 7, 8, 9, 10, 11, 12], [0, 1, 0, 4, 12, 0, 32, 124, 252, 508, 1023, 2047, 4095]⟩
def NetsF (s : List Ag) (i : Nat) (i10 i11 : Sk.Id) (j : Nat) (E : List HE) : Prop := ∃ dc dw gc gw D1 D2 D3 D4, E = ⟨i10, .cells [dc, .int .i64 (2 + (arF s i : Int)), dw] 49, true⟩ :: ⟨i11, .cells [gc, .int .i64 (arF s i : Int), gw] 49, true⟩ :: (D1 ++ (D2 ++ (D3 ++ D4))) ∧
  Growing dc ((dCs (i : Int) (s.length : Int) j).map intV) D1 ∧ Growing dw ((dWs j).map wireV) D2 ∧ Growing gc ((List.replicate j ((s.length : Int) + 1)).map intV) D3 ∧ Growing gw ((eWs j).map wireV) D4
def NetsJ (s : List Ag) (x v7 v5 : AV) (i : Nat) (i10 i11 : Sk.Id) (F : List Sk.Id) (h0 : AH) (B R : List HE) (j : Nat) (tm : List AV) (h : AH) : Prop :=
  tm.length = 156 ∧ tm[0]? = some x ∧ tm[3]? = some (.int .i64 s.length) ∧ tm[4]? = some (.int .i64 ((s.length : Int) + 1)) ∧ tm[5]? = some v5 ∧ tm[7]? = some v7 ∧ tm[8]? = some (.int .i64 i) ∧ tm[9]? = some (.int .i64 (arF s i)) ∧ tm[10]? = some (.ptr i10 0) ∧ tm[11]? = some (.ptr i11 0) ∧ tm[12]? = some (.int .i64 ((j : Int) + 1)) ∧ j ≤ arF s i ∧
    ∃ E, NetsF s i i10 i11 j E ∧ Hb F h0 h (B ++ (E ++ R))
theorem sw2 {i : Nat} (h : i < 1000000) : some (AV.int .i64 (IntKind.i64.wrap ((i : Int) + 1 + 1))) = some (AV.int .i64 (((i + 1 : Nat) : Int) + 1)) := by rw [wrapS (by omega) (by omega)]; rfl
set_option maxHeartbeats 4000000 in
theorem lRk (call rgn n) (s : List Ag) (x v7 v5 : AV) (i : Nat) (i10 i11 : Sk.Id) (F : List Sk.Id) (h0 : AH) (B R : List HE) (a7 : arF s i < 7) (hs : s.length ≤ 1000) (dRf : hRf call) (dRa : hRa call) (hrg : ∀ id ops st, rgn id ops st = drawn ⟨Tryz.prog, mu0, call⟩ 15 ops st)
    {Q : Option (AOut × AH) → Prop} (hnone : ¬ Q none) {K : KC (AOut × AH)} (hK : ∀ tm h, NetsJ s x v7 v5 i i10 i11 F h0 B R (arF s i) tm h → Q (K (.exit 2) ⟨tm, [], h⟩)) {tm : List AV} {h : AH} (hI : NetsJ s x v7 v5 i i10 i11 F h0 B R 0 tm h) (hn : 10 < n) :
    Q (cIter (LB shT call rgn n 15 Tryz.f15 1) n ⟨tm, [], h⟩ K) := by
  refine rounds (NetsJ s x v7 v5 i i10 i11 F h0 B R) (fun j => arF s i - j) (n := n) (s0 := 0) hI (by show arF s i - 0 < n; omega) ?_
  clear hI
  rintro m2 j tm h ⟨hl2, t0, t3, t4, t5, t7, t8, t9, t10, t11, t12, hj, E, ⟨dc, dw, gc, gw, D1, D2, D3, D4, rfl, hG1, hG2, hG3, hG4⟩, H⟩ hm2 ih2
  simp only [List.cons_append, List.append_assoc] at H
  iterate 156 (obtain ⟨_, tm, rfl, hl3⟩ := exL hl2; clear hl2; have hl2 := hl3; clear hl3)
  obtain rfl := List.eq_nil_of_length_eq_zero hl2
  obtain rfl := (Option.some.inj t0).symm
  obtain rfl := (Option.some.inj t3).symm
  obtain rfl := (Option.some.inj t4).symm
  obtain rfl := (Option.some.inj t5).symm
  obtain rfl := (Option.some.inj t7).symm
  obtain rfl := (Option.some.inj t8).symm
  obtain rfl := (Option.some.inj t9).symm
  obtain rfl := (Option.some.inj t10).symm
  obtain rfl := (Option.some.inj t11).symm
  obtain rfl := (Option.some.inj t12).symm
  conv => arg 1; whnf
  split
  · rename_i hd
    have hlt : j < arF s i := by simp at hd; omega
    refine H.xL ?_
    refine H.xG hG1 (s.length : Int) (by rw [dCs_len]; omega) fun dc2 h E1 hG1 H => ?_
    refine H.xV hG1.cells hG1.scalar fun h H => ?_
    have w1 : IntKind.i64.wrap (1 + ((j : Int) + 1)) = 2 + (j : Int) := by rw [wrapS (by omega) (by omega)]; omega
    have w2 : IntKind.i64.wrap ((j : Int) + 1 - 1) = (j : Int) := by rw [wrapS (by omega) (by omega)]; omega
    refine xR plRr16 hnone hrg ?_
    refine H.xL ?_
    refine sC (dRf _ _) ?_
    refine sC (dRa _ _ _) ?_
    refine sC (dRa _ _ _) ?_
    refine sC (dRa _ _ _) ?_
    refine sC (dRa _ _ _) ?_
    refine sC (dRa _ _ _) ?_
    refine H.xGl 4 hG2 (bs := [(-1, IntKind.i64.wrap (1 + ((j : Int) + 1)), IntKind.i64.wrap (1 + ((j : Int) + 1)), 0), (IntKind.i64.wrap (1 + ((j : Int) + 1)), 1, 0, (j : Int) + 1), (IntKind.i64.wrap (1 + ((j : Int) + 1)), 2, 1, (j : Int) + 1)]) (.inr ⟨.lit, rfl⟩) (by rw [dWs_len]; simp; omega) fun dw2 h2 E2 hG2 H2 => ?_
    refine H2.xV hG2.cells hG2.scalar fun h3 H3 => ?_
    refine xO ?_
    have H := H3
    clear H2 H3
    rw [w1, ← dWs_succ] at hG2
    rw [← dCs_succ] at hG1
    refine H.xL ?_
    refine H.xG hG3 ((s.length : Int) + 1) (by simp; omega) fun gc2 h E3 hG3 H => ?_
    refine H.xV hG3.cells hG3.scalar fun h H => ?_
    refine xR plRr18 hnone hrg ?_
    refine H.xL ?_
    refine sC (dRf _ _) ?_
    refine sC (dRa _ _ _) ?_
    refine H.xG hG4 (-1, IntKind.i64.wrap ((j : Int) + 1 - 1), IntKind.i64.wrap ((j : Int) + 1 - 1), 0) (by rw [eWs_len]; omega) fun gw2 h4 E4 hG4 H4 => ?_
    refine H4.xV hG4.cells hG4.scalar fun h5 H5 => ?_
    refine xO ?_
    have H := H5
    clear H4 H5
    rw [w2, ← eWs_succ] at hG4
    rw [← List.replicate_succ'] at hG3
    conv => arg 1; whnf
    exact ih2 (j + 1) _ _ ⟨rfl, rfl, rfl, rfl, rfl, rfl, rfl, rfl, rfl, rfl, sw2 (by omega), by omega, _, ⟨_, _, _, _, _, _, _, _, rfl, hG1, hG2, hG3, hG4⟩, by simp only [List.cons_append, List.append_assoc]; exact H⟩ (by omega)
  rename_i hd
  obtain rfl : j = arF s i := by simp at hd; omega
  conv => arg 1; whnf
  exact hK _ _ ⟨rfl, rfl, rfl, rfl, rfl, rfl, rfl, rfl, rfl, rfl, rfl, Nat.le_refl _, _, ⟨dc, dw, gc, gw, D1, D2, D3, D4, rfl, hG1, hG2, hG3, hG4⟩, by simp only [List.cons_append, List.append_assoc]; exact H⟩
def plRr10 : Plan := ⟨[0, 1, 2, 3, 4, 5, 6, 7, 8, 9, 10, 11], [0, 1, 0, 4, 12, 12, 44, 108, 252, 511, 1023, 2047]⟩
def plRr19 : Plan := ⟨[0, 1, 2, 3, 4, 7, 8, 9, 10, 5, 6, 11, 12, 13, 14, 15], [0, 0, 0, 0, 0, 24, 62, 0, 0, 0, 0, 1592, 4024, 8190, 16383, 32767]⟩
def ruC (r : Rl) : RVt := (r, listW intV r.right.cells, listW wireV r.right.wires)
theorem ruC_good (r : Rl) : GoodRV (ruC r) := ⟨listW_isL _, listW_isL _⟩
theorem two_lit {X : Cx} {t : TypeId} {a b : RVt} (ha : GoodRV a) (hb : GoodRV b) {h : AH} (u : X.P.underlying t = some (.slice 66) := by kernel_rfl) (hX : X.P = Tryz.prog := by rfl) : aBuildSlice X.P false t 2 [(0, ruV a), (1, ruV b)] h = some (.vsl [ruV a, ruV b] .lit, h) := by
  obtain ⟨r1, c1, w1⟩ := a
  obtain ⟨r2, c2, w2⟩ := b
  obtain ⟨h1, h2⟩ := ha
  obtain ⟨h3, h4⟩ := hb
  have s1 : c1.scalar = true := isL_scalar h1
  have s2 : w1.scalar = true := isL_scalar h2
  have s3 : c2.scalar = true := isL_scalar h3
  have s4 : w2.scalar = true := isL_scalar h4
  have n5 : sizeT X.P 66 = some 5 := by rw [hX]; kernel_rfl
  have z5 : zeroT X.P 66 = some (.agg [.int .i64 0, .int .i64 0, .nilsl, .int .i64 0, .nilsl]) := by rw [hX]; kernel_rfl
  unfold aBuildSlice
  simp only [u, n5, z5]
  rw [if_neg (by simp [AV.cells, AV.scalar])]
  have e1 : (ruV (r1, c1, w1)).cells.length = 5 ∧ (ruV (r1, c1, w1)).cells.all AV.scalar = true := ⟨rfl, by simp only [ruV, AV.cells, List.all_cons, s1, s2]; rfl⟩
  have e2 : (ruV (r2, c2, w2)).cells.length = 5 ∧ (ruV (r2, c2, w2)).cells.all AV.scalar = true := ⟨rfl, by simp only [ruV, AV.cells, List.all_cons, s3, s4]; rfl⟩
  simp only [aFillElems, e1.1, e1.2, e2.1, e2.2, List.length_replicate, List.length_set]
  rfl
def hRk (call : CallT) : Prop := ∀ (F : List Sk.Id) (h0 h : AH) (R : List HE) (x : AV) (s : List Ag), (IsSig x s) → (sigE s = 0) → (s.length ≤ 1000) → (Hb F h0 h R) → ∃ h' v bs G, call (.func 15) [x] h = some (.ret (v), h') ∧ Growing v (List.map ruV bs) G ∧ fstL bs = tidL (sig2 s) (twinR s) ∧ (∀ x ∈ bs, GoodRV x) ∧ Hb F h0 h' (G ++ R)
set_option maxHeartbeats 4000000 in
theorem bRk (call rgn n) (F : List Sk.Id) (h0 h : AH) (R : List HE) (x : AV) (s : List Ag) (hx : IsSig x s) (he : sigE s = 0) (hl : s.length ≤ 1000) (H : Hb F h0 h R) (dRS : hRS call) (dRf : hRf call) (dRa : hRa call) (dNe : hNe call) (hrg : ∀ id ops st, rgn id ops st = drawn ⟨Tryz.prog, mu0, call⟩ 15 ops st) (hfu : 45000 ≤ n) : ∃ h' v bs G, B shT call rgn n 15 Tryz.f15 [x] h = some (.ret (v), h') ∧ Growing v (List.map ruV bs) G ∧ fstL bs = tidL (sig2 s) (twinR s) ∧ (∀ x ∈ bs, GoodRV x) ∧ Hb F h0 h' (G ++ R) := by
  suffices hq : ∀ Q : Option (AOut × AH) → Prop, ¬ Q none → (∀ h' v bs G, Growing v (List.map ruV bs) G ∧ fstL bs = tidL (sig2 s) (twinR s) ∧ (∀ x ∈ bs, GoodRV x) ∧ Hb F h0 h' (G ++ R) → Q (some (.ret (v), h'))) → Q (B shT call rgn n 15 Tryz.f15 [x] h) from hq (fun y => ∃ h' v bs G, y = some (.ret (v), h') ∧ Growing v (List.map ruV bs) G ∧ fstL bs = tidL (sig2 s) (twinR s) ∧ (∀ x ∈ bs, GoodRV x) ∧ Hb F h0 h' (G ++ R)) (by rintro ⟨_, _, _, _, h_, _⟩; cases h_) (fun h' v bs G p_ => ⟨h', v, bs, G, rfl, p_⟩)
  intro Q hnone hQ
  have q := fun h => dRS x s h hx
  rw [show sigXV s = .tup [listW agV (sig2 s), .int .i64 0] by unfold sigXV; rw [if_pos he]] at q
  obtain ⟨sg1, sg2⟩ := sig2_ok he
  have hlw : ∃ c, listW agV (sig2 s) = .vsl ((sig2 s).map agV) c := by
    rcases listW_isL (enc := agV) (sig2 s) with ⟨_, e⟩ | h
    · exact absurd e (by unfold sig2; simp)
    · exact h
  obtain ⟨c0, hlw⟩ := hlw
  rw [hlw] at q
  have hx2 : IsSig (.vsl ((sig2 s).map agV) c0) (sig2 s) := .inr ⟨_, rfl⟩
  refine sN hx ?_
  rw [List.length_map]
  refine sC (q _) ?_
  conv => arg 1; whnf
  rw [wrapS (a := (s.length : Int) + 1) (by omega) (by omega)]
  refine rounds (fun (i : Nat) tm h => tm.length = 156 ∧ tm[0]? = some x ∧ tm[3]? = some (.int .i64 s.length) ∧ tm[4]? = some (.int .i64 ((s.length : Int) + 1)) ∧ tm[5]? = some (.vsl ((sig2 s).map agV) c0) ∧ tm[8]? = some (.int .i64 i) ∧ i ≤ s.length ∧
    ∃ v bs G, tm[7]? = some v ∧ Growing v (List.map ruV bs) G ∧ fstL bs = tidL (sig2 s) (bookL s i) ∧ (∀ x ∈ bs, GoodRV x) ∧ Hb F h0 h (G ++ R)) (fun i => s.length - i) (s0 := 0) ?_ ?_ ?_
  · exact ⟨rfl, rfl, rfl, rfl, rfl, rfl, Nat.zero_le _, .nilsl, [], [], rfl, Growing.nil, rfl, by simp, H⟩
  · show s.length - 0 < n; omega
  clear H
  rintro m' i tm h ⟨hl2, t0, t3, t4, t5, t8, hi, v, bs, G, t7, hG, hbs, hgd, H⟩ hm ih
  have hbl : bs.length = 2 * i := by
    have := congrArg List.length hbs
    rw [fstL, List.length_map, tidL_len, bookL_len] at this; exact this
  iterate 156 (obtain ⟨_, tm, rfl, hl3⟩ := exL hl2; clear hl2; have hl2 := hl3; clear hl3)
  obtain rfl := List.eq_nil_of_length_eq_zero hl2
  obtain rfl := (Option.some.inj t0).symm
  obtain rfl := (Option.some.inj t3).symm
  obtain rfl := (Option.some.inj t4).symm
  obtain rfl := (Option.some.inj t5).symm
  obtain rfl := (Option.some.inj t7).symm
  obtain rfl := (Option.some.inj t8).symm
  conv => arg 1; whnf
  refine sN hx ?_
  rw [List.length_map]
  conv => arg 1; whnf
  split
  · rename_i hd
    have hlt : i < s.length := by simp at hd; omega
    obtain ⟨g, hg⟩ : ∃ a, s[i]? = some a := ⟨_, List.getElem?_eq_getElem hlt⟩
    obtain ⟨a7, aeq⟩ := arF_lt sg1 i
    have hga : g.2 = (arF s i : Int) := by rw [← aeq]; unfold arN; rw [Int.toNat_natCast, hg]
    obtain ⟨nm, ar⟩ := g
    dsimp only at hga
    subst hga
    refine sI hx rfl (v := agV (nm, (arF s i : Int))) (by rw [List.getElem?_map, hg]; rfl) ?_
    refine H.xA [.nilsl, .int .i64 0, .nilsl] fun i10 h H => ?_
    refine H.xJ (v := .agg [.vsl ((dCs (i : Int) (s.length : Int) 0).map intV) .lit, .int .i64 (IntKind.i64.wrap (2 + (arF s i : Int))), .nilsl]) fun h H => ?_
    have w0 : IntKind.i64.wrap (2 + (arF s i : Int)) = 2 + (arF s i : Int) := wrapS (by omega) (by omega)
    refine xR plRr10 hnone hrg ?_
    refine H.xL ?_
    refine sC (dRf _ _) ?_
    refine sC (dRa _ _ _) ?_
    refine sC (dRf _ _) ?_
    refine sC (dRa _ _ _) ?_
    have H1 : Hb F h0 h ([] ++ _) := H
    refine H1.xGl 4 (fe := wireV) (es := []) Growing.nil (bs := dWs 0) (.inr ⟨.lit, rfl⟩) (by rw [dWs_len]; simp) fun dw h2 D2 hG2 H2 => ?_
    refine H2.xV hG2.cells hG2.scalar fun h3 H3 => ?_
    refine xO ?_
    have H := H3
    clear H1 H2 H3
    rw [w0] at H
    refine H.xA [.nilsl, .int .i64 0, .nilsl] fun i11 h H => ?_
    refine H.xJ fun h H => ?_
    refine lRk call rgn n s x v (.vsl ((sig2 s).map agV) c0) i i10 i11 F h0 G R a7 hl dRf dRa hrg hnone ?_ ?_ (by omega)
    rotate_left
    · refine ⟨rfl, rfl, rfl, rfl, rfl, rfl, rfl, rfl, rfl, rfl, rfl, Nat.zero_le _, _, ⟨_, _, .nilsl, .nilsl, [], D2, [], [], rfl, .inr (.inr ⟨.lit, rfl, .inr rfl, rfl⟩), hG2, Growing.nil, Growing.nil⟩, ?_⟩
      simp only [List.nil_append, List.append_nil]
      exact Hb.front (A := _ :: _ :: _) ((H.pu i11).pu i10)
    clear H
    rintro tm h ⟨hl2, t0, t3, t4, t5, t7, t8, t9, t10, t11, t12, hj, E, ⟨dc, dw, gc, gw, D1, D2, D3, D4, rfl, hG1, hG2, hG3, hG4⟩, H⟩
    iterate 156 (obtain ⟨_, tm, rfl, hl3⟩ := exL hl2; clear hl2; have hl2 := hl3; clear hl3)
    obtain rfl := List.eq_nil_of_length_eq_zero hl2
    obtain rfl := (Option.some.inj t0).symm
    obtain rfl := (Option.some.inj t3).symm
    obtain rfl := (Option.some.inj t4).symm
    obtain rfl := (Option.some.inj t5).symm
    obtain rfl := (Option.some.inj t7).symm
    obtain rfl := (Option.some.inj t8).symm
    obtain rfl := (Option.some.inj t9).symm
    obtain rfl := (Option.some.inj t10).symm
    obtain rfl := (Option.some.inj t11).symm
    obtain rfl := (Option.some.inj t12).symm
    simp only [List.cons_append, List.append_assoc] at H
    have hrd : RuleOK (sig2 s) (dRule s i) := ok_d he hlt
    have hre : RuleOK (sig2 s) (eRule s i) := ok_e he hlt
    have qd := fun h => dNe (.vsl ((sig2 s).map agV) c0) (.agg [dc, .int .i64 (2 + (arF s i : Int)), dw]) (sig2 s) (dRule s i).right h hx2 ⟨dc, dw, rfl, hG1.il, hG2.il⟩ (by show (dWs (arF s i)).length ≤ _; rw [dWs_len]; omega) (by rw [hrd.1.chk])
    have qe := fun h => dNe (.vsl ((sig2 s).map agV) c0) (.agg [gc, .int .i64 (arF s i : Int), gw]) (sig2 s) (eRule s i).right h hx2 ⟨gc, gw, rfl, hG3.il, hG4.il⟩ (by show (eWs (arF s i)).length ≤ _; rw [eWs_len]; omega) (by rw [hre.1.chk])
    refine xR plRr19 hnone hrg ?_
    refine H.xM 3 ?_
    refine H.xM 3 ?_
    refine sC (qd _) ?_
    refine sC (qe _) ?_
    conv => arg 1; whnf
    rw [evBuildS (ps := [(0, ruV (ruC (tidyR (sig2 s) (dRule s i)))), (1, ruV (ruC (tidyR (sig2 s) (eRule s i))))]) (v := .vsl [ruV (ruC (tidyR (sig2 s) (dRule s i))), ruV (ruC (tidyR (sig2 s) (eRule s i)))] .lit) ?o1 ?o2 ?o3]
    case o1 => rfl
    case o2 => rfl
    case o3 => exact two_lit (X := ⟨Tryz.prog, mu0, call⟩) (ruC_good _) (ruC_good _)
    refine H.xGl 5 hG (bs := [ruC (tidyR (sig2 s) (dRule s i)), ruC (tidyR (sig2 s) (eRule s i))]) (.inr ⟨.lit, rfl⟩) (by simp; omega) fun v2 h2 G2 hG5 H2 => ?_
    refine xO ?_
    conv => arg 1; whnf
    refine ih (i + 1) _ _ ⟨rfl, rfl, rfl, rfl, rfl, sw (by omega), by omega, v2, _, G2, rfl, hG5, ?_, ?_, H2.sb⟩ (by omega)
    · rw [fstL, List.map_append, show List.map Prod.fst bs = _ from hbs, bookL_succ, tidL_app]; rfl
    · intro y hy
      rcases List.mem_append.1 hy with hy | hy
      · exact hgd y hy
      · simp only [List.mem_cons, List.not_mem_nil, or_false] at hy
        rcases hy with rfl | rfl <;> exact ruC_good _
  rename_i hd
  obtain rfl : i = s.length := by simp at hd; omega
  clear ih hm hd
  refine sC (dRf _ _) ?_
  refine sC (dRf _ _) ?_
  refine sC (dRf _ _) ?_
  refine sC (dRf _ _) ?_
  refine H.xA [.nilsl, .int .i64 0, .nilsl] fun i13 h H => ?_
  refine H.xJ (v := .agg [.nilsl, .int .i64 4, .vsl ((ddRule s).right.wires.map wireV) .lit]) fun h H => ?_
  refine sC (dRf _ _) ?_
  refine sC (dRa _ _ _) ?_
  refine sC (dRf _ _) ?_
  refine sC (dRa _ _ _) ?_
  refine H.xA [.nilsl, .int .i64 0, .nilsl] fun i14 h H => ?_
  refine H.xJ (v := .agg [.vsl ((edRule s).right.cells.map intV) .lit, .int .i64 2, .vsl ((edRule s).right.wires.map wireV) .lit]) fun h H => ?_
  refine H.xM 3 ?_
  refine H.xM 3 ?_
  refine H.xGl 5 hG (bs := [(ddRule s, .nilsl, .vsl ((ddRule s).right.wires.map wireV) .lit), (eeRule s, .nilsl, .nilsl), (edRule s, .vsl ((edRule s).right.cells.map intV) .lit, .vsl ((edRule s).right.wires.map wireV) .lit)]) (.inr ⟨.lit, rfl⟩) (by simp; omega) fun v2 h2 G2 hG5 H2 => ?_
  conv => arg 1; whnf
  refine atLeave_P (leave_plain (.inl rfl) rfl) (hQ _ _ _ _ ⟨hG5, ?_, ?_, H2.sb⟩)
  · have e1 : tidyR (sig2 s) (ddRule s) = ddRule s := by show Rl.mk _ _ (tidyN (sig2 s) (ddRule s).right) = _; rw [neat_dd]
    have e2 : tidyR (sig2 s) (eeRule s) = eeRule s := by show Rl.mk _ _ (tidyN (sig2 s) (eeRule s).right) = _; rw [neat_ee]
    have e3 : tidyR (sig2 s) (edRule s) = edRule s := by show Rl.mk _ _ (tidyN (sig2 s) (edRule s).right) = _; rw [neat_ed]
    rw [fstL, List.map_append, show List.map Prod.fst bs = _ from hbs, twinR_eq, tidL_app, tidL_app, tidL_app]
    show _ ++ [ddRule s, eeRule s, edRule s] = _ ++ [tidyR (sig2 s) (ddRule s)] ++ [tidyR (sig2 s) (eeRule s)] ++ [tidyR (sig2 s) (edRule s)]
    rw [e1, e2, e3]; simp
  · intro y hy
    rcases List.mem_append.1 hy with hy | hy
    · exact hgd y hy
    · simp only [List.mem_cons, List.not_mem_nil, or_false] at hy
      rcases hy with rfl | rfl | rfl
      · exact ⟨.inl ⟨rfl, rfl⟩, .inr ⟨_, rfl⟩⟩
      · exact ⟨.inl ⟨rfl, rfl⟩, .inl ⟨rfl, rfl⟩⟩
      · exact ⟨.inr ⟨_, rfl⟩, .inr ⟨_, rfl⟩⟩
theorem hRk_of {hk : Hooks} {n : Nat} (hno : ∀ args h, hk 15 args h = none) (dRS : ∀ n, 45000 - 1 < n → hRS (evCall (mkEv Tryz.prog mu0 hk) n)) (dRf : ∀ n, 45000 - 1 < n → hRf (evCall (mkEv Tryz.prog mu0 hk) n)) (dRa : ∀ n, 45000 - 1 < n → hRa (evCall (mkEv Tryz.prog mu0 hk) n)) (dNe : ∀ n, 45000 - 1 < n → hNe (evCall (mkEv Tryz.prog mu0 hk) n)) (hn : 45000 < n) : hRk (evCall (mkEv Tryz.prog mu0 hk) n) := by
  intro F h0 h R x s hx he hl H
  obtain ⟨n, rfl⟩ : ∃ m, n = m + 1 := ⟨n - 1, by omega⟩
  obtain ⟨h', v, bs, G, a_, b_⟩ := bRk (evCall (mkEv Tryz.prog mu0 hk) n) (rg Tryz.prog mu0 hk n 15) n (F := F) (h0 := h0) (h := h) (R := R) (x := x) (s := s) hx he hl H (dRS n (by omega)) (dRf n (by omega)) (dRa n (by omega)) (dNe n (by omega)) (fun _ _ _ => rfl) (by omega)
  exact ⟨h', v, bs, G, ev_of_cBodyS shT (hno _ _) Tryz.func15 rfl (by kernel_rfl) a_, b_⟩
section
variable {i4 i6 i10 : Sk.Id} {sv cl c0 w : AV} {nf f : Int} {c : Nat}
end
end Go.Proofs.Nt
namespace Go.Proofs.Nt
open Go.Sk
end Go.Proofs.Nt
namespace Go.Proofs.Nt
open Go.Sk
def hkMR := hkNe
theorem EMR : EvOK (mkEv Tryz.prog mu0 hkMR) := ENe
def tab6 : Nat → Option (List Nat) := fun id => match Nat.beq id 999999 with | true => some [] | false => match Nat.beq id 6 with | true => some [0, 1, 2, 3, 4, 5, 6, 7, 8] | false => none
theorem l23 (call rgn n) (x y : AV) (xs : List Int) (hx : IsL x (xs.map intV)) (hy : IsL y (xs.map intV)) (hlen : xs.length ≤ 1000000000) {K : KC (AOut × AH)} {Q : Option (AOut × AH) → Prop}
    (hK : ∀ {h : AH} {g0 g1 g2 g3 g4 g5 g6 g7 g8 g9 aA aB aC aD aE aF aG aH aI aJ aK aL aM aN aO aP : AV}, Q (K (.exit 0) ⟨[g0,g1,g2,g3,g4,g5,g6,g7,g8,g9,aA,aB,aC,aD,aE,aF,aG,aH,aI,aJ,aK,aL,aM,aN,aO,aP], [], h⟩)) :
    ∀ (m i : Nat) {z : Int} {h : AH} {g2 g3 g4 g6 g7 g8 g9 aA aB aC aD aE aF aG aH aI aJ aK aL aM aN aO aP : AV}, z = i → i ≤ xs.length → xs.length - i < m →
    Q (cIter (LB tab6 call rgn n 81 Tryz.f81 0) m ⟨[x,y,g2,g3,g4,.int .i64 z,g6,g7,g8,g9,aA,aB,aC,aD,aE,aF,aG,aH,aI,aJ,aK,aL,aM,aN,aO,aP], [], h⟩ K) := by
  have u : Tryz.prog.underlying 42 = some (.slice 3) := by kernel_rfl
  have hlx := fun h => len_L (X := ⟨Tryz.prog, mu0, call⟩) (mu := false) (h := h) u hx
  rw [List.length_map] at hlx
  intro m
  induction m with
  | zero => intros; omega
  | succ m ih =>
    intro i z h g2 g3 g4 g6 g7 g8 g9 aA aB aC aD aE aF aG aH aI aJ aK aL aM aN aO aP hz hi hm
    rw [cIter_succ]
    conv => arg 1; whnf
    refine atCall_P (hlx _) ?_
    conv => arg 1; whnf
    split
    · rename_i hd
      have hlt : i < xs.length := by simp at hd; omega
      obtain ⟨v, i1, i2⟩ := idx_ints (h := h) (a := z) hx (by omega) (by omega)
      obtain ⟨v', i3, i4⟩ := idx_ints (h := h) (a := z) hy (by omega) (by omega)
      rw [i1] at i3
      simp only [Option.some.injEq] at i3
      subst i3
      conv => arg 1; whnf
      refine atCall_P (i2) ?_
      conv => arg 1; whnf
      refine atCall_P (i4) ?_
      have hv : (v != v) = false := by simp
      conv => arg 1; whnf
      rw [hv]
      conv => arg 1; whnf
      exact ih (i + 1) (by rw [hz]; exact wrap_succ (by omega)) (by omega) (by omega)
    · exact hK
theorem b23 (call rgn n) (x y : AV) (xs : List Int) (hx : IsL x (xs.map intV)) (hy : IsL y (xs.map intV)) (hlen : xs.length ≤ 1000000000) (hn : xs.length < n) (h : AH) : ∃ h', B tab6 call rgn n 81 Tryz.f81 [x, y] h = some (.ret (.bool true), h') := by
  suffices hq : ∀ Q : Option (AOut × AH) → Prop, (∀ h', Q (some (.ret (.bool true), h'))) → Q (B tab6 call rgn n 81 Tryz.f81 [x, y] h) from
    hq (fun y => ∃ h', y = some (.ret (.bool true), h')) (fun h' => ⟨h', rfl⟩)
  intro Q hQ
  have u : Tryz.prog.underlying 42 = some (.slice 3) := by kernel_rfl
  have hlx := fun h => len_L (X := ⟨Tryz.prog, mu0, call⟩) (mu := false) (h := h) u hx
  have hly := fun h => len_L (X := ⟨Tryz.prog, mu0, call⟩) (mu := false) (h := h) u hy
  rw [List.length_map] at hlx hly
  have hv : (((xs.length : Nat) : Int) != ((xs.length : Nat) : Int)) = false := by simp
  conv => arg 1; whnf
  refine atCall_P (hlx _) ?_
  conv => arg 1; whnf
  refine atCall_P (hly _) ?_
  conv => arg 1; whnf
  rw [hv]
  conv => arg 1; whnf
  refine l23 call rgn n x y xs hx hy hlen ?_ n 0 (z := 0) rfl (Nat.zero_le _) (by omega)
  intros
  conv => arg 1; whnf
  exact atLeave_P (leave_plain (.inl rfl) rfl) (hQ _)
theorem ne_wire {ox oy : Operand} (w : Wr) (h : AH) : vOf h (aBinOp Tryz.prog .neq 46 ox oy (wireV w) (wireV w)) = some (.ret (.bool false), h) := by
  obtain ⟨a, b, c, d⟩ := w
  have e : aBinOp Tryz.prog .neq 46 ox oy (wireV (a, b, c, d)) (wireV (a, b, c, d)) = (match (match aEqIn Tryz.prog 9999 44 (.agg [.int .i64 a, .int .i64 b]) (.agg [.int .i64 a, .int .i64 b]) with
    | some true => (match aEqIn Tryz.prog 9999 44 (.agg [.int .i64 c, .int .i64 d]) (.agg [.int .i64 c, .int .i64 d]) with | some true => some true | some false => some false | none => none)
    | some false => some false
    | none => none) with | some b => some (AV.bool (!b)) | none => none) := by kernel_rfl
  have e2 : ∀ b c : Int, aEqIn Tryz.prog 9999 44 (.agg [.int .i64 b, .int .i64 c]) (.agg [.int .i64 b, .int .i64 c]) = (match aEqIn Tryz.prog 9998 3 (.int .i64 b) (.int .i64 b) with
      | some true => (match aEqIn Tryz.prog 9998 3 (.int .i64 c) (.int .i64 c) with | some true => some true | some false => some false | none => none)
      | some false => some false
      | none => none) := fun b c => by kernel_rfl
  have e3 : ∀ a : Int, aEqIn Tryz.prog 9998 3 (.int .i64 a) (.int .i64 a) = some true := fun a => by rw [eqIn_int (d := 9997) (k := .i64) (by kernel_rfl)]; simp
  rw [e, e2, e2, e3, e3, e3, e3]
  rfl
theorem l24 (call rgn n) (x y : AV) (xs : List Wr) (hx : IsL x (xs.map wireV)) (hy : IsL y (xs.map wireV)) (hlen : xs.length ≤ 1000000000) {K : KC (AOut × AH)} {Q : Option (AOut × AH) → Prop}
    (hK : ∀ {h : AH} {g0 g1 g2 g3 g4 g5 g6 g7 g8 g9 aA aB aC aD aE aF aG aH aI aJ aK aL aM aN aO aP : AV}, Q (K (.exit 0) ⟨[g0,g1,g2,g3,g4,g5,g6,g7,g8,g9,aA,aB,aC,aD,aE,aF,aG,aH,aI,aJ,aK,aL,aM,aN,aO,aP], [], h⟩)) :
    ∀ (m i : Nat) {z : Int} {h : AH} {g2 g3 g4 g6 g7 g8 g9 aA aB aC aD aE aF aG aH aI aJ aK aL aM aN aO aP : AV}, z = i → i ≤ xs.length → xs.length - i < m →
    Q (cIter (LB tab6 call rgn n 82 Tryz.f82 0) m ⟨[x,y,g2,g3,g4,.int .i64 z,g6,g7,g8,g9,aA,aB,aC,aD,aE,aF,aG,aH,aI,aJ,aK,aL,aM,aN,aO,aP], [], h⟩ K) := by
  have u : Tryz.prog.underlying 47 = some (.slice 46) := by kernel_rfl
  have hlx := fun h => len_L (X := ⟨Tryz.prog, mu0, call⟩) (mu := false) (h := h) u hx
  rw [List.length_map] at hlx
  intro m
  induction m with
  | zero => intros; omega
  | succ m ih =>
    intro i z h g2 g3 g4 g6 g7 g8 g9 aA aB aC aD aE aF aG aH aI aJ aK aL aM aN aO aP hz hi hm
    rw [cIter_succ]
    conv => arg 1; whnf
    refine atCall_P (hlx _) ?_
    conv => arg 1; whnf
    split
    · rename_i hd
      have hlt : i < xs.length := by simp at hd; omega
      have hg : (xs.map wireV)[i]? = some (wireV xs[i]) := by rw [List.getElem?_map, List.getElem?_eq_getElem hlt]; rfl
      have i2 := idx_L (P := Tryz.prog) (t := 47) (e := 46) (n := 4) (h := h) (k := .i64) u (by kernel_rfl) hx hz hg rfl
      have i4 := idx_L (P := Tryz.prog) (t := 47) (e := 46) (n := 4) (h := h) (k := .i64) u (by kernel_rfl) hy hz hg rfl
      generalize xs[i] = ww at i2 i4
      obtain ⟨a, b, c, d⟩ := ww
      conv => arg 1; whnf
      refine atCall_P (i2) ?_
      conv => arg 1; whnf
      refine atCall_P (i4) ?_
      conv => arg 1; whnf
      refine atCall_P (ne_wire (a, b, c, d) h) ?_
      conv => arg 1; whnf
      exact ih (i + 1) (by rw [hz]; exact wrap_succ (by omega)) (by omega) (by omega)
    · exact hK
theorem b24 (call rgn n) (x y : AV) (xs : List Wr) (hx : IsL x (xs.map wireV)) (hy : IsL y (xs.map wireV)) (hlen : xs.length ≤ 1000000000) (hn : xs.length < n) (h : AH) : ∃ h', B tab6 call rgn n 82 Tryz.f82 [x, y] h = some (.ret (.bool true), h') := by
  suffices hq : ∀ Q : Option (AOut × AH) → Prop, (∀ h', Q (some (.ret (.bool true), h'))) → Q (B tab6 call rgn n 82 Tryz.f82 [x, y] h) from
    hq (fun y => ∃ h', y = some (.ret (.bool true), h')) (fun h' => ⟨h', rfl⟩)
  intro Q hQ
  have u : Tryz.prog.underlying 47 = some (.slice 46) := by kernel_rfl
  have hlx := fun h => len_L (X := ⟨Tryz.prog, mu0, call⟩) (mu := false) (h := h) u hx
  have hly := fun h => len_L (X := ⟨Tryz.prog, mu0, call⟩) (mu := false) (h := h) u hy
  rw [List.length_map] at hlx hly
  have hv : (((xs.length : Nat) : Int) != ((xs.length : Nat) : Int)) = false := by simp
  conv => arg 1; whnf
  refine atCall_P (hlx _) ?_
  conv => arg 1; whnf
  refine atCall_P (hly _) ?_
  conv => arg 1; whnf
  rw [hv]
  conv => arg 1; whnf
  refine l24 call rgn n x y xs hx hy hlen ?_ n 0 (z := 0) rfl (Nat.zero_le _) (by omega)
  intros
  conv => arg 1; whnf
  exact atLeave_P (leave_plain (.inl rfl) rfl) (hQ _)
def s23 : List AV → Option AV
  | [x, y] => match intsOf x, intsOf y with | some a, some b => if a = b ∧ a.length ≤ 1000000000 then some (.bool true) else none | _, _ => none
  | _ => none
def s24 : List AV → Option AV
  | [x, y] => match wiresOf x, wiresOf y with | some a, some b => if a = b ∧ a.length ≤ 1000000000 then some (.bool true) else none | _, _ => none
  | _ => none
noncomputable def hk23 := addHk hkMR 81 s23
noncomputable def hk24 := addHk hk23 82 s24
theorem fits23 : tabFits Tryz.prog (mu0 81) tab6 (codeOf Tryz.f81) = true := by kernel_rfl
theorem fits24 : tabFits Tryz.prog (mu0 82) tab6 (codeOf Tryz.f82) = true := by kernel_rfl
theorem E23 : EvOK (mkEv Tryz.prog mu0 hk23) := mkEv_add EMR fun args v hs => by
  unfold s23 at hs; split at hs
  · rename_i x y
    split at hs
    · rename_i a b h1 h2
      split at hs
      · rename_i hl
        obtain ⟨rfl, hl⟩ := hl
        cases hs
        obtain ⟨N, hN⟩ : ∃ N, N = a.length + 1 := ⟨_, rfl⟩
        obtain ⟨h', hb⟩ := b23 (evCall (mkEv Tryz.prog mu0 hkMR) N) (rg Tryz.prog mu0 hkMR N 81) N x y a (decL_inv h1) (decL_inv h2) hl (by omega) .empty
        exact ⟨rfl, ev_ofS tab6 rfl Tryz.func81 rfl fits23 hb⟩
      · cases hs
    · cases hs
  · cases hs
theorem E24 : EvOK (mkEv Tryz.prog mu0 hk24) := mkEv_add E23 fun args v hs => by
  unfold s24 at hs; split at hs
  · rename_i x y
    split at hs
    · rename_i a b h1 h2
      split at hs
      · rename_i hl
        obtain ⟨rfl, hl⟩ := hl
        cases hs
        obtain ⟨N, hN⟩ : ∃ N, N = a.length + 1 := ⟨_, rfl⟩
        obtain ⟨h', hb⟩ := b24 (evCall (mkEv Tryz.prog mu0 hk23) N) (rg Tryz.prog mu0 hk23 N 82) N x y a (decL_inv h1) (decL_inv h2) hl (by omega) .empty
        exact ⟨rfl, ev_ofS tab6 rfl Tryz.func82 rfl fits24 hb⟩
      · cases hs
    · cases hs
  · cases hs
def h23 (call : CallT) : Prop := ∀ x y (l : List Int) h, IsL x (l.map intV) → IsL y (l.map intV) → l.length ≤ 1000000000 → call (.func 81) [x, y] h = some (.ret (.bool true), h)
def h24 (call : CallT) : Prop := ∀ x y (l : List Wr) h, IsL x (l.map wireV) → IsL y (l.map wireV) → l.length ≤ 1000000000 → call (.func 82) [x, y] h = some (.ret (.bool true), h)
theorem h23_of {hk : Hooks} {n : Nat} (hk' : ∀ args h, hk 81 args h = hk23 81 args h) (hn : 0 < n) : h23 (evCall (mkEv Tryz.prog mu0 hk) n) := fun x y l h hx hy hl => ev_hk (by
  rw [hk']
  obtain ⟨a1, a2⟩ := intsOf_of hx
  obtain ⟨b1, b2⟩ := intsOf_of hy
  refine hk_top (by simp [freeL, a2, b2]) ?_
  show (match intsOf (weakV x), intsOf (weakV y) with | some a, some b => if a = b ∧ a.length ≤ 1000000000 then some (AV.bool true) else none | _, _ => none) = _
  rw [a1, b1]; simp only [true_and, if_pos hl]) hn
theorem h24_of {hk : Hooks} {n : Nat} (hk' : ∀ args h, hk 82 args h = hk24 82 args h) (hn : 0 < n) : h24 (evCall (mkEv Tryz.prog mu0 hk) n) := fun x y l h hx hy hl => ev_hk (by
  rw [hk']
  obtain ⟨a1, a2⟩ := wiresOf_of hx
  obtain ⟨b1, b2⟩ := wiresOf_of hy
  refine hk_top (by simp [freeL, a2, b2]) ?_
  show (match wiresOf (weakV x), wiresOf (weakV y) with | some a, some b => if a = b ∧ a.length ≤ 1000000000 then some (AV.bool true) else none | _, _ => none) = _
  rw [a1, b1]; simp only [true_and, if_pos hl]) hn
theorem b9 (call rgn n) (u v : AV) (nt : Nt) (hu : IsNet u nt) (hv : IsNet v nt) (l1 : nt.cells.length ≤ 1000000000) (l2 : nt.wires.length ≤ 1000000000) (h23 : h23 call) (h24 : h24 call) (h : AH) : ∃ h', B shT call rgn n 52 Tryz.f52 [u, v] h = some (.ret (.bool true), h') := by
  suffices hq : ∀ Q : Option (AOut × AH) → Prop, (∀ h', Q (some (.ret (.bool true), h'))) → Q (B shT call rgn n 52 Tryz.f52 [u, v] h) from
    hq (fun y => ∃ h', y = some (.ret (.bool true), h')) (fun h' => ⟨h', rfl⟩)
  intro Q hQ
  obtain ⟨c, w, rfl, hc, hw⟩ := hu
  obtain ⟨c', w', rfl, hc', hw'⟩ := hv
  have hcs := isL_scalar hc
  have hws := isL_scalar hw
  have hcs' := isL_scalar hc'
  have hws' := isL_scalar hw'
  conv => arg 1; whnf
  refine atCall_P (box_new (cs := [c, .int .i64 nt.free, w]) rfl (by simp only [List.all_cons, hcs, hws, List.all_nil]; rfl)) ?_
  generalize hh_h1 : h.alloc (.cells [c, .int .i64 nt.free, w] 49) = h1 at *
  obtain ⟨a_i2, n_i2, k_h1⟩ := alloc_facts hh_h1
  clear hh_h1 k_h1
  generalize hi_i2 : h.next = i2 at *
  clear hi_i2
  conv => arg 1; whnf
  refine atCall_P (box_new (cs := [c', .int .i64 nt.free, w']) rfl (by simp only [List.all_cons, hcs', hws', List.all_nil]; rfl)) ?_
  generalize hh_h2 : h1.alloc (.cells [c', .int .i64 nt.free, w'] 49) = h2 at *
  obtain ⟨a_i3, n_i3, k_h2⟩ := alloc_facts hh_h2
  replace a_i2 := k_h2 _ _ a_i2 (by omega)
  clear hh_h2 k_h2
  generalize hi_i3 : h1.next = i3 at *
  clear hi_i3
  have f2 : vOf h2 (aLoad Tryz.prog 3 (.ptr i2 1) h2) = some (.ret (.int .i64 nt.free), h2) := ld_ptr (n := 1) a_i2 (by kernel_rfl) (by kernel_rfl) rfl
  have f3 : vOf h2 (aLoad Tryz.prog 3 (.ptr i3 1) h2) = some (.ret (.int .i64 nt.free), h2) := ld_ptr (n := 1) a_i3 (by kernel_rfl) (by kernel_rfl) rfl
  have c2 : vOf h2 (aLoad Tryz.prog 42 (.ptr i2 0) h2) = some (.ret c, h2) := ld_ptr (n := 1) a_i2 (by kernel_rfl) (by kernel_rfl) rfl
  have c3 : vOf h2 (aLoad Tryz.prog 42 (.ptr i3 0) h2) = some (.ret c', h2) := ld_ptr (n := 1) a_i3 (by kernel_rfl) (by kernel_rfl) rfl
  have w2 : vOf h2 (aLoad Tryz.prog 47 (.ptr i2 2) h2) = some (.ret w, h2) := ld_ptr (n := 1) a_i2 (by kernel_rfl) (by kernel_rfl) rfl
  have w3 : vOf h2 (aLoad Tryz.prog 47 (.ptr i3 2) h2) = some (.ret w', h2) := ld_ptr (n := 1) a_i3 (by kernel_rfl) (by kernel_rfl) rfl
  have hf : (nt.free == nt.free) = true := by simp
  conv => arg 1; whnf
  refine atCall_P (f2) ?_
  conv => arg 1; whnf
  refine atCall_P (f3) ?_
  conv => arg 1; whnf
  rw [hf]
  conv => arg 1; whnf
  refine atCall_P (c2) ?_
  conv => arg 1; whnf
  refine atCall_P (c3) ?_
  conv => arg 1; whnf
  refine atCall_P (h23 c c' nt.cells h2 hc hc' l1) ?_
  conv => arg 1; whnf
  refine atCall_P (w2) ?_
  conv => arg 1; whnf
  refine atCall_P (w3) ?_
  conv => arg 1; whnf
  refine atCall_P (h24 w w' nt.wires h2 hw hw' l2) ?_
  conv => arg 1; whnf
  exact atLeave_P (leave_plain (.inl rfl) rfl) (hQ _)
def s9 : List AV → Option AV
  | [u, v] => match netOf u, netOf v with | some a, some b => if a.cells = b.cells ∧ a.free = b.free ∧ a.wires = b.wires ∧ a.cells.length ≤ 1000000000 ∧ a.wires.length ≤ 1000000000 then some (.bool true) else none | _, _ => none
  | _ => none
noncomputable def hk9 := addHk hk24 52 s9
theorem E9 : EvOK (mkEv Tryz.prog mu0 hk9) := mkEv_add E24 fun args v hs => by
  unfold s9 at hs; split at hs
  · rename_i x y
    split at hs
    · rename_i a b h1 h2
      split at hs
      · rename_i hl
        obtain ⟨e1, e2, e3, l1, l2⟩ := hl
        have e : a = b := by
          cases a; cases b
          simp only at e1 e2 e3
          subst e1; subst e2; subst e3; rfl
        subst e
        cases hs
        obtain ⟨h', hb⟩ := b9 (evCall (mkEv Tryz.prog mu0 hk24) 1) (rg Tryz.prog mu0 hk24 1 52) 1 x y a (netOf_inv h1) (netOf_inv h2) l1 l2 (h23_of (fun _ _ => rfl) (by omega)) (h24_of (fun _ _ => rfl) (by omega)) .empty
        exact ⟨rfl, ev_ofS shT rfl Tryz.func52 rfl (by kernel_rfl) hb⟩
      · cases hs
    · cases hs
  · cases hs
def h9 (call : CallT) : Prop := ∀ u v nt h, IsNet u nt → IsNet v nt → nt.cells.length ≤ 1000000000 → nt.wires.length ≤ 1000000000 → call (.func 52) [u, v] h = some (.ret (.bool true), h)
theorem h9_of {hk : Hooks} {n : Nat} (hk' : ∀ args h, hk 52 args h = hk9 52 args h) (hn : 0 < n) : h9 (evCall (mkEv Tryz.prog mu0 hk) n) := fun u v nt h hu hv l1 l2 => ev_hk (by
  rw [hk']
  refine hk_top (by simp [freeL, net_free hu, net_free hv]) ?_
  show (match netOf (weakV u), netOf (weakV v) with | some a, some b => if a.cells = b.cells ∧ a.free = b.free ∧ a.wires = b.wires ∧ a.cells.length ≤ 1000000000 ∧ a.wires.length ≤ 1000000000 then some (AV.bool true) else none | _, _ => none) = _
  rw [netOf_of hu, netOf_of hv]
  simp only [true_and, l1, l2, and_self, if_true]) hn
def sizeF : List Ag → Int → Int
  | [], n => n
  | g :: r, n => if decide (n ≤ 2147483647) = true then sizeF r (IntKind.i64.wrap (n + g.1.length)) else n
theorem len_Sx {call : CallT} {mu : Bool} (gn : List UInt8) (h : AH) : aBuiltin ⟨Tryz.prog, mu0, call⟩ mu .len #[9] [.str gn] h = some (.ret (.int .i64 gn.length), h) := by
  have ht : Tryz.prog.underlying 9 = some .string := by kernel_rfl
  simp [aBuiltin, aLen, ht, vOf]
theorem l11 (call rgn n) (x : AV) (s : List Ag) (hx : IsSig x s) (hlen : s.length ≤ 1000000000) {R : Int} {K : KC (AOut × AH)} {Q : Option (AOut × AH) → Prop}
    (hK : ∀ {h : AH} {g0 g1 g2 g4 g5 g6 g7 g8 g9 aA aB aC aD aE aF aG aH aI aJ aK aL aM aN aO aP : AV}, Q (K (.exit 0) ⟨[g0,g1,g2,.int .i64 R,g4,g5,g6,g7,g8,g9,aA,aB,aC,aD,aE,aF,aG,aH,aI,aJ,aK,aL,aM,aN,aO,aP], [], h⟩)) :
    ∀ (m i : Nat) {z a : Int} {h : AH} {g1 g2 g5 g6 g7 g8 g9 aA aB aC aD aE aF aG aH aI aJ aK aL aM aN aO aP : AV}, z = i → i ≤ s.length → s.length - i < m → sizeF (s.drop i) a = R →
    Q (cIter (LB shT call rgn n 5 Tryz.f5 0) m ⟨[x,g1,g2,.int .i64 a,.int .i64 z,g5,g6,g7,g8,g9,aA,aB,aC,aD,aE,aF,aG,aH,aI,aJ,aK,aL,aM,aN,aO,aP], [], h⟩ K) := by
  have u : Tryz.prog.underlying 22 = some (.slice 41) := by kernel_rfl
  have hlx := fun h => len_L (X := ⟨Tryz.prog, mu0, call⟩) (mu := false) (h := h) u hx
  rw [List.length_map] at hlx
  intro m
  induction m with
  | zero => intros; omega
  | succ m ih =>
    intro i z a h g1 g2 g5 g6 g7 g8 g9 aA aB aC aD aE aF aG aH aI aJ aK aL aM aN aO aP hz hi hm hR
    rw [cIter_succ]
    conv => arg 1; whnf
    refine atCall_P (hlx _) ?_
    conv => arg 1; whnf
    split
    · rename_i hd
      have hlt : i < s.length := by simp at hd; omega
      have hdrop : s.drop i = s[i] :: s.drop (i + 1) := List.drop_eq_getElem_cons hlt
      have hg : (s.map agV)[i]? = some (agV s[i]) := by rw [List.getElem?_map, List.getElem?_eq_getElem hlt]; rfl
      have hidx := fun h => idx_L (P := Tryz.prog) (t := 22) (e := 41) (n := 2) (h := h) (k := .i64) u (by kernel_rfl) hx hz hg rfl
      rw [hdrop] at hR
      simp only [sizeF] at hR
      generalize s[i] = g at hidx hR
      obtain ⟨gn, ga⟩ := g
      conv => arg 1; whnf
      cases e1 : decide (a ≤ 2147483647)
      · rw [if_neg (by simp [e1])] at hR
        subst hR
        conv => arg 1; whnf
        exact hK
      · rw [if_pos e1] at hR
        conv => arg 1; whnf
        refine atCall_P (hidx _) ?_
        conv => arg 1; whnf
        refine atCall_P (len_Sx gn _) ?_
        conv => arg 1; whnf
        exact ih (i + 1) (by rw [hz]; exact wrap_succ (by omega)) (by omega) (by omega) hR
    · rename_i hd
      have hlt : ¬ i < s.length := by simp at hd; omega
      rw [List.drop_eq_nil_of_le (by omega)] at hR
      simp only [sizeF] at hR
      subst hR
      exact hK
theorem b11 (call rgn n) (x : AV) (s : List Ag) (hx : IsSig x s) (hlen : s.length ≤ 1000000000) (hn : s.length < n) (h : AH) : ∃ h', B shT call rgn n 5 Tryz.f5 [x] h = some (.ret (.int .i64 (sizeF s s.length)), h') := by
  suffices hq : ∀ Q : Option (AOut × AH) → Prop, (∀ h', Q (some (.ret (.int .i64 (sizeF s s.length)), h'))) → Q (B shT call rgn n 5 Tryz.f5 [x] h) from
    hq (fun y => ∃ h', y = some (.ret (.int .i64 (sizeF s s.length)), h')) (fun h' => ⟨h', rfl⟩)
  intro Q hQ
  have u : Tryz.prog.underlying 22 = some (.slice 41) := by kernel_rfl
  have hlx := fun h => len_L (X := ⟨Tryz.prog, mu0, call⟩) (mu := false) (h := h) u hx
  rw [List.length_map] at hlx
  conv => arg 1; whnf
  refine atCall_P (hlx _) ?_
  conv => arg 1; whnf
  refine l11 call rgn n x s hx hlen (R := sizeF s s.length) ?_ n 0 (z := 0) rfl (Nat.zero_le _) (by omega) (by rw [List.drop_zero])
  intros
  conv => arg 1; whnf
  exact atLeave_P (leave_plain (.inl rfl) rfl) (hQ _)
theorem b10 (call rgn n) (a : Int) (h : AH) : B shT call rgn n 4 Tryz.f4 [.int .i64 a] h = some (.ret (.bool (decide (a > 2147483647))), h) := by
  conv => lhs; whnf
  exact leave_eq (.inl rfl) rfl rfl
def s11 : List AV → Option AV | [x] => (match sigOf x with | some s => if s.length ≤ 1000000000 then some (.int .i64 (sizeF s s.length)) else none | none => none) | _ => none
def s10 : List AV → Option AV | [.int .i64 a] => some (.bool (decide (a > 2147483647))) | _ => none
noncomputable def hk11 := addHk hk9 5 s11
noncomputable def hk10 := addHk hk11 4 s10
theorem E11 : EvOK (mkEv Tryz.prog mu0 hk11) := mkEv_add E9 fun args v hs => by
  unfold s11 at hs; split at hs
  · split at hs
    · rename_i x s h1
      split at hs
      · rename_i hl
        cases hs
        obtain ⟨N, hN⟩ : ∃ N, N = s.length + 1 := ⟨_, rfl⟩
        obtain ⟨h', hb⟩ := b11 (evCall (mkEv Tryz.prog mu0 hk9) N) (rg Tryz.prog mu0 hk9 N 5) N _ s (decL_inv h1) hl (by omega) .empty
        exact ⟨rfl, ev_ofS shT rfl Tryz.func5 rfl (by kernel_rfl) hb⟩
      · cases hs
    · cases hs
  · cases hs
theorem E10 : EvOK (mkEv Tryz.prog mu0 hk10) := mkEv_add E11 fun args v hs => by
  unfold s10 at hs; split at hs <;> cases hs
  exact ⟨rfl, ev_ofS shT (n := 1) rfl Tryz.func4 rfl (by kernel_rfl) (b10 _ _ _ _ _)⟩
theorem h11_of {hk : Hooks} {n : Nat} (hk' : ∀ args h, hk 5 args h = hk11 5 args h) (hn : 0 < n) {x : AV} {s : List Ag} (h : AH) (hx : IsSig x s) (hl : s.length ≤ 1000000000) : evCall (mkEv Tryz.prog mu0 hk) n (.func 5) [x] h = some (.ret (.int .i64 (sizeF s s.length)), h) := ev_hk (by
  rw [hk']
  refine hk_top (by simp [freeL, sig_free hx]) ?_
  show (match sigOf (weakV x) with | some s => if s.length ≤ 1000000000 then some (AV.int .i64 (sizeF s s.length)) else none | none => none) = _
  rw [sigOf_of hx]; simp only [if_pos hl]) hn
theorem h10_of {hk : Hooks} {n : Nat} (hk' : ∀ args h, hk 4 args h = hk10 4 args h) (hn : 0 < n) (a : Int) (h : AH) : evCall (mkEv Tryz.prog mu0 hk) n (.func 4) [.int .i64 a] h = some (.ret (.bool (decide (a > 2147483647))), h) := ev_hk (by
  rw [hk']
  exact hk_top rfl rfl) hn
def muchF (s : List Ag) (n : Nt) : Bool := decide ((s.length : Int) > 1024) || decide (sizeF s s.length > 2147483647) || decide ((n.cells.length : Int) > 8192) || decide ((n.wires.length : Int) > 32768)
def s4 : List AV → Option AV | [x, v] => (match sigOf x, netOf v with | some s, some n => some (.bool (muchF s n)) | _, _ => none) | _ => none
noncomputable def hk4 := hk10
theorem E4 : EvOK (mkEv Tryz.prog mu0 hk4) := E10
theorem ne_agent {ox oy : Operand} (w : Ag) (h : AH) : vOf h (aBinOp Tryz.prog .neq 41 ox oy (agV w) (agV w)) = some (.ret (.bool false), h) := by
  obtain ⟨a, b⟩ := w
  have e : aBinOp Tryz.prog .neq 41 ox oy (agV (a, b)) (agV (a, b)) = (match (match aEqIn Tryz.prog 9999 9 (.str a) (.str a) with
      | some true => (match aEqIn Tryz.prog 9999 3 (.int .i64 b) (.int .i64 b) with | some true => some true | some false => some false | none => none)
      | some false => some false | none => none) with | some r => some (.bool (!r)) | none => none) := by kernel_rfl
  have e2 : aEqIn Tryz.prog 9999 9 (.str a) (.str a) = some (a == a) := by kernel_rfl
  have e3 : ∀ a : Int, aEqIn Tryz.prog 9999 3 (.int .i64 a) (.int .i64 a) = some true := fun a => by rw [eqIn_int (d := 9998) (k := .i64) (by kernel_rfl)]; simp
  rw [e, e2, e3]; simp [vOf]
def hEg (call : CallT) : Prop := ∀ (h : AH) (x y : AV) (l : List Ag), (IsSig x l) → (IsSig y l) → (l.length ≤ 1000000) → call (.func 11) [x, y] h = some (.ret (.bool true), h)
theorem bEg (call rgn n) (h : AH) (x y : AV) (l : List Ag) (hx : IsSig x l) (hy : IsSig y l) (hl : l.length ≤ 1000000)  (hrg : ∀ id ops st, rgn id ops st = drawn ⟨Tryz.prog, mu0, call⟩ 11 ops st) (hfu : 1000010 ≤ n) : B tab6 call rgn n 11 Tryz.f11 [x, y] h = some (.ret (.bool true), h) := by
  suffices hq : ∀ Q : Option (AOut × AH) → Prop, ¬ Q none → (∀ v_, v_ = (.bool true : AV) → Q (some (.ret v_, h))) → Q (B tab6 call rgn n 11 Tryz.f11 [x, y] h) from hq (fun y => y = some (.ret (.bool true), h)) (by simp) (fun v_ e_ => by rw [e_])
  intro Q hnone hQ
  refine sN hx ?_
  refine sN hy ?_
  conv => arg 1; whnf
  rw [show (((l.map agV).length : Int) != ((l.map agV).length : Int)) = false by simp]
  refine rounds (fun (i : Nat) tm h' => h' = h ∧ tm.length = 26 ∧ tm[0]? = some x ∧ tm[1]? = some y ∧ tm[5]? = some (.int .i64 i) ∧ i ≤ l.length) (fun i => l.length - i) (s0 := 0) ?_ ?_ ?_
  · exact ⟨rfl, rfl, rfl, rfl, rfl, Nat.zero_le _⟩
  · show l.length - 0 < n; omega
  rintro m' i tm h' ⟨rfl, hl2, t0, t1, t5, hi⟩ hm ih
  iterate 26 (obtain ⟨_, tm, rfl, hl3⟩ := exL hl2; clear hl2; have hl2 := hl3; clear hl3)
  obtain rfl := List.eq_nil_of_length_eq_zero hl2
  obtain rfl := (Option.some.inj t0).symm
  obtain rfl := (Option.some.inj t1).symm
  obtain rfl := (Option.some.inj t5).symm
  refine sN hx ?_
  rw [List.length_map]
  conv => arg 1; whnf
  split
  · rename_i hd
    have hlt : i < l.length := by simp at hd; omega
    obtain ⟨g, hg⟩ : ∃ a, l[i]? = some a := ⟨_, List.getElem?_eq_getElem hlt⟩
    have f : (l.map agV)[i]? = some (agV g) := by rw [List.getElem?_map, hg]; rfl
    refine sI hx rfl f ?_
    refine sI hy rfl f ?_
    refine sC (ne_agent _ _) ?_
    conv => arg 1; whnf
    exact ih (i + 1) _ _ ⟨rfl, rfl, rfl, rfl, sw (by omega), by omega⟩ (by omega)
  rename_i hd
  conv => arg 1; whnf
  exact atLeave_P (leave_plain (.inl rfl) rfl) (hQ _ rfl)
theorem hEg_of {hk : Hooks} {n : Nat} (hno : ∀ args h, hk 11 args h = none)  (hn : 1000010 < n) : hEg (evCall (mkEv Tryz.prog mu0 hk) n) := by
  intro h x y l hx hy hl
  obtain ⟨n, rfl⟩ : ∃ m, n = m + 1 := ⟨n - 1, by omega⟩
  exact ev_of_cBodyS tab6 (hno _ _) Tryz.func11 rfl (by kernel_rfl) (bEg (evCall (mkEv Tryz.prog mu0 hk) n) (rg Tryz.prog mu0 hk n 11) n (h := h) (x := x) (y := y) (l := l) hx hy hl  (fun _ _ _ => rfl) (by omega))
def hRq (call : CallT) : Prop := ∀ (F : List Sk.Id) (h0 h : AH) (R : List HE) (a b : RVt), (a.1 = b.1) → (GoodRV a) → (GoodRV b) → (a.1.right.cells.length ≤ 1000000) → (a.1.right.wires.length ≤ 1000000) → (Hb F h0 h R) → ∃ h', call (.func 31) [ruV a, ruV b] h = some (.ret (.bool true), h') ∧ Hb F h0 h' R
set_option maxHeartbeats 4000000 in
theorem bRq (call rgn n) (F : List Sk.Id) (h0 h : AH) (R : List HE) (a b : RVt) (he : a.1 = b.1) (ha : GoodRV a) (hb : GoodRV b) (l1 : a.1.right.cells.length ≤ 1000000) (l2 : a.1.right.wires.length ≤ 1000000) (H : Hb F h0 h R) (d9 : h9 call) (hrg : ∀ id ops st, rgn id ops st = drawn ⟨Tryz.prog, mu0, call⟩ 31 ops st) (hfu : 5 ≤ n) : ∃ h', B shT call rgn n 31 Tryz.f31 [ruV a, ruV b] h = some (.ret (.bool true), h') ∧ Hb F h0 h' R := by
  suffices hq : ∀ Q : Option (AOut × AH) → Prop, ¬ Q none → (∀ h', Hb F h0 h' R → Q (some (.ret (.bool true), h'))) → Q (B shT call rgn n 31 Tryz.f31 [ruV a, ruV b] h) from hq (fun y => ∃ h', y = some (.ret (.bool true), h') ∧ Hb F h0 h' R) (by rintro ⟨_, h_, _⟩; cases h_) (fun h' p_ => ⟨h', rfl, p_⟩)
  intro Q hnone hQ
  obtain ⟨r, c1, w1⟩ := a
  obtain ⟨r2, c2, w2⟩ := b
  obtain rfl : r = r2 := he
  obtain ⟨h1, h2⟩ := ha
  obtain ⟨h3, h4⟩ := hb
  dsimp only at h1 h2 h3 h4 l1 l2
  have s1 : c1.scalar = true := isL_scalar h1
  have s2 : w1.scalar = true := isL_scalar h2
  have s3 : c2.scalar = true := isL_scalar h3
  have s4 : w2.scalar = true := isL_scalar h4
  have q := fun h => d9 (.agg [c1, .int .i64 r.right.free, w1]) (.agg [c2, .int .i64 r.right.free, w2]) r.right h ⟨_, _, rfl, h1, h2⟩ ⟨_, _, rfl, h3, h4⟩ (by omega) (by omega)
  have hs1 : [AV.int .i64 r.a, .int .i64 r.b, c1, .int .i64 r.right.free, w1].all AV.scalar = true := by simp only [List.all_cons, s1, s2]; rfl
  have hs2 : [AV.int .i64 r.a, .int .i64 r.b, c2, .int .i64 r.right.free, w2].all AV.scalar = true := by simp only [List.all_cons, s3, s4]; rfl
  refine H.xB (hs := hs1) fun i2 h H => ?_
  refine H.xB (hs := hs2) fun i3 h H => ?_
  refine H.xL ?_
  refine H.xL ?_
  conv => arg 1; whnf
  rw [show (r.a == r.a) = true by simp]
  refine H.xL ?_
  refine H.xL ?_
  conv => arg 1; whnf
  rw [show (r.b == r.b) = true by simp]
  refine H.xM 3 ?_
  refine H.xM 3 ?_
  refine sC (q _) ?_
  conv => arg 1; whnf
  exact atLeave_P (leave_plain (.inl rfl) rfl) (hQ _ H.tail.tail)
theorem hRq_of {hk : Hooks} {n : Nat} (hno : ∀ args h, hk 31 args h = none) (d9 : ∀ n, 5 - 1 < n → h9 (evCall (mkEv Tryz.prog mu0 hk) n)) (hn : 5 < n) : hRq (evCall (mkEv Tryz.prog mu0 hk) n) := by
  intro F h0 h R a b he ha hb l1 l2 H
  obtain ⟨n, rfl⟩ : ∃ m, n = m + 1 := ⟨n - 1, by omega⟩
  obtain ⟨h', a_, b_⟩ := bRq (evCall (mkEv Tryz.prog mu0 hk) n) (rg Tryz.prog mu0 hk n 31) n (F := F) (h0 := h0) (h := h) (R := R) (a := a) (b := b) he ha hb l1 l2 H (d9 n (by omega)) (fun _ _ _ => rfl) (by omega)
  exact ⟨h', ev_of_cBodyS shT (hno _ _) Tryz.func31 rfl (by kernel_rfl) a_, b_⟩
def plEq6 : Plan := ⟨[0, 1, 2, 3, 4, 5, 6, 7, 8, 9], [0, 0, 3, 7, 0, 0, 48, 112, 255, 511]⟩
def hEs (call : CallT) : Prop := ∀ (F : List Sk.Id) (h0 h : AH) (R : List HE) (v w : AV) (es bs : List RVt), (IsL v (es.map ruV)) → (IsL w (bs.map ruV)) → (fstL es = fstL bs) → (∀ x ∈ es, GoodRV x) → (∀ x ∈ bs, GoodRV x) → (es.length ≤ 1000000) → (∀ r ∈ fstL es, r.right.cells.length ≤ 1000000 ∧ r.right.wires.length ≤ 1000000) → (Hb F h0 h R) → ∃ h', call (.func 13) [v, w] h = some (.ret (.bool true), h') ∧ Hb F h0 h' R
set_option maxHeartbeats 4000000 in
theorem bEs (call rgn n) (F : List Sk.Id) (h0 h : AH) (R : List HE) (v w : AV) (es bs : List RVt) (hv : IsL v (es.map ruV)) (hw : IsL w (bs.map ruV)) (hfe : fstL es = fstL bs) (hga : ∀ x ∈ es, GoodRV x) (hgb : ∀ x ∈ bs, GoodRV x) (hl : es.length ≤ 1000000) (hok : ∀ r ∈ fstL es, r.right.cells.length ≤ 1000000 ∧ r.right.wires.length ≤ 1000000) (H : Hb F h0 h R) (dRq : hRq call) (hrg : ∀ id ops st, rgn id ops st = drawn ⟨Tryz.prog, mu0, call⟩ 13 ops st) (hfu : 1000010 ≤ n) : ∃ h', B shT call rgn n 13 Tryz.f13 [v, w] h = some (.ret (.bool true), h') ∧ Hb F h0 h' R := by
  suffices hq : ∀ Q : Option (AOut × AH) → Prop, ¬ Q none → (∀ h', Hb F h0 h' R → Q (some (.ret (.bool true), h'))) → Q (B shT call rgn n 13 Tryz.f13 [v, w] h) from hq (fun y => ∃ h', y = some (.ret (.bool true), h') ∧ Hb F h0 h' R) (by rintro ⟨_, h_, _⟩; cases h_) (fun h' p_ => ⟨h', rfl, p_⟩)
  intro Q hnone hQ
  have hlen : bs.length = es.length := by
    have := congrArg List.length hfe
    rw [fstL, fstL, List.length_map, List.length_map] at this; exact this.symm
  refine sN hv ?_
  refine sN hw ?_
  rw [List.length_map, List.length_map, hlen]
  conv => arg 1; whnf
  rw [show ((es.length : Int) != (es.length : Int)) = false by simp]
  refine rounds (fun (i : Nat) tm h => tm.length = 27 ∧ tm[0]? = some v ∧ tm[1]? = some w ∧ tm[5]? = some (.int .i64 i) ∧ i ≤ es.length ∧ Hb F h0 h R) (fun i => es.length - i) (s0 := 0) ?_ ?_ ?_
  · exact ⟨rfl, rfl, rfl, rfl, Nat.zero_le _, H⟩
  · show es.length - 0 < n; omega
  clear H
  rintro m' i tm h ⟨hl2, t0, t1, t5, hi, H⟩ hm ih
  iterate 27 (obtain ⟨_, tm, rfl, hl3⟩ := exL hl2; clear hl2; have hl2 := hl3; clear hl3)
  obtain rfl := List.eq_nil_of_length_eq_zero hl2
  obtain rfl := (Option.some.inj t0).symm
  obtain rfl := (Option.some.inj t1).symm
  obtain rfl := (Option.some.inj t5).symm
  refine sN hv ?_
  rw [List.length_map]
  conv => arg 1; whnf
  split
  · rename_i hd
    have hlt : i < es.length := by simp at hd; omega
    obtain ⟨a, ha⟩ : ∃ a, es[i]? = some a := ⟨_, List.getElem?_eq_getElem hlt⟩
    obtain ⟨b, hb⟩ : ∃ b, bs[i]? = some b := ⟨_, List.getElem?_eq_getElem (by omega)⟩
    have f1 : (es.map ruV)[i]? = some (ruV a) := by rw [List.getElem?_map, ha]; rfl
    have f2 : (bs.map ruV)[i]? = some (ruV b) := by rw [List.getElem?_map, hb]; rfl
    have hab : a.1 = b.1 := by
      have x1 : (fstL es)[i]? = some a.1 := by rw [fstL, List.getElem?_map, ha]; rfl
      have x2 : (fstL bs)[i]? = some b.1 := by rw [fstL, List.getElem?_map, hb]; rfl
      rw [hfe, x2] at x1
      exact (Option.some.inj x1).symm
    obtain ⟨k1, k2⟩ := hok a.1 (List.mem_map.2 ⟨a, List.mem_of_getElem? ha, rfl⟩)
    obtain ⟨h1, q1, H1⟩ := dRq F h0 h R a b hab (hga a (List.mem_of_getElem? ha)) (hgb b (List.mem_of_getElem? hb)) k1 k2 H
    refine xR plEq6 hnone hrg ?_
    refine sI hv rfl f1 ?_
    refine sI hw rfl f2 ?_
    refine sC q1 ?_
    refine xO ?_
    conv => arg 1; whnf
    exact ih (i + 1) _ _ ⟨rfl, rfl, rfl, sw (by omega), by omega, H1⟩ (by omega)
  rename_i hd
  conv => arg 1; whnf
  exact atLeave_P (leave_plain (.inl rfl) rfl) (hQ _ H)
theorem hEs_of {hk : Hooks} {n : Nat} (hno : ∀ args h, hk 13 args h = none) (dRq : ∀ n, 1000010 - 1 < n → hRq (evCall (mkEv Tryz.prog mu0 hk) n)) (hn : 1000010 < n) : hEs (evCall (mkEv Tryz.prog mu0 hk) n) := by
  intro F h0 h R v w es bs hv hw hfe hga hgb hl hok H
  obtain ⟨n, rfl⟩ : ∃ m, n = m + 1 := ⟨n - 1, by omega⟩
  obtain ⟨h', a_, b_⟩ := bEs (evCall (mkEv Tryz.prog mu0 hk) n) (rg Tryz.prog mu0 hk n 13) n (F := F) (h0 := h0) (h := h) (R := R) (v := v) (w := w) (es := es) (bs := bs) hv hw hfe hga hgb hl hok H (dRq n (by omega)) (fun _ _ _ => rfl) (by omega)
  exact ⟨h', ev_of_cBodyS shT (hno _ _) Tryz.func13 rfl (by kernel_rfl) a_, b_⟩
def hSzA (call : CallT) : Prop := ∀ x s h, IsSig x s → s.length ≤ 1000000000 → call (.func 5) [x] h = some (.ret (.int .i64 (sizeF s s.length)), h)
def hLoA (call : CallT) : Prop := ∀ a h, call (.func 4) [.int .i64 a] h = some (.ret (.bool (decide (a > 2147483647))), h)
theorem tid_ok {s : List Ag} (he : sigE s = 0) : ∀ r ∈ tidL (sig2 s) (twinR s), r.right.cells.length ≤ 1000000 ∧ r.right.wires.length ≤ 1000000 := by
  intro r hr
  obtain ⟨r0, h0, rfl⟩ := List.mem_map.1 hr
  have ok := twin_ok he r0 h0
  have k1 := ok.2.2.2.2.2.1
  have k2 := tidy_len ok.1
  exact ⟨by show r0.right.cells.length ≤ _; omega, by show (tidyN (sig2 s) r0.right).wires.length ≤ _; omega⟩
theorem twinR_len (s : List Ag) : (tidL (sig2 s) (twinR s)).length = 2 * s.length + 3 := by
  rw [tidL_len, twinR_eq, List.length_append, List.length_append, List.length_append, bookL_len]; simp
theorem bTL (call rgn n) (x : AV) (s : List Ag) (hx : IsSig x s) (hSz : hSzA call) (hLo : hLoA call) (hCA : hCA call) (dTS : hTS call) (dRS : hRS call) (dTb : hTb call) (dTe : hTe call) (dEg : hEg call) (dBs : hBs call) (dBr : hBr call) (dRk : hRk call) (dEs : hEs call) (hW : ∀ h, call (.func 6) [] h = some (.ret (.bool true), h)) (h : AH) :
    ∃ h', B shT call rgn n 3 Tryz.f3 [x] h = some (.ret (.bool true), h') := by
  suffices hq : ∀ Q : Option (AOut × AH) → Prop, ¬ Q none → (∀ h', Q (some (.ret (.bool true), h'))) → Q (B shT call rgn n 3 Tryz.f3 [x] h) from
    hq (fun y => ∃ h', y = some (.ret (.bool true), h')) (by rintro ⟨_, h⟩; cases h) fun h' => ⟨h', rfl⟩
  intro Q hnone hQ
  have H := Hb.nil [] h
  refine sN hx ?_
  rw [List.length_map]
  conv => arg 1; whnf
  cases e1 : decide ((s.length : Int) > 1024)
  rotate_left
  · refine sC (hW _) ?_
    conv => arg 1; whnf
    exact atLeave_P (leave_plain (.inl rfl) rfl) (hQ _)
  have hl : s.length ≤ 1024 := by simp at e1; omega
  refine sC (hSz x s _ hx (by omega)) ?_
  refine sC (hLo _ _) ?_
  conv => arg 1; whnf
  cases e2 : decide (sizeF s s.length > 2147483647)
  rotate_left
  · refine sC (hW _) ?_
    conv => arg 1; whnf
    exact atLeave_P (leave_plain (.inl rfl) rfl) (hQ _)
  have hx' := isSig_W s
  refine sC (hCA x s _ hx (by omega)) ?_
  by_cases he : sigE s = 0
  · have hv : sigXV s = .tup [listW agV (sig2 s), .int .i64 0] := by unfold sigXV; rw [if_pos he]
    have q1 := fun h => dTS (listW agV s) s h hx'
    have q2 := fun h => dRS x s h hx
    rw [hv] at q1 q2
    have h32 : s.length ≤ 1000 := by
      have k := (sig2_ok he).1
      unfold sigChk at k
      split at k
      · simp at k
      · split at k
        · simp at k
        · omega
    obtain ⟨c0, hlw⟩ : ∃ c, listW agV (sig2 s) = .vsl ((sig2 s).map agV) c := by
      rcases listW_isL (enc := agV) (sig2 s) with ⟨_, e⟩ | h
      · exact absurd e (by unfold sig2; simp)
      · exact h
    rw [hlw] at q1 q2
    refine sC (q1 _) ?_
    refine sC (q2 _) ?_
    refine sC (hCA x s _ hx (by omega)) ?_
    obtain ⟨h1, bk, m, lv, c, es, cl, G, q3, hG, H1⟩ := dTb [] h h [] (listW agV s) s hx' he h32 H
    refine sC q3 ?_
    have hs2 : IsSig (.vsl ((sig2 s).map agV) c0) (sig2 s) := .inr ⟨_, rfl⟩
    have hlen2 : (sig2 s).length ≤ 1000000 := by rw [sig2_len]; omega
    refine sC (dEg _ _ _ (sig2 s) hs2 hs2 hlen2) ?_
    have hne : sig2 s ≠ [] := by unfold sig2; simp
    simp only [BkE, List.cons_append] at H1
    obtain ⟨h2, d, q4, H2⟩ := dBs [] h h1 _ bk lv (.map m) (sig2 s) c hne hlen2 H1
    refine sC q4 ?_
    refine sC (dEg _ _ _ (sig2 s) (.inr ⟨_, rfl⟩) hs2 hlen2) ?_
    obtain ⟨h3, v, bs, G2, q5, hG2, hbs, hgd, H3⟩ := dBr [] h h2 _ bk m lv (sig2 s) c (tidL (sig2 s) (twinR s)) hG.il (by rw [twinR_len]; omega) (tid_ok he) H2
    refine sC q5 ?_
    obtain ⟨h4, v2, bs2, G3, q6, hG3, hbs2, hgd2, H4⟩ := dRk [] h h3 _ x s hx he h32 H3
    refine sC q6 ?_
    have hbl : bs.length = 2 * s.length + 3 := by
      have := congrArg List.length hbs
      rw [fstL, List.length_map, twinR_len] at this; exact this
    obtain ⟨h5, q7, H5⟩ := dEs [] h h4 _ v v2 bs bs2 hG2.il hG3.il (hbs.trans hbs2.symm) hgd hgd2 (by omega) (by rw [hbs]; exact tid_ok he) H4
    refine sC q7 ?_
    refine sC (hW _) ?_
    conv => arg 1; whnf
    exact atLeave_P (leave_plain (.inl rfl) rfl) (hQ _)
  · have hv : sigXV s = .tup [.nilsl, .int .i64 (sigE s)] := by unfold sigXV; rw [if_neg he]
    have q1 := fun h => dTS (listW agV s) s h hx'
    have q2 := fun h => dRS x s h hx
    rw [hv] at q1 q2
    refine sC (q1 _) ?_
    refine sC (q2 _) ?_
    refine sC (hCA x s _ hx (by omega)) ?_
    refine sC (dTe (listW agV s) s _ hx' he) ?_
    conv => arg 1; whnf
    rw [show (sigE s != sigE s) = false by simp]
    conv => arg 1; whnf
    rw [show (sigE s != sigE s) = false by simp]
    have hn0 : IsSig .nilsl ([] : List Ag) := .inl ⟨rfl, rfl⟩
    refine sC (dEg _ _ _ [] hn0 hn0 (by simp)) ?_
    conv => arg 1; whnf
    rw [show (sigE s != 0) = true by simpa using he]
    conv => arg 1; whnf
    rw [show (sigE s != 0) = true by simpa using he]
    refine sC (hW _) ?_
    conv => arg 1; whnf
    exact atLeave_P (leave_plain (.inl rfl) rfl) (hQ _)
end Go.Proofs.Nt
set_option linter.unusedVariables false
set_option linter.unusedSimpArgs false
set_option maxRecDepth 10000
namespace Go.Proofs.Nt
open Go.Sk
def muW : FuncId → Nat → Bool := fun f _ => Nat.beq f 60 || Nat.beq f 65 || Nat.beq f 145 || Nat.beq f 132 || Nat.beq f 147
def wtab20 : List (List AV × AV) :=
  [([(.vsl [(.agg [(.str [90]), (.int .i64 (0))])] .unk)], (.tup [(.int .i64 (0)), (.int .i64 (0))])),
   ([(.vsl [(.agg [(.str [90]), (.int .i64 (0))]), (.agg [(.str [68, 117, 112]), (.int .i64 (2))]), (.agg [(.str [69, 114, 97]), (.int .i64 (0))])] .unk)], (.tup [(.int .i64 (0)), (.int .i64 (0))]))]
def wtab75 : List (List AV × AV) :=
  [([(.vsl [(.agg [(.str [90]), (.int .i64 (0))])] .unk), (.agg [(.vsl [(.int .i64 (0))] .unk), (.int .i64 (1)), (.vsl [(.agg [(.int .i64 (-1)), (.int .i64 (0)), (.int .i64 (0)), (.int .i64 (0))])] .unk)])], (.tup [(.int .i64 (0)), (.int .i64 (0))])),
   ([(.vsl [(.agg [(.str [90]), (.int .i64 (0))]), (.agg [(.str [68, 117, 112]), (.int .i64 (2))]), (.agg [(.str [69, 114, 97]), (.int .i64 (0))])] .unk), (.agg [(.vsl [(.int .i64 (0)), (.int .i64 (1))] .unk), (.int .i64 (2)), (.vsl [(.agg [(.int .i64 (-1)), (.int .i64 (0)), (.int .i64 (1)), (.int .i64 (1))]), (.agg [(.int .i64 (-1)), (.int .i64 (1)), (.int .i64 (1)), (.int .i64 (2))]), (.agg [(.int .i64 (1)), (.int .i64 (0)), (.int .i64 (0)), (.int .i64 (0))])] .unk)])], (.tup [(.int .i64 (0)), (.int .i64 (0))])),
   ([(.vsl [(.agg [(.str [90]), (.int .i64 (0))]), (.agg [(.str [68, 117, 112]), (.int .i64 (2))]), (.agg [(.str [69, 114, 97]), (.int .i64 (0))])] .unk), (.agg [.nilsl, (.int .i64 (4)), (.vsl [(.agg [(.int .i64 (-1)), (.int .i64 (2)), (.int .i64 (-1)), (.int .i64 (0))]), (.agg [(.int .i64 (-1)), (.int .i64 (3)), (.int .i64 (-1)), (.int .i64 (1))])] .unk)])], (.tup [(.int .i64 (0)), (.int .i64 (0))])),
   ([(.vsl [(.agg [(.str [90]), (.int .i64 (0))]), (.agg [(.str [68, 117, 112]), (.int .i64 (2))]), (.agg [(.str [69, 114, 97]), (.int .i64 (0))])] .unk), (.agg [.nilsl, (.int .i64 (4)), (.vsl [(.agg [(.int .i64 (-1)), (.int .i64 (0)), (.int .i64 (-1)), (.int .i64 (2))]), (.agg [(.int .i64 (-1)), (.int .i64 (1)), (.int .i64 (-1)), (.int .i64 (3))])] .unk)])], (.tup [(.int .i64 (0)), (.int .i64 (0))])),
   ([(.vsl [(.agg [(.str [90]), (.int .i64 (0))]), (.agg [(.str [68, 117, 112]), (.int .i64 (2))]), (.agg [(.str [69, 114, 97]), (.int .i64 (0))])] .unk), (.agg [.nilsl, (.int .i64 (0)), .nilsl])], (.tup [(.int .i64 (0)), (.int .i64 (0))])),
   ([(.vsl [(.agg [(.str [90]), (.int .i64 (0))]), (.agg [(.str [68, 117, 112]), (.int .i64 (2))]), (.agg [(.str [69, 114, 97]), (.int .i64 (0))])] .unk), (.agg [(.vsl [] .unk), (.int .i64 (4)), (.vsl [(.agg [(.int .i64 (-1)), (.int .i64 (2)), (.int .i64 (-1)), (.int .i64 (0))]), (.agg [(.int .i64 (-1)), (.int .i64 (3)), (.int .i64 (-1)), (.int .i64 (1))])] .unk)])], (.tup [(.int .i64 (0)), (.int .i64 (0))])),
   ([(.vsl [(.agg [(.str [90]), (.int .i64 (0))]), (.agg [(.str [68, 117, 112]), (.int .i64 (2))]), (.agg [(.str [69, 114, 97]), (.int .i64 (0))])] .unk), (.agg [(.vsl [] .unk), (.int .i64 (4)), (.vsl [(.agg [(.int .i64 (-1)), (.int .i64 (0)), (.int .i64 (-1)), (.int .i64 (2))]), (.agg [(.int .i64 (-1)), (.int .i64 (1)), (.int .i64 (-1)), (.int .i64 (3))])] .unk)])], (.tup [(.int .i64 (0)), (.int .i64 (0))])),
   ([(.vsl [(.agg [(.str [90]), (.int .i64 (0))]), (.agg [(.str [68, 117, 112]), (.int .i64 (2))]), (.agg [(.str [69, 114, 97]), (.int .i64 (0))])] .unk), (.agg [(.vsl [] .unk), (.int .i64 (0)), .nilsl])], (.tup [(.int .i64 (0)), (.int .i64 (0))])),
   ([(.vsl [(.agg [(.str [90]), (.int .i64 (0))]), (.agg [(.str [68, 117, 112]), (.int .i64 (2))]), (.agg [(.str [69, 114, 97]), (.int .i64 (0))])] .unk), (.agg [(.vsl [(.int .i64 (2)), (.int .i64 (2))] .unk), (.int .i64 (2)), (.vsl [(.agg [(.int .i64 (-1)), (.int .i64 (0)), (.int .i64 (0)), (.int .i64 (0))]), (.agg [(.int .i64 (-1)), (.int .i64 (1)), (.int .i64 (1)), (.int .i64 (0))])] .unk)])], (.tup [(.int .i64 (0)), (.int .i64 (0))])),
   ([(.vsl [(.agg [(.str [90]), (.int .i64 (0))]), (.agg [(.str [68, 117, 112]), (.int .i64 (2))]), (.agg [(.str [69, 114, 97]), (.int .i64 (0))])] .unk), (.agg [(.vsl [(.int .i64 (0)), (.int .i64 (1))] .unk), (.int .i64 (2)), (.vsl [(.agg [(.int .i64 (-1)), (.int .i64 (0)), (.int .i64 (1)), (.int .i64 (1))]), (.agg [(.int .i64 (-1)), (.int .i64 (1)), (.int .i64 (1)), (.int .i64 (2))]), (.agg [(.int .i64 (0)), (.int .i64 (0)), (.int .i64 (1)), (.int .i64 (0))])] .unk)])], (.tup [(.int .i64 (0)), (.int .i64 (0))])),
   ([(.vsl [(.agg [(.str [90]), (.int .i64 (0))]), (.agg [(.str [68, 117, 112]), (.int .i64 (2))]), (.agg [(.str [69, 114, 97]), (.int .i64 (0))])] .unk), (.agg [(.vsl [(.int .i64 (0)), (.int .i64 (0))] .unk), (.int .i64 (2)), (.vsl [(.agg [(.int .i64 (-1)), (.int .i64 (0)), (.int .i64 (0)), (.int .i64 (0))]), (.agg [(.int .i64 (-1)), (.int .i64 (1)), (.int .i64 (1)), (.int .i64 (0))])] .unk)])], (.tup [(.int .i64 (0)), (.int .i64 (0))]))]
def wtab110 : List (List AV × AV) :=
  [([(.agg [(.int .i64 (1)), (.int .i64 (1))])], (.tup [(.int .u32 (9)), (.int .i64 (0))])),
   ([(.agg [(.int .i64 (1)), (.int .i64 (2))])], (.tup [(.int .u32 (10)), (.int .i64 (0))])),
   ([(.agg [(.int .i64 (-1)), (.int .i64 (0))])], (.tup [(.int .u32 (2147483648)), (.int .i64 (0))])),
   ([(.agg [(.int .i64 (0)), (.int .i64 (0))])], (.tup [(.int .u32 (0)), (.int .i64 (0))])),
   ([(.agg [(.int .i64 (-1)), (.int .i64 (2147483647))])], (.tup [(.int .u32 (0)), (.int .i64 (30))])),
   ([(.agg [(.int .i64 (-1)), (.int .i64 (1))])], (.tup [(.int .u32 (2147483649)), (.int .i64 (0))])),
   ([(.agg [(.int .i64 (1)), (.int .i64 (0))])], (.tup [(.int .u32 (8)), (.int .i64 (0))]))]
def wtab109 : List (List AV × AV) :=
  [([(.int .u32 (0))], (.tup [(.agg [(.int .i64 (0)), (.int .i64 (0))]), (.bool true)])),
   ([(.int .u32 (2147483648))], (.tup [(.agg [(.int .i64 (-1)), (.int .i64 (0))]), (.bool true)])),
   ([(.int .u32 (2147483649))], (.tup [(.agg [(.int .i64 (-1)), (.int .i64 (1))]), (.bool true)])),
   ([(.int .u32 (4294967295))], (.tup [(.agg [(.int .i64 (0)), (.int .i64 (0))]), (.bool false)]))]
def wtab106 : List (List AV × AV) :=
  [([(.agg [(.int .i64 (-1)), (.int .i64 (0))]), (.agg [(.int .i64 (-1)), (.int .i64 (2))])], (.bool true)),
   ([(.agg [(.int .i64 (-1)), (.int .i64 (1))]), (.agg [(.int .i64 (-1)), (.int .i64 (3))])], (.bool true)),
   ([(.agg [(.int .i64 (-1)), (.int .i64 (2))]), (.agg [(.int .i64 (-1)), (.int .i64 (0))])], (.bool false)),
   ([(.agg [(.int .i64 (-1)), (.int .i64 (3))]), (.agg [(.int .i64 (-1)), (.int .i64 (1))])], (.bool false)),
   ([(.agg [(.int .i64 (-1)), (.int .i64 (0))]), (.agg [(.int .i64 (1)), (.int .i64 (1))])], (.bool true)),
   ([(.agg [(.int .i64 (-1)), (.int .i64 (1))]), (.agg [(.int .i64 (1)), (.int .i64 (2))])], (.bool true)),
   ([(.agg [(.int .i64 (0)), (.int .i64 (0))]), (.agg [(.int .i64 (1)), (.int .i64 (0))])], (.bool true)),
   ([(.agg [(.int .i64 (1)), (.int .i64 (0))]), (.agg [(.int .i64 (0)), (.int .i64 (0))])], (.bool false)),
   ([(.agg [(.int .i64 (1)), (.int .i64 (1))]), (.agg [(.int .i64 (-1)), (.int .i64 (0))])], (.bool false)),
   ([(.agg [(.int .i64 (1)), (.int .i64 (2))]), (.agg [(.int .i64 (-1)), (.int .i64 (1))])], (.bool false)),
   ([(.agg [(.int .i64 (-1)), (.int .i64 (0))]), (.agg [(.int .i64 (0)), (.int .i64 (0))])], (.bool true)),
   ([(.agg [(.int .i64 (-1)), (.int .i64 (1))]), (.agg [(.int .i64 (1)), (.int .i64 (0))])], (.bool true)),
   ([(.agg [(.int .i64 (0)), (.int .i64 (0))]), (.agg [(.int .i64 (-1)), (.int .i64 (0))])], (.bool false)),
   ([(.agg [(.int .i64 (1)), (.int .i64 (0))]), (.agg [(.int .i64 (-1)), (.int .i64 (1))])], (.bool false))]
def wtab78 : List (List AV × AV) :=
  [([(.vsl [(.agg [(.str [90]), (.int .i64 (0))])] .unk), (.agg [(.vsl [(.int .i64 (0))] .unk), (.int .i64 (1)), (.vsl [(.agg [(.int .i64 (-1)), (.int .i64 (0)), (.int .i64 (0)), (.int .i64 (0))])] .unk)])], (.int .i64 (0))),
   ([(.vsl [(.agg [(.str [90]), (.int .i64 (0))]), (.agg [(.str [68, 117, 112]), (.int .i64 (2))]), (.agg [(.str [69, 114, 97]), (.int .i64 (0))])] .unk), (.agg [(.vsl [(.int .i64 (0)), (.int .i64 (1))] .unk), (.int .i64 (2)), (.vsl [(.agg [(.int .i64 (-1)), (.int .i64 (0)), (.int .i64 (1)), (.int .i64 (1))]), (.agg [(.int .i64 (-1)), (.int .i64 (1)), (.int .i64 (1)), (.int .i64 (2))]), (.agg [(.int .i64 (1)), (.int .i64 (0)), (.int .i64 (0)), (.int .i64 (0))])] .unk)])], (.int .i64 (0))),
   ([(.vsl [(.agg [(.str [90]), (.int .i64 (0))]), (.agg [(.str [68, 117, 112]), (.int .i64 (2))]), (.agg [(.str [69, 114, 97]), (.int .i64 (0))])] .unk), (.agg [.nilsl, (.int .i64 (4)), (.vsl [(.agg [(.int .i64 (-1)), (.int .i64 (2)), (.int .i64 (-1)), (.int .i64 (0))]), (.agg [(.int .i64 (-1)), (.int .i64 (3)), (.int .i64 (-1)), (.int .i64 (1))])] .unk)])], (.int .i64 (0))),
   ([(.vsl [(.agg [(.str [90]), (.int .i64 (0))]), (.agg [(.str [68, 117, 112]), (.int .i64 (2))]), (.agg [(.str [69, 114, 97]), (.int .i64 (0))])] .unk), (.agg [.nilsl, (.int .i64 (4)), (.vsl [(.agg [(.int .i64 (-1)), (.int .i64 (0)), (.int .i64 (-1)), (.int .i64 (2))]), (.agg [(.int .i64 (-1)), (.int .i64 (1)), (.int .i64 (-1)), (.int .i64 (3))])] .unk)])], (.int .i64 (0))),
   ([(.vsl [(.agg [(.str [90]), (.int .i64 (0))]), (.agg [(.str [68, 117, 112]), (.int .i64 (2))]), (.agg [(.str [69, 114, 97]), (.int .i64 (0))])] .unk), (.agg [.nilsl, (.int .i64 (0)), .nilsl])], (.int .i64 (0))),
   ([(.vsl [(.agg [(.str [90]), (.int .i64 (0))]), (.agg [(.str [68, 117, 112]), (.int .i64 (2))]), (.agg [(.str [69, 114, 97]), (.int .i64 (0))])] .unk), (.agg [(.vsl [] .unk), (.int .i64 (4)), (.vsl [(.agg [(.int .i64 (-1)), (.int .i64 (2)), (.int .i64 (-1)), (.int .i64 (0))]), (.agg [(.int .i64 (-1)), (.int .i64 (3)), (.int .i64 (-1)), (.int .i64 (1))])] .unk)])], (.int .i64 (0))),
   ([(.vsl [(.agg [(.str [90]), (.int .i64 (0))]), (.agg [(.str [68, 117, 112]), (.int .i64 (2))]), (.agg [(.str [69, 114, 97]), (.int .i64 (0))])] .unk), (.agg [(.vsl [] .unk), (.int .i64 (4)), (.vsl [(.agg [(.int .i64 (-1)), (.int .i64 (0)), (.int .i64 (-1)), (.int .i64 (2))]), (.agg [(.int .i64 (-1)), (.int .i64 (1)), (.int .i64 (-1)), (.int .i64 (3))])] .unk)])], (.int .i64 (0))),
   ([(.vsl [(.agg [(.str [90]), (.int .i64 (0))]), (.agg [(.str [68, 117, 112]), (.int .i64 (2))]), (.agg [(.str [69, 114, 97]), (.int .i64 (0))])] .unk), (.agg [(.vsl [] .unk), (.int .i64 (0)), .nilsl])], (.int .i64 (0))),
   ([(.vsl [(.agg [(.str [90]), (.int .i64 (0))]), (.agg [(.str [68, 117, 112]), (.int .i64 (2))]), (.agg [(.str [69, 114, 97]), (.int .i64 (0))])] .unk), (.agg [(.vsl [(.int .i64 (2)), (.int .i64 (2))] .unk), (.int .i64 (2)), (.vsl [(.agg [(.int .i64 (-1)), (.int .i64 (0)), (.int .i64 (0)), (.int .i64 (0))]), (.agg [(.int .i64 (-1)), (.int .i64 (1)), (.int .i64 (1)), (.int .i64 (0))])] .unk)])], (.int .i64 (0))),
   ([(.vsl [(.agg [(.str [90]), (.int .i64 (0))]), (.agg [(.str [68, 117, 112]), (.int .i64 (2))]), (.agg [(.str [69, 114, 97]), (.int .i64 (0))])] .unk), (.agg [(.vsl [(.int .i64 (0)), (.int .i64 (1))] .unk), (.int .i64 (2)), (.vsl [(.agg [(.int .i64 (-1)), (.int .i64 (0)), (.int .i64 (1)), (.int .i64 (1))]), (.agg [(.int .i64 (-1)), (.int .i64 (1)), (.int .i64 (1)), (.int .i64 (2))]), (.agg [(.int .i64 (0)), (.int .i64 (0)), (.int .i64 (1)), (.int .i64 (0))])] .unk)])], (.int .i64 (0))),
   ([(.vsl [(.agg [(.str [90]), (.int .i64 (0))]), (.agg [(.str [68, 117, 112]), (.int .i64 (2))]), (.agg [(.str [69, 114, 97]), (.int .i64 (0))])] .unk), (.agg [(.vsl [(.int .i64 (0)), (.int .i64 (0))] .unk), (.int .i64 (2)), (.vsl [(.agg [(.int .i64 (-1)), (.int .i64 (0)), (.int .i64 (0)), (.int .i64 (0))]), (.agg [(.int .i64 (-1)), (.int .i64 (1)), (.int .i64 (1)), (.int .i64 (0))])] .unk)])], (.int .i64 (0)))]
def wtab49 : List (List AV × AV) :=
  [([(.vsl [(.agg [(.str [90]), (.int .i64 (0))]), (.agg [(.str [68, 117, 112]), (.int .i64 (2))]), (.agg [(.str [69, 114, 97]), (.int .i64 (0))])] .unk), (.agg [(.int .i64 (2)), (.int .i64 (0)), .nilsl, (.int .i64 (0)), .nilsl])], (.tup [(.bool true), (.int .i64 (0))])),
   ([(.vsl [(.agg [(.str [90]), (.int .i64 (0))]), (.agg [(.str [68, 117, 112]), (.int .i64 (2))]), (.agg [(.str [69, 114, 97]), (.int .i64 (0))])] .unk), (.agg [(.int .i64 (1)), (.int .i64 (1)), .nilsl, (.int .i64 (4)), (.vsl [(.agg [(.int .i64 (-1)), (.int .i64 (0)), (.int .i64 (-1)), (.int .i64 (2))]), (.agg [(.int .i64 (-1)), (.int .i64 (1)), (.int .i64 (-1)), (.int .i64 (3))])] .unk)])], (.tup [(.bool true), (.int .i64 (0))])),
   ([(.vsl [(.agg [(.str [90]), (.int .i64 (0))]), (.agg [(.str [68, 117, 112]), (.int .i64 (2))]), (.agg [(.str [69, 114, 97]), (.int .i64 (0))])] .unk), (.agg [(.int .i64 (2)), (.int .i64 (2)), .nilsl, (.int .i64 (0)), .nilsl])], (.tup [(.bool true), (.int .i64 (0))])),
   ([(.vsl [(.agg [(.str [90]), (.int .i64 (0))]), (.agg [(.str [68, 117, 112]), (.int .i64 (2))]), (.agg [(.str [69, 114, 97]), (.int .i64 (0))])] .unk), (.agg [(.int .i64 (1)), (.int .i64 (0)), (.vsl [(.int .i64 (0)), (.int .i64 (0))] .unk), (.int .i64 (2)), (.vsl [(.agg [(.int .i64 (-1)), (.int .i64 (0)), (.int .i64 (0)), (.int .i64 (0))]), (.agg [(.int .i64 (-1)), (.int .i64 (1)), (.int .i64 (1)), (.int .i64 (0))])] .unk)])], (.tup [(.bool true), (.int .i64 (0))])),
   ([(.vsl [(.agg [(.str [90]), (.int .i64 (0))]), (.agg [(.str [68, 117, 112]), (.int .i64 (2))]), (.agg [(.str [69, 114, 97]), (.int .i64 (0))])] .unk), (.agg [(.int .i64 (2)), (.int .i64 (0)), (.vsl [] .unk), (.int .i64 (0)), .nilsl])], (.tup [(.bool true), (.int .i64 (0))])),
   ([(.vsl [(.agg [(.str [90]), (.int .i64 (0))]), (.agg [(.str [68, 117, 112]), (.int .i64 (2))]), (.agg [(.str [69, 114, 97]), (.int .i64 (0))])] .unk), (.agg [(.int .i64 (1)), (.int .i64 (1)), (.vsl [] .unk), (.int .i64 (4)), (.vsl [(.agg [(.int .i64 (-1)), (.int .i64 (0)), (.int .i64 (-1)), (.int .i64 (2))]), (.agg [(.int .i64 (-1)), (.int .i64 (1)), (.int .i64 (-1)), (.int .i64 (3))])] .unk)])], (.tup [(.bool true), (.int .i64 (0))])),
   ([(.vsl [(.agg [(.str [90]), (.int .i64 (0))]), (.agg [(.str [68, 117, 112]), (.int .i64 (2))]), (.agg [(.str [69, 114, 97]), (.int .i64 (0))])] .unk), (.agg [(.int .i64 (2)), (.int .i64 (2)), (.vsl [] .unk), (.int .i64 (0)), .nilsl])], (.tup [(.bool true), (.int .i64 (0))])),
   ([(.vsl [(.agg [(.str [90]), (.int .i64 (0))]), (.agg [(.str [68, 117, 112]), (.int .i64 (2))]), (.agg [(.str [69, 114, 97]), (.int .i64 (0))])] .unk), (.agg [(.int .i64 (2)), (.int .i64 (1)), (.vsl [(.int .i64 (2)), (.int .i64 (2))] .unk), (.int .i64 (2)), (.vsl [(.agg [(.int .i64 (-1)), (.int .i64 (0)), (.int .i64 (0)), (.int .i64 (0))]), (.agg [(.int .i64 (-1)), (.int .i64 (1)), (.int .i64 (1)), (.int .i64 (0))])] .unk)])], (.tup [(.bool true), (.int .i64 (0))]))]
noncomputable def tabOK3 (P : Program) (mu : FuncId → Nat → Bool) (hk : Hooks) (n : Nat) (f : FuncId) (tab : List (List AV × AV)) : Bool :=
  tab.all fun e => match fCallH P mu hk n (.func f) e.1 .empty with
    | some (.ret u, _) => freeV u && AV.beq (weakV u) e.2
    | _ => false
theorem mkEv_tab3 {P : Program} {mu : FuncId → Nat → Bool} {hk : Hooks} {n : Nat} {f : FuncId} {tab : List (List AV × AV)} (hE : EvOK (mkEv P mu hk)) (h : tabOK3 P mu hk n f tab = true) : EvOK (mkEv P mu (addHk hk f (tabHk tab))) :=
  mkEv_add3 hE fun args v hs => by
    have h1 := List.all_eq_true.1 h _ (tabHk_mem hs)
    simp only at h1
    split at h1
    · rename_i u h' he
      simp only [Bool.and_eq_true] at h1
      exact ⟨u, h1.1, (AV.beq_eq h1.2).symm, n, h', by rw [fCallH_eq]; exact he⟩
    · cases h1
def wk0 : Hooks := noHooks
theorem wE0 : EvOK (mkEv Tryz.prog muW wk0) := mkEv_ok (by kernel_rfl) (by kernel_rfl)
def wk1 : Hooks := addHk wk0 20 (tabHk wtab20)
set_option maxRecDepth 100000 in
theorem wok1 : tabOK3 Tryz.prog muW wk0 300 20 wtab20 = true := by kernel_rfl
theorem wE1 : EvOK (mkEv Tryz.prog muW wk1) := mkEv_tab3 wE0 wok1
def wk2 : Hooks := addHk wk1 75 (tabHk wtab75)
set_option maxRecDepth 100000 in
theorem wok2 : tabOK3 Tryz.prog muW wk1 300 75 wtab75 = true := by kernel_rfl
theorem wE2 : EvOK (mkEv Tryz.prog muW wk2) := mkEv_tab3 wE1 wok2
def wk3 : Hooks := addHk wk2 110 (tabHk wtab110)
set_option maxRecDepth 100000 in
theorem wok3 : tabOK3 Tryz.prog muW wk2 300 110 wtab110 = true := by kernel_rfl
theorem wE3 : EvOK (mkEv Tryz.prog muW wk3) := mkEv_tab3 wE2 wok3
def wk4 : Hooks := addHk wk3 109 (tabHk wtab109)
set_option maxRecDepth 100000 in
theorem wok4 : tabOK3 Tryz.prog muW wk3 300 109 wtab109 = true := by kernel_rfl
theorem wE4 : EvOK (mkEv Tryz.prog muW wk4) := mkEv_tab3 wE3 wok4
def wk5 : Hooks := addHk wk4 106 (tabHk wtab106)
set_option maxRecDepth 100000 in
theorem wok5 : tabOK3 Tryz.prog muW wk4 300 106 wtab106 = true := by kernel_rfl
theorem wE5 : EvOK (mkEv Tryz.prog muW wk5) := mkEv_tab3 wE4 wok5
def wk6 : Hooks := addHk wk5 78 (tabHk wtab78)
set_option maxRecDepth 100000 in
theorem wok6 : tabOK3 Tryz.prog muW wk5 300 78 wtab78 = true := by kernel_rfl
theorem wE6 : EvOK (mkEv Tryz.prog muW wk6) := mkEv_tab3 wE5 wok6
def wk7 : Hooks := addHk wk6 49 (tabHk wtab49)
set_option maxRecDepth 100000 in
theorem wok7 : tabOK3 Tryz.prog muW wk6 300 49 wtab49 = true := by kernel_rfl
theorem wE7 : EvOK (mkEv Tryz.prog muW wk7) := mkEv_tab3 wE6 wok7
set_option maxRecDepth 100000 in
theorem runW : retTrue (fCallH Tryz.prog muW wk7 300 (.func 6) [] .empty) = true := by kernel_rfl
theorem runW' : ∃ h', evCall (mkEv Tryz.prog muW wk7) 300 (.func 6) [] .empty = some (.ret (.bool true), h') := by
  obtain ⟨h', he⟩ := retTrue_spec runW
  exact ⟨h', by rw [← he]; exact fCallH_eq _ _ _ _ _ _ _⟩
end Go.Proofs.Nt
namespace Go.Proofs
open Go.Shelf
def Tryz.lays189_ren : Go.Shelf.Ren := ⟨fun | 189 => 146 | 125 => 154 | 257 => 153 | 128 => 169 | 129 => 170 | 294 => 160 | 295 => 161 | 296 => 162 | 297 => 163 | 298 => 164 | 299 => 165 | 216 => 166 | 300 => 167 | 301 => 168 | 328 => 172 | 329 => 173 | 330 => 174 | 331 => 175 | 332 => 176 | 215 => 177 | 343 => 179 | n => n, fun | 28 => 42 | 3 => 3 | 46 => 202 | 0 => 0 | 51 => 130 | 53 => 274 | 4 => 4 | 183 => 266 | 182 => 265 | 131 => 243 | 5 => 5 | 9 => 9 | 218 => 275 | 222 => 279 | 228 => 281 | 229 => 282 | n => n, fun | n => n⟩
theorem Tryz.lays189 : Go.Proofs.Lays.n189 Tryz.prog Tryz.lays189_ren := {
  mixed := by kernel_rfl
  f125 := Tryz.func154.trans (congrArg some (by kernel_rfl))
  f128 := Tryz.func169.trans (congrArg some (by kernel_rfl))
  f129 := Tryz.func170.trans (congrArg some (by kernel_rfl))
  f189 := Tryz.func146.trans (congrArg some (by kernel_rfl))
  f215 := Tryz.func177.trans (congrArg some (by kernel_rfl))
  f216 := Tryz.func166.trans (congrArg some (by kernel_rfl))
  f257 := Tryz.func153.trans (congrArg some (by kernel_rfl))
  f294 := Tryz.func160.trans (congrArg some (by kernel_rfl))
  f295 := Tryz.func161.trans (congrArg some (by kernel_rfl))
  f296 := Tryz.func162.trans (congrArg some (by kernel_rfl))
  f297 := Tryz.func163.trans (congrArg some (by kernel_rfl))
  f298 := Tryz.func164.trans (congrArg some (by kernel_rfl))
  f299 := Tryz.func165.trans (congrArg some (by kernel_rfl))
  f300 := Tryz.func167.trans (congrArg some (by kernel_rfl))
  f301 := Tryz.func168.trans (congrArg some (by kernel_rfl))
  f328 := Tryz.func172.trans (congrArg some (by kernel_rfl))
  f329 := Tryz.func173.trans (congrArg some (by kernel_rfl))
  f330 := Tryz.func174.trans (congrArg some (by kernel_rfl))
  f331 := Tryz.func175.trans (congrArg some (by kernel_rfl))
  f332 := Tryz.func176.trans (congrArg some (by kernel_rfl))
  f343 := Tryz.func179.trans (congrArg some (by kernel_rfl))
  t0 := Tryz.underlying0
  a0 := Tryz.isAgg0
  z0 := Tryz.sizeOf0
  v0 := Tryz.zeroValue0
  t3 := Tryz.underlying3
  a3 := Tryz.isAgg3
  z3 := Tryz.sizeOf3
  v3 := Tryz.zeroValue3
  t4 := Tryz.underlying4
  a4 := Tryz.isAgg4
  z4 := Tryz.sizeOf4
  v4 := Tryz.zeroValue4
  t5 := Tryz.underlying5
  a5 := Tryz.isAgg5
  z5 := Tryz.sizeOf5
  v5 := Tryz.zeroValue5
  t9 := Tryz.underlying9
  a9 := Tryz.isAgg9
  z9 := Tryz.sizeOf9
  v9 := Tryz.zeroValue9
  t28 := Tryz.underlying42
  a28 := Tryz.isAgg42
  z28 := Tryz.sizeOf42
  v28 := Tryz.zeroValue42
  t46 := Tryz.underlying202
  a46 := Tryz.isAgg202
  z46 := Tryz.sizeOf202
  v46 := Tryz.zeroValue202
  t51 := Tryz.underlying130
  a51 := Tryz.isAgg130
  z51 := Tryz.sizeOf130
  v51 := Tryz.zeroValue130
  t53 := Tryz.underlying274
  a53 := Tryz.isAgg274
  z53 := Tryz.sizeOf274
  v53 := Tryz.zeroValue274
  t131 := Tryz.underlying243
  a131 := Tryz.isAgg243
  z131 := Tryz.sizeOf243
  v131 := Tryz.zeroValue243
  t182 := Tryz.underlying265
  a182 := Tryz.isAgg265
  z182 := Tryz.sizeOf265
  v182 := Tryz.zeroValue265
  t183 := Tryz.underlying266
  a183 := Tryz.isAgg266
  z183 := Tryz.sizeOf266
  v183 := Tryz.zeroValue266
  t218 := Tryz.underlying275
  a218 := Tryz.isAgg275
  z218 := Tryz.sizeOf275
  v218 := Tryz.zeroValue275
  t222 := Tryz.underlying279
  a222 := Tryz.isAgg279
  z222 := Tryz.sizeOf279
  v222 := Tryz.zeroValue279
  t228 := Tryz.underlying281
  a228 := Tryz.isAgg281
  z228 := Tryz.sizeOf281
  v228 := Tryz.zeroValue281
  t229 := Tryz.underlying282
  a229 := Tryz.isAgg282
  z229 := Tryz.sizeOf282
  v229 := Tryz.zeroValue282 }
open Go.Sort Go.RowKit in
theorem Tryz.slices_Sort_int (blk off cap : Nat) (zs : List Int) (w : World) (hH : Holds (Value.int .i64) w blk off zs.toArray) (hblk : blk < w.heap.size) (hsz : zs.length < 4611686018427387904) :
    Calls Tryz.prog 146 #[.slice (some ⟨blk, off, none⟩) zs.length cap] w fun e w' =>
      e = .returned (.tuple #[]) ∧ ∃ n os, w' = grow (putRow (Value.int .i64) (Sort.ahead w n) blk off (zs.mergeSort fun x y => decide (x ≤ y)).toArray) os := Any.slices_Sort_int Tryz.lays189 blk off cap zs w hH hblk hsz
open Go.RowKit Go.Sort in
theorem Tryz.slices_Sort_int_none (p : Option Addr) (cap : Nat) (w : World) :
    Calls Tryz.prog 146 #[.slice p 0 cap] w fun e w' => e = .returned (.tuple #[]) ∧ w' = w := Any.slices_Sort_int_none Tryz.lays189 p cap w
end Go.Proofs
namespace Go.Proofs.Nt
open Go.Sk Go.RowKit
def addHkH (hk : Hooks) (f : FuncId) (s : List AV → AH → Option (AV × AH)) : Hooks := fun g args h => if g = f then s args h else hk g args h
theorem addHkH_other (hk : Hooks) {f g : FuncId} (s : List AV → AH → Option (AV × AH)) (args : List AV) (h : AH) (e : g ≠ f) : addHkH hk f s g args h = hk g args h := by simp [addHkH, e]
theorem mkEv_addH {P : Program} {mu : FuncId → Nat → Bool} {hk : Hooks} {f : FuncId} {s : List AV → AH → Option (AV × AH)} (hE : EvOK (mkEv P mu hk)) (hk' : FnOK P f)
    (hs : ∀ args h v h', s args h = some (v, h') → ∀ ρ w cargs, Rel ρ h w → LRel ρ args cargs → Calls P f cargs.toArray w (EndPost ρ h w (.ret v) h')) : EvOK (mkEv P mu (addHkH hk f s)) where
  hk := fun g args hh v hh' h ρ w cargs hR hb ha => by
    by_cases hg : g = f
    · subst hg
      have h' : s args hh = some (v, hh') := by simpa [mkEv, addHkH] using h
      exact ⟨hk', hs _ _ _ _ h' ρ w cargs hR ha⟩
    · have h' : hk g args hh = some (v, hh') := by rw [← addHkH_other hk s args hh hg]; exact h
      exact hE.hk g args hh v hh' h' ρ w cargs hR hb ha
  ng := hE.ng
  rgn := hE.rgn
def intsX : List AV → Option (List Int)
  | [] => some []
  | .int .i64 z :: r => match intsX r with | some l => some (z :: l) | none => none
  | _ :: _ => none
theorem intsX_inv : ∀ {xs : List AV} {l : List Int}, intsX xs = some l → xs = l.map fun z => AV.int .i64 z
  | [], l, h => by cases h; rfl
  | x :: r, l, h => by
    unfold intsX at h
    split at h
    · rename_i e; cases e
    · rename_i z r' e
      cases e
      cases e2 : intsX r with
      | none => rw [e2] at h; cases h
      | some m => rw [e2] at h; cases h; rw [intsX_inv e2]; rfl
    · cases h
theorem intsX_of : ∀ l : List Int, intsX (l.map fun z => AV.int .i64 z) = some l
  | [] => rfl
  | z :: r => by simp only [List.map_cons, intsX, intsX_of r]
def sSort (args : List AV) (h : AH) : Option (AV × AH) :=
  match args with
  | [.nilsl] => some (.tup [], h)
  | [.hsl r 0 len _] => match h.get r with
    | some (.cells cs T) => match intsX cs with
      | some zs => if zs.length = len ∧ zs.length ≤ 1000000000 then some (.tup [], h.set r (.cells ((zs.mergeSort fun x y => decide (x ≤ y)).map fun z => AV.int .i64 z) T)) else none
      | none => none
    | _ => none
  | _ => none
theorem ok_So : FnOK Tryz.prog 146 := ⟨_, Tryz.func146, by kernel_rfl, by kernel_rfl⟩
theorem tup0 (ρ : Rho) : VRel ρ (.tup []) (.tuple #[]) := .tup [] #[] rfl (fun i hi => by simp at hi)
theorem ESo_of {hk : Hooks} (hE : EvOK (mkEv Tryz.prog mu0 hk)) : EvOK (mkEv Tryz.prog mu0 (addHkH hk 146 sSort)) :=
  mkEv_addH hE ok_So fun args h v h' hs ρ w cargs hR ha => by
    unfold sSort at hs
    split at hs
    · cases hs
      obtain ⟨c, rfl⟩ : ∃ c, cargs = [c] := by
        have := ha.1
        match cargs, this with
        | [c], _ => exact ⟨c, rfl⟩
      have hv := ha.2 0 (by simp) (by simp)
      simp only [List.getElem_cons_zero] at hv
      cases hv
      refine (Tryz.slices_Sort_int_none none 0 w).mono fun e w' hp => ?_
      obtain ⟨rfl, rfl⟩ := hp
      exact ⟨_, ρ, rfl, tup0 ρ, hR, Stp.refl ..⟩
    · rename_i r len cap
      split at hs
      · rename_i cs T hg
        split at hs
        · rename_i zs hz
          split at hs
          · rename_i hl
            obtain ⟨rfl, hl⟩ := hl
            cases hs
            obtain ⟨c, rfl⟩ : ∃ c, cargs = [c] := by
              have := ha.1
              match cargs, this with
              | [c], _ => exact ⟨c, rfl⟩
            have hv := ha.2 0 (by simp) (by simp)
            simp only [List.getElem_cons_zero] at hv
            cases hv with
            | hsl _ _ _ _ b n hb hn hcap =>
              obtain rfl := intsX_inv hz
              obtain ⟨ccs, fr, hw, hp, h1, hfr⟩ := hR.obj r _ b hg hb
              have hbd := (hR.bound r b hb).2.1
              have hcc : ∀ j (hj : j < zs.length), ccs[j]? = some (.int .i64 zs[j]!) := fun j hj => by
                have hj2 : j < ccs.length := by have := hp.1; simp only [List.length_map] at this; omega
                have h2 := hp.2 j (by simpa using hj) hj2
                rw [List.getElem?_eq_getElem hj2]
                simp only [List.getElem_map] at h2
                generalize ccs[j] = z at h2
                cases h2
                rw [getElem!_pos zs j hj]
              have hH : Go.Sort.Holds (Value.int .i64) w b 0 zs.toArray := fun j hj => by
                have hj : j < zs.length := by simpa using hj
                have hj2 : j < ccs.length := by have := hp.1; simp only [List.length_map] at this; omega
                refine ⟨?_, ?_⟩
                · unfold World.cell?
                  simp only [hw, Nat.zero_add]
                  simpa using hcc j hj
                · unfold World.frozen?
                  simp only [hw, Nat.zero_add]
                  rcases hfr with rfl | rfl
                  · simp
                  · simp; omega
              refine (Tryz.slices_Sort_int b 0 n zs w hH hbd (by omega)).mono fun e w' hpp => ?_
              obtain ⟨rfl, m, os, rfl⟩ := hpp
              generalize hzs : (zs.mergeSort fun x y => decide (x ≤ y)) = ss
              have hsl : ss.length = zs.length := by rw [← hzs, List.length_mergeSort]
              have hcs : zs.length ≤ ccs.length := by have := hp.1; simpa using this
              have hwr : Wrote w (Go.Sort.putRow (Value.int .i64) (Go.Sort.ahead w m) b 0 ss.toArray) b (.cells (Go.Sort.putCells (Value.int .i64) 0 ss.toArray ccs.toArray) T fr) := by
                refine ⟨rfl, rfl, rfl, by simp [Go.Sort.putRow, Go.Sort.mapBlock, Go.Sort.ahead], ?_, fun k hk => ?_⟩
                · simp [Go.Sort.putRow, Go.Sort.mapBlock, Go.Sort.ahead, Array.getElem?_modify, hw, Go.Sort.onCells]
                · simp [Go.Sort.putRow, Go.Sort.mapBlock, Go.Sort.ahead, Array.getElem?_modify, Ne.symm hk]
              have hsz2 : (Go.Sort.putCells (Value.int .i64) 0 ss.toArray ccs.toArray).size = ccs.length := by simp [Go.Sort.putCells]
              have hx : ORel ρ (.cells (ss.map fun z => AV.int .i64 z) T) (some (.cells (Go.Sort.putCells (Value.int .i64) 0 ss.toArray ccs.toArray) T fr)) := by
                refine ⟨(Go.Sort.putCells (Value.int .i64) 0 ss.toArray ccs.toArray).toList, fr, by simp, ⟨?_, ?_⟩, ?_, ?_⟩
                · have e1 : (Go.Sort.putCells (Value.int .i64) 0 ss.toArray ccs.toArray).toList.length = ccs.length := hsz2
                  have e2 : (ss.map fun z => AV.int .i64 z).length = ss.length := List.length_map ..
                  rw [e1, e2]; omega
                · intro i hi hj
                  have hi : i < ss.length := by simpa using hi
                  have : (Go.Sort.putCells (Value.int .i64) 0 ss.toArray ccs.toArray).toList[i] = .int .i64 ss[i] := by
                    simp [Go.Sort.putCells, hi]
                  rw [this, List.getElem_map]; exact .int _ _
                · intro v hv
                  obtain ⟨i, hi, rfl⟩ := List.mem_iff_getElem.1 hv
                  simp only [Go.Sort.putCells, Array.getElem_toList, Array.getElem_mapIdx]
                  split
                  · rfl
                  · exact h1 _ (by simp)
                · rw [Array.length_toList, hsz2]; exact hfr
              have hS := Rel.setObj hR hg (by simp [AO.live]) hb (by simp [AO.live]) hwr (fun ccs' T' fr' e => by
                rw [hw] at e; cases e
                exact ⟨_, _, _, rfl, by rw [hsz2]; simp⟩) hx
              have hT := Stp.setObj (ρ := ρ) (o' := .cells (ss.map fun z => AV.int .i64 z) T) hg (by simp [AO.live]) hb (by simp [AO.live]) hwr
              have hG : Grew (Go.Sort.putRow (Value.int .i64) (Go.Sort.ahead w m) b 0 ss.toArray) (Go.Sort.grow (Go.Sort.putRow (Value.int .i64) (Go.Sort.ahead w m) b 0 ss.toArray) os) :=
                ⟨rfl, rfl, rfl, by simp [Go.Sort.grow], fun k hk => by simp only [Go.Sort.grow]; rw [Array.getElem?_append_left hk]⟩
              exact ⟨_, ρ, rfl, tup0 ρ, hS.grew hG, hT.trans (Stp.grew hG)⟩
          · cases hs
        · cases hs
      · cases hs
    · cases hs
end Go.Proofs.Nt
namespace Go.Proofs.Nt
open Go.Sk
theorem hSo_of {hk hk0 : Hooks} {n : Nat} (hk' : ∀ args h, hk 146 args h = addHkH hk0 146 sSort 146 args h) (hn : 0 < n) : hSo (evCall (mkEv Tryz.prog mu0 hk) n) := by
  refine ⟨fun h => ev_hk (by rw [hk']; simp [addHkH, sSort]) hn, fun F h0 h R r zs c hz H => ?_⟩
  refine ⟨h.set r (.cells ((zs.mergeSort leI).map intV) 3), ev_hk ?_ hn, H.set (Upd.here _)⟩
  rw [hk']
  have hg := H.get (.head _)
  have e : (zs.map intV) = zs.map fun z => AV.int .i64 z := rfl
  simp only [addHkH, if_true, sSort, hg, e, intsX_of]
  rw [if_pos (And.intro (by first | rfl | simp) (by omega))]; rfl
noncomputable def hkRC := addHk hk10 48 s12
theorem ERC : EvOK (mkEv Tryz.prog mu0 hkRC) := mkEv_add E10 fun args v hs => by
  unfold s12 at hs; split at hs
  · rename_i x v'
    split at hs
    · rename_i s r h1 h2
      split at hs
      · rename_i hl
        cases hs
        obtain ⟨h', hb⟩ := b12 (evCall (mkEv Tryz.prog mu0 hk10) 6) (rg Tryz.prog mu0 hk10 6 48) 6 x v' s r (decL_inv h1) (ruleOf_inv h2) hl (h14_of (fun _ _ => rfl) (by omega)) (h16_of (fun _ _ => rfl) (by omega)) .empty (by omega)
        exact ⟨rfl, ev_ofS tab12 rfl Tryz.func48 rfl fits12 hb⟩
      · cases hs
    · cases hs
  · cases hs
noncomputable def hkSo := addHkH hkRC 146 sSort
theorem ESo : EvOK (mkEv Tryz.prog mu0 hkSo) := ESo_of ERC
def sWo : List AV → Option AV | [] => some (.bool true) | _ => none
noncomputable def hkWo := addHk hkSo 6 sWo
theorem EWo : EvOK (mkEv Tryz.prog mu0 hkWo) := mkEv_addy ESo wE7 fun args v hs => by
  unfold sWo at hs; split at hs
  · cases hs
    obtain ⟨h', he⟩ := runW'
    exact ⟨rfl, _, h', he⟩
  · cases hs
noncomputable abbrev cw (n : Nat) : CallT := evCall (mkEv Tryz.prog mu0 hkWo) n
theorem k12 (n) (h : 0 < n) : h12 (cw n) := h12_of (fun _ _ => rfl) h
theorem k13 (n) (h : 0 < n) : h13 (cw n) := h13_of (fun _ _ => rfl) h
theorem k14 (n) (h : 0 < n) : h14 (cw n) := h14_of (fun _ _ => rfl) h
theorem k16 (n) (h : 0 < n) : h16 (cw n) := h16_of (fun _ _ => rfl) h
theorem kCA (n) (h : 0 < n) : hCA (cw n) := hCA_of (fun _ _ => rfl) h
theorem kTS (n) (h : 0 < n) : hTS (cw n) := hTS_of (fun _ _ => rfl) h
theorem kRS (n) (h : 0 < n) : hRS (cw n) := hRS_of (fun _ _ => rfl) h
theorem kTf (n) (h : 0 < n) : hTf (cw n) := hTf_of (fun _ _ => rfl) h
theorem kTa (n) (h : 0 < n) : hTa (cw n) := hTa_of (fun _ _ => rfl) h
theorem kTw (n) (h : 0 < n) : hTw (cw n) := hTw_of (fun _ _ => rfl) h
theorem kRf (n) (h : 0 < n) : hRf (cw n) := hRf_of (fun _ _ => rfl) h
theorem kRa (n) (h : 0 < n) : hRa (cw n) := hRa_of (fun _ _ => rfl) h
theorem kNe (n) (h : 0 < n) : hNe (cw n) := hNe_of (fun _ _ => rfl) h
theorem k9 (n) (h : 0 < n) : h9 (cw n) := h9_of (fun _ _ => rfl) h
theorem kSzA (n) (h : 0 < n) : hSzA (cw n) := fun x s hh hx hl => h11_of (hk := hkWo) (fun _ _ => rfl) h hh hx hl
theorem kLoA (n) (h : 0 < n) : hLoA (cw n) := fun a hh => h10_of (hk := hkWo) (fun _ _ => rfl) h a hh
theorem kSo (n) (h : 0 < n) : hSo (cw n) := hSo_of (hk0 := hkRC) (fun _ _ => rfl) h
theorem kWo (n) (h : 0 < n) : ∀ hh, cw n (.func 6) [] hh = some (.ret (.bool true), hh) := fun hh => ev_hk (hk_top rfl rfl) h
theorem kKc (n) (h : 0 < n) : hKc (cw n) := hKc_of (fun _ _ => rfl) h
theorem kKw (n) (h : 0 < n) : hKw (cw n) := hKw_of (fun _ _ => rfl) h
theorem kKa (n) (h : 0 < n) : hKa (cw n) := hKa_of (fun _ _ => rfl) h
theorem kBk (n) (h : 0 < n) : hBk (cw n) := hBk_of (fun _ _ => rfl) h
theorem kBn (n) (h : 0 < n) : hBn (cw n) := hBn_of (fun _ _ => rfl) h
theorem kBo (n) (h : 5 < n) : hBo (cw n) := hBo_of (fun _ _ => rfl) (fun n h => kKc n (by omega)) (fun n h => kKw n (by omega)) h
theorem kBw (n) (h : 5 < n) : hBw (cw n) := hBw_of (fun _ _ => rfl) (fun n h => k14 n (by omega)) (fun n h => kKa n (by omega)) h
theorem kWl (n) (h : 30001 < n) : hWl (cw n) := hWl_of (fun _ _ => rfl) (fun n h => k16 n (by omega)) h
theorem kWd (n) (h : 0 < n) : hWd (cw n) := hWd_of (fun _ _ => rfl) h
theorem kWq (n) (h : 6000 < n) : hWq (cw n) := hWq_of (fun _ _ => rfl) (fun _ _ => rfl) (fun n h => kWd n h) (fun n h => kSo n (by omega)) h
theorem kWp (n) (h : 40000 < n) : hWp (cw n) := hWp_of (fun _ _ => rfl) (fun n h => kWl n (by omega)) (fun n h => kWq n (by omega)) h
theorem kWf (n) (h : 40000 < n) : hWf (cw n) := hWf_of (fun _ _ => rfl) (fun _ _ => rfl) (fun n h => kWl n h) (fun n h => kWd n h) h
theorem kZi (n) (h : 5 < n) : hZi (cw n) := hZi_of (fun _ _ => rfl) h
theorem kZg (n) (h : 7 < n) : hZg (cw n) := hZg_of (fun _ _ => rfl) (fun n h => kZi n (by omega)) (by omega)
theorem kZf (n) (h : 9 < n) : hZf (cw n) := hZf_of (fun _ _ => rfl) (fun n h => kZg n (by omega)) (by omega)
theorem kSz (n) (h : 0 < n) : hSz (cw n) := hSz_of (fun _ _ => rfl) h
theorem kOr (n) (h : 42000 < n) : hOr (cw n) := hOr_of (fun _ _ => rfl) (fun _ _ => rfl) (fun n h => k16 n h) (fun n h => kWp n (by omega)) (fun n h => kZf n (by omega)) (fun n h => kSz n h) (fun n h => kWf n (by omega)) h
theorem kSf (n) (h : 30001 < n) : hSf (cw n) := hSf_of (fun _ _ => rfl) (fun n h => k16 n (by omega)) h
theorem kMq (n) (h : 0 < n) : hMq (cw n) := hMq_of (fun _ _ => rfl) h
theorem kMp (n) (h : 30001 < n) : hMp (cw n) := hMp_of (fun _ _ => rfl) (fun n h => kMq n (by omega)) h
theorem kSa (n) (h : 43000 < n) : hSa (cw n) := hSa_of (fun _ _ => rfl) (fun n h => kSf n (by omega)) (fun n h => kOr n (by omega)) (fun n h => kMp n (by omega)) h
theorem kTu (n) (h : 70 < n) : hTu (cw n) := hTu_of (fun _ _ => rfl) h
theorem kTp (n) (h : 0 < n) : hTp (cw n) := hTp_of (fun _ _ => rfl) h
theorem kTo (n) (h : 30001 < n) : hTo (cw n) := hTo_of (fun _ _ => rfl) (fun n h => k13 n (by omega)) (fun n h => kTu n (by omega)) (fun n h => kTp n (by omega)) h
theorem kFa (n) (h : 43001 < n) : hFa (cw n) := hFa_of (fun _ _ => rfl) (fun n h => k12 n (by omega)) (fun n h => kTo n (by omega)) (fun n h => kSa n (by omega)) h
theorem kBa (n) (h : 44000 < n) : hBa (cw n) := hBa_of (fun _ _ => rfl) (fun n h => k12 n (by omega)) (fun n h => k13 n (by omega)) (fun n h => kBn n (by omega)) (fun n h => kFa n (by omega)) (fun n h => kBk n (by omega)) h
theorem kTb (n) (h : 45000 < n) : hTb (cw n) := hTb_of (fun _ _ => rfl) (fun n h => kTS n (by omega)) (fun n h => kTf n (by omega)) (fun n h => kTa n (by omega)) (fun n h => kTw n (by omega)) (fun n h => kBw n (by omega)) (fun n h => kBa n (by omega)) h
theorem kTe (n) (h : 5 < n) : hTe (cw n) := hTe_of (fun _ _ => rfl) (fun n h => kTS n (by omega)) h
theorem kBs (n) (h : 5 < n) : hBs (cw n) := hBs_of (fun _ _ => rfl) (fun n h => kBn n (by omega)) (fun n h => kKa n (by omega)) h
theorem kBr (n) (h : 1000010 < n) : hBr (cw n) := hBr_of (fun _ _ => rfl) (fun n h => kBn n (by omega)) (fun n h => kBo n (by omega)) h
theorem kRk (n) (h : 45000 < n) : hRk (cw n) := hRk_of (fun _ _ => rfl) (fun n h => kRS n (by omega)) (fun n h => kRf n (by omega)) (fun n h => kRa n (by omega)) (fun n h => kNe n (by omega)) h
theorem kRq (n) (h : 5 < n) : hRq (cw n) := hRq_of (fun _ _ => rfl) (fun n h => k9 n (by omega)) h
theorem kEs (n) (h : 1000010 < n) : hEs (cw n) := hEs_of (fun _ _ => rfl) (fun n h => kRq n (by omega)) h
theorem kEg (n) (h : 1000010 < n) : hEg (cw n) := hEg_of (fun _ _ => rfl) h
theorem runTL (y : AV) (s : List Ag) (hy : IsSig y s) : ∃ n h', evCall (mkEv Tryz.prog mu0 hkWo) n (.func 3) [y] .empty = some (.ret (.bool true), h') := by
  obtain ⟨N, hN⟩ : ∃ N, N = 1000020 := ⟨_, rfl⟩
  obtain ⟨h', hb⟩ := bTL (cw N) (rg Tryz.prog mu0 hkWo N 3) N y s hy (kSzA N (by omega)) (kLoA N (by omega)) (kCA N (by omega)) (kTS N (by omega)) (kRS N (by omega)) (kTb N (by omega)) (kTe N (by omega)) (kEg N (by omega)) (kBs N (by omega)) (kBr N (by omega)) (kRk N (by omega)) (kEs N (by omega)) (kWo N (by omega)) .empty
  exact ev_ofS shT rfl Tryz.func3 rfl (by kernel_rfl) hb
end Go.Proofs.Nt
namespace Go.Proofs.Nt
open Go.Sk Go.ChangeShapes Go.WideShapes
section
variable {H : Type} {enc : TypeId × Value → H} {w : World} {base : Nat} {sp : Nat → Bool} {held : Bool}
theorem addr_add (b off i : Nat) : (Addr.mk b off none).add i = ⟨b, off + i, none⟩ := by
  unfold Addr.add; split
  · rename_i h0; subst h0; rfl
  · rfl
theorem open_listA {α : Type} [Inhabited α] {encA : α → AV} {sz : Nat} {t e : TypeId} {v : Value} {fuel : Nat} {x : DataW H × List MemPlace} (ht : Tryz.prog.underlying t = some (.slice e)) (hc : Tryz.prog.cellsOf e = sz) (hsz : ∀ a, (encA a).cells.length = sz)
    (hE : ∀ n cs x, DataW.trod enc Tryz.prog w base sp held n e cs = some x → ∃ a : α, LRel (rho0 w) (encA a).cells cs ∧ ∀ c ∈ cs, c.oneCell' = true)
    (hs : ∀ (a : Addr) l c, v = .slice (some a) l c → a.spot = none) (h : DataW.trod enc Tryz.prog w base sp held fuel t [v] = some x) :
    ∃ (u : AV) (l : List α), VRel (rho0 w) u v ∧ IsL u (l.map encA) := by
  rcases Deep.open_slice ht h with ⟨h1, _⟩ | ⟨a, len, cap, m, n, D, Pl, h1, hb, hl, hm, hmm, hx, hel⟩
  · simp only [List.cons.injEq, and_true] at h1
    subst h1
    exact ⟨.nilsl, [], .nilsl, .inl ⟨rfl, rfl⟩⟩
  · simp only [List.cons.injEq, and_true] at h1
    have hspot := hs a len cap h1
    subst h1
    obtain ⟨b, off, spot⟩ := a
    simp only at hspot; subst hspot
    have hlm : len ≤ m := by rw [hmm]; split <;> omega
    obtain ⟨f, hf⟩ := Deep.choose_lt (α := α × List Value) (n := len) (p := fun i y => w.cells? base ((Addr.mk b off none).add (i * Tryz.prog.cellsOf e)) (Tryz.prog.cellsOf e) = some y.2 ∧ LRel (rho0 w) (encA y.1).cells y.2 ∧ ∀ c ∈ y.2, c.oneCell' = true) (fun i hi => by
      obtain ⟨cs', q1, q2⟩ := hel i (by omega)
      obtain ⟨a, q3, q4⟩ := hE _ _ _ q2
      exact ⟨(a, cs'), q1, q3, q4⟩)
    have hlen : ((List.range len).map fun i => encA (f i).1).length = len := by simp
    have key : VRel (rho0 w) (.vsl ((List.range len).map fun i => encA (f i).1) .unk) (.slice (some ⟨b, off, none⟩) ((List.range len).map fun i => encA (f i).1).length cap) := by
      refine .vsl _ .unk b off cap sz (fun i j => (f i).2.getD j default) (fun i hi => by simp [hsz]) (fun i j hi hj => ?_) (fun i hi j hj => ?_) (by rw [hlen]; exact hl) trivial
      · rw [hlen] at hi
        obtain ⟨p1, p2, p3⟩ := hf i hi
        obtain ⟨_, r1, r2⟩ := World.cells?_some p1
        have := r2 j (by rw [hc]; exact hj)
        rw [hc, addr_add, addr_add] at this
        rw [rho0_imm, this]
        have hjl : j < (f i).2.length := by rw [r1, hc]; exact hj
        rw [List.getElem?_eq_getElem hjl]
        have hd : (f i).2.getD j default = (f i).2[j] := by rw [List.getD_eq_getElem?_getD, List.getElem?_eq_getElem hjl]; rfl
        rw [hd]
        exact ⟨rfl, p3 _ (List.getElem_mem _)⟩
      · rw [hlen] at hi
        obtain ⟨p1, p2, p3⟩ := hf i hi
        have hxi : ((List.range len).map fun i => encA (f i).1)[i] = encA (f i).1 := by simp
        have hj' : j < (encA (f i).1).cells.length := by rw [hxi] at hj; exact hj
        have hjl : j < (f i).2.length := by rw [p2.1]; exact hj'
        have hd : (f i).2.getD j default = (f i).2[j] := by rw [List.getD_eq_getElem?_getD, List.getElem?_eq_getElem hjl]; rfl
        have := p2.2 j hj' hjl
        rw [hd]
        simp only [hxi]
        exact this
    rw [hlen] at key
    exact ⟨_, (List.range len).map fun i => (f i).1, key, .inr ⟨.unk, by rw [List.map_map]; rfl⟩⟩
theorem t3 {n : Nat} {cs : List Value} {x : DataW H × List MemPlace} (h : DataW.trod enc Tryz.prog w base sp held n 3 cs = some x) : ∃ a, cs = [.int .i64 a] := by
  obtain ⟨a, h1, _⟩ := DataW.trod_int (k := .i64) (by kernel_rfl) h
  exact ⟨a, h1⟩
theorem t43 {n : Nat} {cs : List Value} {x : DataW H × List MemPlace} (h : DataW.trod enc Tryz.prog w base sp held n 41 cs = some x) : ∃ a : Ag, LRel (rho0 w) (agV a).cells cs ∧ ∀ c ∈ cs, c.oneCell' = true := by
  have hs : Tryz.prog.underlying 41 = some (.struct #[⟨ "Name", 9, 0, false, "", "", 0⟩, ⟨ "Arity", 3, 1, false, "", "", 16⟩]) := by kernel_rfl
  obtain ⟨xs, m, _, _, hl, hlen, hf⟩ := DataW.trod_struct hs h
  have hc : Tryz.prog.cellsOf 41 = 2 := by kernel_rfl
  have c9 : Tryz.prog.cellsOf 9 = 1 := by kernel_rfl
  have c3 : Tryz.prog.cellsOf 3 = 1 := by kernel_rfl
  rw [hc] at hl
  match cs, hl with
  | [c0, c1], _ =>
    match xs, hlen with
    | [y0, y1], _ =>
      have f0 := hf 0 ⟨ "Name", 9, 0, false, "", "", 0⟩ rfl
      have f1 := hf 1 ⟨ "Arity", 3, 1, false, "", "", 16⟩ rfl
      simp only [c9, c3, List.drop_zero, List.take_succ_cons, List.take_zero, List.drop_succ_cons, List.getElem?_cons_zero, List.getElem?_cons_succ] at f0 f1
      obtain ⟨s, e0, _⟩ := DataW.trod_string (by kernel_rfl) f0
      obtain ⟨a, e1⟩ := t3 f1
      simp only [List.cons.injEq, and_true] at e0 e1
      subst e0; subst e1
      refine ⟨(s.data.toList, a), ?_, fun c hc => ?_⟩
      · have hv : VRel (rho0 w) (.str s.data.toList) (.string s) := .str s.data.toList
        exact LRel.cons hv (LRel.cons (.int _ _) (LRel.nil _))
      · simp only [List.mem_cons, List.not_mem_nil, or_false] at hc
        rcases hc with rfl | rfl <;> rfl
theorem t45 {n : Nat} {cs : List Value} {x : DataW H × List MemPlace} (h : DataW.trod enc Tryz.prog w base sp held n 44 cs = some x) : ∃ a b, cs = [.int .i64 a, .int .i64 b] := by
  have hs : Tryz.prog.underlying 44 = some (.struct #[⟨ "Cell", 3, 0, false, "", "", 0⟩, ⟨ "Slot", 3, 1, false, "", "", 8⟩]) := by kernel_rfl
  obtain ⟨xs, m, _, _, hl, hlen, hf⟩ := DataW.trod_struct hs h
  have hc : Tryz.prog.cellsOf 44 = 2 := by kernel_rfl
  have c3 : Tryz.prog.cellsOf 3 = 1 := by kernel_rfl
  rw [hc] at hl
  match cs, hl with
  | [c0, c1], _ =>
    match xs, hlen with
    | [y0, y1], _ =>
      have f0 := hf 0 ⟨ "Cell", 3, 0, false, "", "", 0⟩ rfl
      have f1 := hf 1 ⟨ "Slot", 3, 1, false, "", "", 8⟩ rfl
      simp only [c3, List.drop_zero, List.take_succ_cons, List.take_zero, List.drop_succ_cons, List.getElem?_cons_zero, List.getElem?_cons_succ] at f0 f1
      obtain ⟨a, e0⟩ := t3 f0
      obtain ⟨b, e1⟩ := t3 f1
      simp only [List.cons.injEq, and_true] at e0 e1
      exact ⟨a, b, by rw [e0, e1]⟩
theorem t47 {n : Nat} {cs : List Value} {x : DataW H × List MemPlace} (h : DataW.trod enc Tryz.prog w base sp held n 46 cs = some x) : ∃ a : Wr, LRel (rho0 w) (wireV a).cells cs ∧ ∀ c ∈ cs, c.oneCell' = true := by
  have hs : Tryz.prog.underlying 46 = some (.struct #[⟨ "A", 44, 0, false, "", "", 0⟩, ⟨ "B", 44, 2, false, "", "", 16⟩]) := by kernel_rfl
  obtain ⟨xs, m, _, _, hl, hlen, hf⟩ := DataW.trod_struct hs h
  have hc : Tryz.prog.cellsOf 46 = 4 := by kernel_rfl
  have c45 : Tryz.prog.cellsOf 44 = 2 := by kernel_rfl
  rw [hc] at hl
  match cs, hl with
  | [c0, c1, c2, c3], _ =>
    match xs, hlen with
    | [y0, y1], _ =>
      have f0 := hf 0 ⟨ "A", 44, 0, false, "", "", 0⟩ rfl
      have f1 := hf 1 ⟨ "B", 44, 2, false, "", "", 16⟩ rfl
      simp only [c45, List.drop_zero, List.take_succ_cons, List.take_zero, List.drop_succ_cons, List.getElem?_cons_zero, List.getElem?_cons_succ] at f0 f1
      obtain ⟨a, b, e0⟩ := t45 f0
      obtain ⟨c, d, e1⟩ := t45 f1
      simp only [List.cons.injEq, and_true] at e0 e1
      obtain ⟨rfl, rfl⟩ := e0
      obtain ⟨rfl, rfl⟩ := e1
      refine ⟨(a, b, c, d), LRel.cons (.int _ _) (LRel.cons (.int _ _) (LRel.cons (.int _ _) (LRel.cons (.int _ _) (LRel.nil _)))), fun c hc => ?_⟩
      simp only [List.mem_cons, List.not_mem_nil, or_false] at hc
      rcases hc with rfl | rfl | rfl | rfl <;> rfl
theorem spot_of {r : Reach} {b0 : Nat} {t e : TypeId} {v : Value} (ht : Tryz.prog.underlying t = some (.slice e)) (h : Cell.okWide Tryz.prog w r b0 t v) : ∀ (a : Addr) l c, v = .slice (some a) l c → a.spot = none := by
  rintro a l c rfl
  simp only [Cell.okWide, ht, Cell.ok] at h
  exact h.2.2.2.1
theorem open_sig {r : Reach} {b0 : Nat} {v : Value} {d : DataW H} {ps : List MemPlace} (hval : Value.okWide Tryz.prog w r b0 22 v) (hd : DataW.Trod enc Tryz.prog w base sp held 22 v d ps) : ∃ x s, VRel (rho0 w) x v ∧ IsSig x s := by
  have ht : Tryz.prog.underlying 22 = some (.slice 41) := by kernel_rfl
  obtain ⟨a, len, cap, rfl⟩ := okWide_slice ht hval
  obtain ⟨fuel, hf⟩ := hd
  have hc : Cell.okWide Tryz.prog w r b0 22 (.slice a len cap) := by
    unfold Value.okWide at hval
    rw [ht] at hval
    exact hval
  exact open_listA (encA := agV) (sz := 2) ht (by kernel_rfl) (fun _ => rfl) (fun n cs x h => t43 h) (spot_of ht hc) (by simpa [Value.cells] using hf)
end
end Go.Proofs.Nt
namespace Go.Proofs.YtnhejnnpcnoeeaaGreat.twinBooks
open Go.Sk Go.ChangeShapes Go.WideShapes Go.ChangeAt Go.RowKit Go.Proofs.Nt
theorem own : ownKnob Tryz.prog.godebug = none := by kernel_rfl
theorem laid : laidOutB Tryz.prog = true := by kernel_rfl
theorem walk (y : AV) (u : Value) (w : World) (hu : VRel (rho0 w) y u) {s : List Ag} (hy : IsSig y s) : Calls Tryz.prog 3 #[u] w fun e w' => e = .returned (.bool true) ∧ Below w.heap.size w w' := by
  obtain ⟨m, h', he⟩ := runTL y s hy
  exact ev_calls (cargs := [u]) EWo w (.cons hu (.nil _)) he
set_option maxRecDepth 100000 in
theorem lifted (os : Os) (started : os.Started) (H : Type) (enc : TypeId × Value → H) :
    ReturnsInHanded {} Tryz.checked os 3 .any (Rows.twinBooksSpec.pre6 enc Tryz.prog Tryz.f3 Rows.twinBooksRow.domain false) (Rows.twinBooksSpec.post enc Tryz.prog Tryz.f3 false true false false) := by
  refine returnsInHanded_of_change (C := Tryz.checked) own started (by kernel_rfl) Tryz.func3
    (ChangeSpec.witness6 (enc := enc) (C := Tryz.checked) false ⟨#[], #[.slice none 0 0], []⟩ 8 (by kernel_rfl) (by kernel_rfl) (by kernel_rfl) (by kernel_rfl)) ?_
  intro W base args ds gs before hval0 hW hcnd _
  have hval : ∀ (j : Nat) t v, Tryz.f3.params[j]? = some t → args[j]? = some v → Value.okWide Tryz.prog W .any base t v := hval0
  have hW' := hW
  obtain ⟨p, q, hA0, hV, rfl, hfz, hnd⟩ := hW
  have hA : DataW.TrodAll enc Tryz.prog W 0 (fun _ => true) true Tryz.f3.params.toList args.toList ds p := hA0
  rw [Tryz.params3] at hA hval
  obtain ⟨v0, vs0, d0, ds0, p0, q0, hargs, rfl, rfl, h0, r0⟩ := trodAll_cons hA
  obtain ⟨rfl, rfl, rfl⟩ := trodAll_nil r0
  obtain rfl : args = #[v0] := by cases args; simp_all
  obtain ⟨rfl, rfl⟩ := trodVars_none hV
  obtain ⟨y, s, hyv, hy⟩ := open_sig (hval 0 22 v0 rfl rfl) h0
  clear hA0 hval0
  simp only [List.append_nil] at hW'
  refine (walk y v0 W hyv hy).mono fun e W' ⟨he, hg⟩ => ?_
  subst he
  exact ⟨_, rfl, law_post (T := 4) hW' rfl rfl (by kernel_rfl) Tryz.underlying4 laid (by kernel_rfl) hg⟩
theorem over : Rows.twinBooksRow.holds Tryz.pinned (OpenSpec.ofChange Rows.twinBooksSpec) :=
  OpenClaim.holds_of_wide 3 Tryz.f3 rfl rfl rfl rfl rfl rfl rfl ⟨rfl, rfl, rfl, rfl, rfl⟩ rfl rfl rfl rfl rfl (by kernel_rfl) Tryz.func3 (by kernel_rfl)
    (of_decide_eq_true (by kernel_rfl)) (by unfold Func.isWrapper; first | (rw [if_pos (by decide +kernel)]; kernel_rfl) | (rw [if_neg (by decide +kernel)]; exact ⟨rfl, rfl⟩))
    (fun os started H enc _ => lifted os started H enc)
theorem proved : Rows.TwinBooksSaid :=
  over
#print axioms proved
end Go.Proofs.YtnhejnnpcnoeeaaGreat.twinBooks

/-
  The law TextCuts, run.
-/
import Derived.Test.YtcbjhieaonociaaTxJ
namespace Go.Proofs.Tx
open Go.Sk
set_option linter.unusedVariables false
set_option linter.unusedSimpArgs false
set_option maxRecDepth 10000

theorem setCells_length {α : Type} : ∀ (vs cs : List α) (off : Nat), (setCells cs off vs).length = cs.length
  | [], cs, off => rfl
  | v :: vs, cs, off => by simp only [setCells]; rw [setCells_length vs]; simp

theorem l3a (call rgn n) (r : Sk.Id) (cap : HCap) (len : Nat) (hlen : len ≤ 3000000000) (hs : AH) {v3 v7 v10 : AV} {K : KC AOut} {y : Option AOut}
    (hK : ∀ {h} {g0 g1 g4 g5 g6 g8 g9 g11 g12 g13 g14 g15 g16 g17 g18 g19 g20 g21 g22 g23 g24 g25 g26 g27 g28 g29 g30 g31 g32 g33 g34 g35 g36 g37 g38 g39 g40 g41 g42 g43 g44 g45 g46 g47 g48 g49 g50 g51 g52 g53 g54 g55 g56 g57 g58 g59 g60 g61 g62 g63 g64 g65 g66 g67 g68 g69 g70 g71 g72 g73 g74 g75 g76 g77 g78 g79 g80 g81 g82 g83 g84 g85 g86 g87 g88 g89 g90 g91 g92 g93 g94 g95 g96 g97 g98 g99 g100 g101 g102 g103 : AV}, (∀ q o, hs.get q = some o → q ≠ r → h.get q = some o) → K (.exit 0) ⟨(g0 :: g1 :: .bool false :: v3 :: g4 :: g5 :: g6 :: v7 :: g8 :: g9 :: v10 :: g11 :: g12 :: g13 :: g14 :: g15 :: g16 :: g17 :: g18 :: g19 :: g20 :: g21 :: g22 :: g23 :: g24 :: g25 :: g26 :: g27 :: g28 :: g29 :: g30 :: g31 :: g32 :: g33 :: g34 :: g35 :: g36 :: g37 :: g38 :: g39 :: g40 :: g41 :: g42 :: g43 :: g44 :: g45 :: g46 :: g47 :: g48 :: g49 :: g50 :: g51 :: g52 :: g53 :: g54 :: g55 :: g56 :: g57 :: g58 :: g59 :: g60 :: g61 :: g62 :: g63 :: g64 :: g65 :: g66 :: g67 :: g68 :: g69 :: g70 :: g71 :: g72 :: g73 :: g74 :: g75 :: g76 :: g77 :: g78 :: g79 :: g80 :: g81 :: g82 :: g83 :: g84 :: g85 :: g86 :: g87 :: g88 :: g89 :: g90 :: g91 :: g92 :: g93 :: g94 :: g95 :: g96 :: g97 :: g98 :: g99 :: g100 :: g101 :: g102 :: g103 :: []), [], h⟩ = y) :
    ∀ (m i : Nat) {x : Int} {h : AH} {cs : List AV} {g0 g1 g5 g6 g8 g9 g11 g12 g14 g15 g16 g17 g18 g19 g20 g21 g22 g23 g24 g25 g26 g27 g28 g29 g30 g31 g32 g33 g34 g35 g36 g37 g38 g39 g40 g41 g42 g43 g44 g45 g46 g47 g48 g49 g50 g51 g52 g53 g54 g55 g56 g57 g58 g59 g60 g61 g62 g63 g64 g65 g66 g67 g68 g69 g70 g71 g72 g73 g74 g75 g76 g77 g78 g79 g80 g81 g82 g83 g84 g85 g86 g87 g88 g89 g90 g91 g92 g93 g94 g95 g96 g97 g98 g99 g100 g101 g102 g103 : AV}, x = i → i ≤ len → len - i < m → h.get r = some (.cells cs 37) → cs.length = len * 3 → (∀ q o, hs.get q = some o → q ≠ r → h.get q = some o) →
    cIter (LB mu1 call rgn n 3 Try.f3 0) m ⟨(g0 :: g1 :: .bool false :: v3 :: .hsl r 0 len cap :: g5 :: g6 :: v7 :: g8 :: g9 :: v10 :: g11 :: g12 :: .int .i64 x :: g14 :: g15 :: g16 :: g17 :: g18 :: g19 :: g20 :: g21 :: g22 :: g23 :: g24 :: g25 :: g26 :: g27 :: g28 :: g29 :: g30 :: g31 :: g32 :: g33 :: g34 :: g35 :: g36 :: g37 :: g38 :: g39 :: g40 :: g41 :: g42 :: g43 :: g44 :: g45 :: g46 :: g47 :: g48 :: g49 :: g50 :: g51 :: g52 :: g53 :: g54 :: g55 :: g56 :: g57 :: g58 :: g59 :: g60 :: g61 :: g62 :: g63 :: g64 :: g65 :: g66 :: g67 :: g68 :: g69 :: g70 :: g71 :: g72 :: g73 :: g74 :: g75 :: g76 :: g77 :: g78 :: g79 :: g80 :: g81 :: g82 :: g83 :: g84 :: g85 :: g86 :: g87 :: g88 :: g89 :: g90 :: g91 :: g92 :: g93 :: g94 :: g95 :: g96 :: g97 :: g98 :: g99 :: g100 :: g101 :: g102 :: g103 :: []), [], h⟩ K = y := by
  intro m
  induction m with
  | zero => intros; omega
  | succ m ih =>
    intro i x h cs g0 g1 g5 g6 g8 g9 g11 g12 g14 g15 g16 g17 g18 g19 g20 g21 g22 g23 g24 g25 g26 g27 g28 g29 g30 g31 g32 g33 g34 g35 g36 g37 g38 g39 g40 g41 g42 g43 g44 g45 g46 g47 g48 g49 g50 g51 g52 g53 g54 g55 g56 g57 g58 g59 g60 g61 g62 g63 g64 g65 g66 g67 g68 g69 g70 g71 g72 g73 g74 g75 g76 g77 g78 g79 g80 g81 g82 g83 g84 g85 g86 g87 g88 g89 g90 g91 g92 g93 g94 g95 g96 g97 g98 g99 g100 g101 g102 g103 hx hi hm hg hcs hfr
    rw [cIter_succ]
    conv => lhs; whnf
    split
    · rename_i hd
      have hlt : i < len := by simp at hd; omega
      have h0 : decide (0 ≤ x) = true := by simp; omega
      have hoff : x.toNat = i := by rw [hx]; rfl
      have hst : hOf (aStore Try.prog 37 (.ptr r (0 + x.toNat * 3)) (.agg [.int .i8 0, .str [], .int .i64 (-1)]) h) = some (.ret undefA, h.set r (.cells (setCells cs (0 + x.toNat * 3) [.int .i8 0, .str [], .int .i64 (-1)]) 37)) :=
        st_ptr (n := 3) hg (by kernel_rfl) rfl (by rw [hoff, hcs]; omega) rfl
      repeat' ((conv => lhs; whnf); first | rw [h0] | rw [hd])
      conv => lhs; whnf
      refine atCall_ret hst ?_
      conv => lhs; whnf
      refine ih (i + 1) ?_ (by omega) (by omega) (by rw [AH.get_set, if_pos rfl]) (by rw [setCells_length]; exact hcs) fun q o hq hne => ?_
      · rw [hx]; exact wrap_succ (by omega)
      · rw [AH.get_set, if_neg hne]; exact hfr q o hq hne
    · exact hK hfr

theorem l3az (call rgn n) {h : AH} {v3 v7 v10 : AV} {K : KC AOut} {y : Option AOut}
    (hK : ∀ {g0 g1 g4 g5 g6 g8 g9 g11 g12 g13 g14 g15 g16 g17 g18 g19 g20 g21 g22 g23 g24 g25 g26 g27 g28 g29 g30 g31 g32 g33 g34 g35 g36 g37 g38 g39 g40 g41 g42 g43 g44 g45 g46 g47 g48 g49 g50 g51 g52 g53 g54 g55 g56 g57 g58 g59 g60 g61 g62 g63 g64 g65 g66 g67 g68 g69 g70 g71 g72 g73 g74 g75 g76 g77 g78 g79 g80 g81 g82 g83 g84 g85 g86 g87 g88 g89 g90 g91 g92 g93 g94 g95 g96 g97 g98 g99 g100 g101 g102 g103 : AV}, K (.exit 0) ⟨(g0 :: g1 :: .bool false :: v3 :: g4 :: g5 :: g6 :: v7 :: g8 :: g9 :: v10 :: g11 :: g12 :: g13 :: g14 :: g15 :: g16 :: g17 :: g18 :: g19 :: g20 :: g21 :: g22 :: g23 :: g24 :: g25 :: g26 :: g27 :: g28 :: g29 :: g30 :: g31 :: g32 :: g33 :: g34 :: g35 :: g36 :: g37 :: g38 :: g39 :: g40 :: g41 :: g42 :: g43 :: g44 :: g45 :: g46 :: g47 :: g48 :: g49 :: g50 :: g51 :: g52 :: g53 :: g54 :: g55 :: g56 :: g57 :: g58 :: g59 :: g60 :: g61 :: g62 :: g63 :: g64 :: g65 :: g66 :: g67 :: g68 :: g69 :: g70 :: g71 :: g72 :: g73 :: g74 :: g75 :: g76 :: g77 :: g78 :: g79 :: g80 :: g81 :: g82 :: g83 :: g84 :: g85 :: g86 :: g87 :: g88 :: g89 :: g90 :: g91 :: g92 :: g93 :: g94 :: g95 :: g96 :: g97 :: g98 :: g99 :: g100 :: g101 :: g102 :: g103 :: []), [], h⟩ = y) :
    ∀ (m : Nat) {g0 g1 g5 g6 g8 g9 g11 g12 g14 g15 g16 g17 g18 g19 g20 g21 g22 g23 g24 g25 g26 g27 g28 g29 g30 g31 g32 g33 g34 g35 g36 g37 g38 g39 g40 g41 g42 g43 g44 g45 g46 g47 g48 g49 g50 g51 g52 g53 g54 g55 g56 g57 g58 g59 g60 g61 g62 g63 g64 g65 g66 g67 g68 g69 g70 g71 g72 g73 g74 g75 g76 g77 g78 g79 g80 g81 g82 g83 g84 g85 g86 g87 g88 g89 g90 g91 g92 g93 g94 g95 g96 g97 g98 g99 g100 g101 g102 g103 : AV}, 0 < m → cIter (LB mu1 call rgn n 3 Try.f3 0) m ⟨(g0 :: g1 :: .bool false :: v3 :: .nilsl :: g5 :: g6 :: v7 :: g8 :: g9 :: v10 :: g11 :: g12 :: .int .i64 0 :: g14 :: g15 :: g16 :: g17 :: g18 :: g19 :: g20 :: g21 :: g22 :: g23 :: g24 :: g25 :: g26 :: g27 :: g28 :: g29 :: g30 :: g31 :: g32 :: g33 :: g34 :: g35 :: g36 :: g37 :: g38 :: g39 :: g40 :: g41 :: g42 :: g43 :: g44 :: g45 :: g46 :: g47 :: g48 :: g49 :: g50 :: g51 :: g52 :: g53 :: g54 :: g55 :: g56 :: g57 :: g58 :: g59 :: g60 :: g61 :: g62 :: g63 :: g64 :: g65 :: g66 :: g67 :: g68 :: g69 :: g70 :: g71 :: g72 :: g73 :: g74 :: g75 :: g76 :: g77 :: g78 :: g79 :: g80 :: g81 :: g82 :: g83 :: g84 :: g85 :: g86 :: g87 :: g88 :: g89 :: g90 :: g91 :: g92 :: g93 :: g94 :: g95 :: g96 :: g97 :: g98 :: g99 :: g100 :: g101 :: g102 :: g103 :: []), [], h⟩ K = y := by
  intro m
  intros
  obtain ⟨m, rfl⟩ : ∃ m', m = m' + 1 := ⟨m - 1, by omega⟩
  rw [cIter_succ]
  conv => lhs; whnf
  exact hK

theorem l3b (call rgn n) (r : Sk.Id) (cap : HCap) (len N : Nat) (hlen : len ≤ 3000000000) (hN : len ≤ N) (hs : AH) {v7 v10 : AV} {K : KC AOut} {y : Option AOut}
    (hK : ∀ {h} {g0 g1 g3 g4 g5 g6 g8 g9 g11 g12 g13 g14 g15 g16 g17 g18 g19 g20 g21 g22 g23 g24 g25 g26 g27 g28 g29 g30 g31 g32 g33 g34 g35 g36 g37 g38 g39 g40 g41 g42 g43 g44 g45 g46 g47 g48 g49 g50 g51 g52 g53 g54 g55 g56 g57 g58 g59 g60 g61 g62 g63 g64 g65 g66 g67 g68 g69 g70 g71 g72 g73 g74 g75 g76 g77 g78 g79 g80 g81 g82 g83 g84 g85 g86 g87 g88 g89 g90 g91 g92 g93 g94 g95 g96 g97 g98 g99 g100 g101 g102 g103 : AV}, (∀ q o, hs.get q = some o → q ≠ r → h.get q = some o) → K (.exit 2) ⟨(g0 :: g1 :: .bool false :: g3 :: g4 :: g5 :: g6 :: v7 :: g8 :: g9 :: v10 :: g11 :: g12 :: g13 :: g14 :: g15 :: g16 :: g17 :: g18 :: g19 :: g20 :: g21 :: g22 :: g23 :: g24 :: g25 :: g26 :: g27 :: g28 :: g29 :: g30 :: g31 :: g32 :: g33 :: g34 :: g35 :: g36 :: g37 :: g38 :: g39 :: g40 :: g41 :: g42 :: g43 :: g44 :: g45 :: g46 :: g47 :: g48 :: g49 :: g50 :: g51 :: g52 :: g53 :: g54 :: g55 :: g56 :: g57 :: g58 :: g59 :: g60 :: g61 :: g62 :: g63 :: g64 :: g65 :: g66 :: g67 :: g68 :: g69 :: g70 :: g71 :: g72 :: g73 :: g74 :: g75 :: g76 :: g77 :: g78 :: g79 :: g80 :: g81 :: g82 :: g83 :: g84 :: g85 :: g86 :: g87 :: g88 :: g89 :: g90 :: g91 :: g92 :: g93 :: g94 :: g95 :: g96 :: g97 :: g98 :: g99 :: g100 :: g101 :: g102 :: g103 :: []), [], h⟩ = y) :
    ∀ (m i : Nat) {x : Int} {h : AH} {cs : List AV} {g0 g1 g4 g5 g6 g8 g9 g11 g12 g13 g15 g16 g17 g18 g19 g20 g21 g22 g23 g24 g25 g26 g27 g28 g29 g30 g31 g32 g33 g34 g35 g36 g37 g38 g39 g40 g41 g42 g43 g44 g45 g46 g47 g48 g49 g50 g51 g52 g53 g54 g55 g56 g57 g58 g59 g60 g61 g62 g63 g64 g65 g66 g67 g68 g69 g70 g71 g72 g73 g74 g75 g76 g77 g78 g79 g80 g81 g82 g83 g84 g85 g86 g87 g88 g89 g90 g91 g92 g93 g94 g95 g96 g97 g98 g99 g100 g101 g102 g103 : AV}, x = i → i ≤ len → len - i < m → h.get r = some (.cells cs 5) → cs.length = N → (∀ q o, hs.get q = some o → q ≠ r → h.get q = some o) →
    cIter (LB mu1 call rgn n 3 Try.f3 1) m ⟨(g0 :: g1 :: .bool false :: .hsl r 0 len cap :: g4 :: g5 :: g6 :: v7 :: g8 :: g9 :: v10 :: g11 :: g12 :: g13 :: .int .i64 x :: g15 :: g16 :: g17 :: g18 :: g19 :: g20 :: g21 :: g22 :: g23 :: g24 :: g25 :: g26 :: g27 :: g28 :: g29 :: g30 :: g31 :: g32 :: g33 :: g34 :: g35 :: g36 :: g37 :: g38 :: g39 :: g40 :: g41 :: g42 :: g43 :: g44 :: g45 :: g46 :: g47 :: g48 :: g49 :: g50 :: g51 :: g52 :: g53 :: g54 :: g55 :: g56 :: g57 :: g58 :: g59 :: g60 :: g61 :: g62 :: g63 :: g64 :: g65 :: g66 :: g67 :: g68 :: g69 :: g70 :: g71 :: g72 :: g73 :: g74 :: g75 :: g76 :: g77 :: g78 :: g79 :: g80 :: g81 :: g82 :: g83 :: g84 :: g85 :: g86 :: g87 :: g88 :: g89 :: g90 :: g91 :: g92 :: g93 :: g94 :: g95 :: g96 :: g97 :: g98 :: g99 :: g100 :: g101 :: g102 :: g103 :: []), [], h⟩ K = y := by
  intro m
  induction m with
  | zero => intros; omega
  | succ m ih =>
    intro i x h cs g0 g1 g4 g5 g6 g8 g9 g11 g12 g13 g15 g16 g17 g18 g19 g20 g21 g22 g23 g24 g25 g26 g27 g28 g29 g30 g31 g32 g33 g34 g35 g36 g37 g38 g39 g40 g41 g42 g43 g44 g45 g46 g47 g48 g49 g50 g51 g52 g53 g54 g55 g56 g57 g58 g59 g60 g61 g62 g63 g64 g65 g66 g67 g68 g69 g70 g71 g72 g73 g74 g75 g76 g77 g78 g79 g80 g81 g82 g83 g84 g85 g86 g87 g88 g89 g90 g91 g92 g93 g94 g95 g96 g97 g98 g99 g100 g101 g102 g103 hx hi hm hg hcs hfr
    rw [cIter_succ]
    conv => lhs; whnf
    split
    · rename_i hd
      have hlt : i < len := by simp at hd; omega
      have h0 : decide (0 ≤ x) = true := by simp; omega
      have hoff : x.toNat = i := by rw [hx]; rfl
      have hst : hOf (aStore Try.prog 5 (.ptr r (0 + x.toNat * 1)) (.int .u8 7) h) = some (.ret undefA, h.set r (.cells (setCells cs (0 + x.toNat * 1) [.int .u8 7]) 5)) :=
        st_ptr (n := 1) hg (by kernel_rfl) rfl (by rw [hoff, hcs]; omega) rfl
      repeat' ((conv => lhs; whnf); first | rw [h0] | rw [hd])
      conv => lhs; whnf
      refine atCall_ret hst ?_
      conv => lhs; whnf
      refine ih (i + 1) ?_ (by omega) (by omega) (by rw [AH.get_set, if_pos rfl]) (by rw [setCells_length]; exact hcs) fun q o hq hne => ?_
      · rw [hx]; exact wrap_succ (by omega)
      · rw [AH.get_set, if_neg hne]; exact hfr q o hq hne
    · exact hK hfr

structure Calls3 (call : CallT) (s : List UInt8) (c : Cap) : Prop where
  h6 : h6 call
  h13 : h13 call
  c7 : ∃ h', call (.func 7) [.vsl (bytesV s) c] .empty = some (.ret (.hsl .h 0 s.length (.known (s.length + 64))), h') ∧ h'.get .h = some (.cells (wideV s) 5) ∧ Sk.Id.nat .h < h'.next.nat
  c8 : ∀ r cap h0, h0.get r = some (.cells (wideV s) 5) → ∃ out h', call (.func 8) [.hsl r 0 s.length cap] h0 = some (.ret out, h') ∧ CutOut h0 h' out s
  c9 : ∀ h, call (.func 9) [.vsl (bytesV s) c] h = some (.ret (cutW s), h)
  c10 : ∀ toks l h, ListIn h l toks → toks.length ≤ s.length → call (.func 10) [l, listV toks] h = some (.ret (.bool true), h)
  c11 : ∀ r cap h, h.get r = some (.cells (wideV s) 5) → call (.func 11) [.hsl r 0 s.length cap, .vsl (bytesV s) c] h = some (.ret (.bool true), h)
  c12 : ∀ r h, h.get r = some (.cells (wideV s) 5) → call (.func 12) [.hsl r 0 s.length (.known (s.length + 64))] h = some (.ret (.bool true), h)

theorem Made.listIn {h0 h : AH} {l : AV} {toks : List Tok} (hm : Made h0 h l toks) : ListIn h l toks := by
  rcases hm.is with h1 | ⟨r, h1, h2, h3⟩
  · exact .inl h1
  · exact .inr ⟨r, _, h1, h2, h3⟩

theorem ListIn.mono {h h' : AH} {l : AV} {toks : List Tok} (hl : ListIn h l toks) (hk : ∀ q o, h.get q = some o → objOf l = some q → h'.get q = some o) : ListIn h' l toks := by
  rcases hl with h1 | ⟨r, c, rfl, h2, h3⟩
  · exact .inl h1
  · exact .inr ⟨r, c, rfl, hk r _ h2 rfl, h3⟩

set_option maxHeartbeats 4000000 in
theorem b3 (call rgn n) (s : List UInt8) (c : Cap) (H : Calls3 call s c) (hn : s.length + 2 < n) : B mu1 call rgn n 3 Try.f3 [.vsl (bytesV s) c] = some (.ret (.bool true)) := by
  have hbl := bytesV_length s
  conv => lhs; whnf
  refine atCall_ret (H.h6 _ _) ?_
  conv => lhs; whnf
  split
  · conv => lhs; whnf
    exact retB rfl
  rename_i e1
  have hs : s.length ≤ 2147483647 := by rw [hbl] at e1; simp at e1; omega
  conv => lhs; whnf
  obtain ⟨h1, c7, g7, n7⟩ := H.c7
  refine atCall_ret c7 ?_
  conv => lhs; whnf
  obtain ⟨oa, h2, c8, k8⟩ := H.c8 .h (.known (s.length + 64)) h1 g7
  refine atCall_ret c8 ?_
  conv => lhs; whnf
  have hlen8 : ∀ toks, cutS s = .ok toks → toks.length ≤ s.length := fun toks hc => by
    unfold cutS at hc
    split at hc
    · cases hc
    · have hst := cutF_stand s _ s false 0 toks (Nat.lt_succ_self _) rfl (Nat.zero_le _) hc
      have := hst.length_le
      omega
  have h9' := H.c9
  unfold cutW at h9'
  rcases k8 with ⟨toks, la, hc, rfl, ma⟩ | ⟨e, p, hc, rfl, la, ta, ma⟩
  · have g8 : h2.get .h = some (.cells (wideV s) 5) := ma.kept _ _ g7 n7
    obtain ⟨ob, h3, c8b, k8b⟩ := H.c8 .h (.known (s.length + 64)) h2 g8
    rcases k8b with ⟨toks', lb, hc', rfl, mb⟩ | ⟨e, p, hc', rfl, lb, tb, mb⟩
    case inr => rw [hc] at hc'; cases hc'
    obtain rfl : toks = toks' := by rw [hc] at hc'; simpa using hc'
    have n8 : Sk.Id.nat .h < h2.next.nat := Nat.lt_of_lt_of_le n7 ma.next
    have g9 : h3.get .h = some (.cells (wideV s) 5) := mb.kept _ _ g8 n8
    have htl := hlen8 _ hc
    rw [hc] at h9'
    by_cases hne : toks = []
    · subst hne
      obtain rfl : la = .nilsl := by
        rcases ma.is with ⟨h, _⟩ | ⟨_, _, _, h⟩
        · exact h
        · exact absurd rfl h
      obtain rfl : lb = .nilsl := by
        rcases mb.is with ⟨h, _⟩ | ⟨_, _, _, h⟩
        · exact h
        · exact absurd rfl h
      have h9 : call (.func 9) [.vsl (bytesV s) c] h3 = some (.ret (.tup [.nilsl, .int .i64 0, .int .i64 0]), h3) := h9' h3
      have q1 : ((0 : Int) != 0) = false := by simp
      have q2 : ((1 : Int) != 1) = false := by simp
      conv => lhs; whnf
      refine atCall_ret c8b ?_
      conv => lhs; whnf
      refine atCall_ret h9 ?_
      repeat' (first
        | refine atCall_ret (H.c10 [] .nilsl _ (.inl ⟨rfl, rfl⟩) (Nat.zero_le _)) ?_
        | refine atCall_ret (H.c11 _ _ _ g9) ?_
        | refine atCall_ret (H.c12 _ _ g9) ?_
        | ((conv => lhs; whnf); first | rw [q1] | rw [q2]))
      conv => lhs; whnf
      refine l3az call rgn n ?_ n (by omega)
      intros
      conv => lhs; whnf
      refine l3b call rgn n .h _ s.length (s.length + 64) (by omega) (by omega) h3 ?_ n 0 rfl (Nat.zero_le _) (by omega) g9 (wideV_length s) (fun q o hq _ => hq)
      intro h4
      intros
      conv => lhs; whnf
      refine atCall_ret (H.c10 [] .nilsl _ (.inl ⟨rfl, rfl⟩) (Nat.zero_le _)) ?_
      conv => lhs; whnf
      refine atCall_ret (H.h13 _) ?_
      conv => lhs; whnf
      exact retB rfl
    · obtain ⟨ra, rfl, ga2, _⟩ : ∃ r, la = .hsl r 0 toks.length (.room 3) ∧ h2.get r = some (.cells (flat (toks.map tokAV)) 37) ∧ toks ≠ [] := by
        rcases ma.is with ⟨_, h⟩ | h
        · exact absurd h hne
        · exact h
      obtain ⟨rb, rfl, gb3, _⟩ : ∃ r, lb = .hsl r 0 toks.length (.room 3) ∧ h3.get r = some (.cells (flat (toks.map tokAV)) 37) ∧ toks ≠ [] := by
        rcases mb.is with ⟨_, h⟩ | h
        · exact absurd h hne
        · exact h
      obtain ⟨fa1, fa2⟩ := ma.fresh ra rfl
      obtain ⟨fb1, fb2⟩ := mb.fresh rb rfl
      have ga3 := mb.kept _ _ ga2 fa2
      have hab : ra ≠ rb := by rintro rfl; omega
      have hrah : ra ≠ .h := by rintro rfl; omega
      have hrbh : rb ≠ .h := by rintro rfl; omega
      have h9 : call (.func 9) [.vsl (bytesV s) c] h3 = some (.ret (.tup [.vsl (toks.map tokAV) .unk, .int .i64 0, .int .i64 0]), h3) := by
        rw [h9' h3]; simp only [listV_ne hne]
      have p10a := H.c10 toks (.hsl ra 0 toks.length (.room 3)) h3 (.inr ⟨ra, _, rfl, ga3, hne⟩) htl
      have p10b := H.c10 toks (.hsl rb 0 toks.length (.room 3)) h3 (.inr ⟨rb, _, rfl, gb3, hne⟩) htl
      rw [listV_ne hne] at p10a p10b
      have q1 : ((0 : Int) != 0) = false := by simp
      have q2 : ((1 : Int) != 1) = false := by simp
      conv => lhs; whnf
      refine atCall_ret c8b ?_
      conv => lhs; whnf
      refine atCall_ret h9 ?_
      repeat' (first
        | refine atCall_ret p10a ?_
        | refine atCall_ret p10b ?_
        | refine atCall_ret (H.c11 _ _ _ g9) ?_
        | refine atCall_ret (H.c12 _ _ g9) ?_
        | ((conv => lhs; whnf); first | rw [q1] | rw [q2]))
      conv => lhs; whnf
      refine l3a call rgn n ra _ toks.length (by omega) h3 ?_ n 0 rfl (Nat.zero_le _) (by omega) ga3 (flat_toks_length toks) (fun q o hq _ => hq)
      intro h4
      intros
      rename_i fr4
      conv => lhs; whnf
      have g94 := fr4 _ _ g9 (fun e => hrah e.symm)
      have gb4 := fr4 _ _ gb3 (fun e => hab e.symm)
      refine l3b call rgn n .h _ s.length (s.length + 64) (by omega) (by omega) h4 ?_ n 0 rfl (Nat.zero_le _) (by omega) g94 (wideV_length s) (fun q o hq _ => hq)
      intro h5
      intros
      rename_i fr5
      conv => lhs; whnf
      have gb5 := fr5 _ _ gb4 hrbh
      have p10c := H.c10 toks (.hsl rb 0 toks.length (.room 3)) h5 (.inr ⟨rb, _, rfl, gb5, hne⟩) htl
      rw [listV_ne hne] at p10c
      refine atCall_ret p10c ?_
      conv => lhs; whnf
      refine atCall_ret (H.h13 _) ?_
      conv => lhs; whnf
      exact retB rfl
  · have g8 : h2.get .h = some (.cells (wideV s) 5) := ma.kept _ _ g7 n7
    obtain ⟨ob, h3, c8b, k8b⟩ := H.c8 .h (.known (s.length + 64)) h2 g8
    rcases k8b with ⟨toks', lb, hc', rfl, mb⟩ | ⟨e', p', hc', rfl, lb, tb, mb⟩
    case inl => rw [hc] at hc'; cases hc'
    obtain ⟨rfl, rfl⟩ : e' = e ∧ p' = p := by rw [hc] at hc'; simp at hc'; exact ⟨hc'.1.symm, hc'.2.symm⟩
    have n8 : Sk.Id.nat .h < h2.next.nat := Nat.lt_of_lt_of_le n7 ma.next
    have g9 : h3.get .h = some (.cells (wideV s) 5) := mb.kept _ _ g8 n8
    rw [hc] at h9'
    have h9 : call (.func 9) [.vsl (bytesV s) c] h3 = some (.ret (.tup [.nilsl, .int .i64 e', .int .i64 p']), h3) := h9' h3
    have q1 : (e' != e') = false := by simp
    have q2 : ((p' : Int) != (p' : Int)) = false := by simp
    conv => lhs; whnf
    refine atCall_ret c8b ?_
    conv => lhs; whnf
    refine atCall_ret h9 ?_
    repeat' (first
      | refine atCall_ret (H.c10 [] .nilsl _ (.inl ⟨rfl, rfl⟩) (Nat.zero_le _)) ?_
      | refine atCall_ret (H.c11 _ _ _ g9) ?_
      | refine atCall_ret (H.c12 _ _ g9) ?_
      | ((conv => lhs; whnf); first | rw [q1] | rw [q2]))
    conv => lhs; whnf
    refine l3az call rgn n ?_ n (by omega)
    intros
    conv => lhs; whnf
    refine l3b call rgn n .h _ s.length (s.length + 64) (by omega) (by omega) h3 ?_ n 0 rfl (Nat.zero_le _) (by omega) g9 (wideV_length s) (fun q o hq _ => hq)
    intro h4
    intros
    conv => lhs; whnf
    refine atCall_ret (H.c10 [] .nilsl _ (.inl ⟨rfl, rfl⟩) (Nat.zero_le _)) ?_
    conv => lhs; whnf
    refine atCall_ret (H.h13 _) ?_
    conv => lhs; whnf
    exact retB rfl
end Go.Proofs.Tx

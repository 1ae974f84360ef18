/-
  The law TextAgain answers true.
-/
import Derived.Test.YtcbjhieaonociaaTxD
namespace Go.Proofs.Tx
open Go.Sk
set_option linter.unusedVariables false
set_option linter.unusedSimpArgs false
set_option maxRecDepth 10000

theorem cutF_err : ∀ (m : Nat) (u : List UInt8) (rem : Bool) (pos : Nat) (e : Int) (p : Nat), u.length < m → cutF u rem 0 pos = .err e p → e ≠ 0 := by
  intro m
  induction m with
  | zero => intros; omega
  | succ m ih =>
    intro u rem pos e p hm h
    cases u with
    | nil => cases rem <;> simp [cutF] at h
    | cons c r =>
      have hm' : r.length < m := by simpa using hm
      cases rem with
      | true => exact ih r _ (pos + 1) e p hm' h
      | false =>
        simp only [cutF] at h
        split at h
        · exact ih r _ (pos + 1) e p hm' h
        · split at h
          · exact ih r _ (pos + 1) e p hm' h
          · split at h
            · simp at h; omega
            · split at h
              · simp at h; omega
              · have hle := firstT_le (c :: r)
                rw [cutF_skip (by simp at hle; omega)] at h
                cases hc : cutF (List.drop ((firstT (c :: r)).2 - 1) r) false 0 (pos + 1 + ((firstT (c :: r)).2 - 1)) with
                | ok l => rw [hc] at h; simp [CutR.pre] at h
                | err e' p' =>
                  rw [hc] at h
                  simp only [CutR.pre, CutR.err.injEq] at h
                  obtain ⟨rfl, rfl⟩ := h
                  exact ih _ _ _ _ _ (by simp at hm ⊢; omega) hc

theorem cutS_err {s : List UInt8} {e : Int} {p : Nat} (h : cutS s = .err e p) : e ≠ 0 := by
  unfold cutS at h
  split at h
  · simp at h; omega
  · exact cutF_err _ _ _ _ _ _ (Nat.lt_succ_self _) h

theorem bytesOf_byteL (s : List UInt8) : bytesOf (byteL s) = some s := by
  cases s with
  | nil => rfl
  | cons c r => exact bytesOf_vsl (c :: r) .unk
theorem free_byteL (s : List UInt8) : freeV (byteL s) = true := by
  cases s with
  | nil => rfl
  | cons c r => exact free_bytes (c :: r)

theorem l5a0 (call rgn n) {v0 : AV} {K : KC AOut} {y : Option AOut}
    (hK : ∀ {h} {g1 g5 g9 g10 g11 g12 g13 g14 g15 g16 g17 g18 g19 g20 g21 g22 g23 g24 g25 g26 g27 g28 g29 g30 g31 g32 g33 g34 g35 g36 g37 g38 g39 g40 g41 g42 g43 g44 g45 g46 g47 g48 g49 g50 g51 g52 g53 g54 g55 g56 g57 g58 g59 g60 g61 g62 g63 g64 g65 g66 g67 g68 g69 g70 g71 g72 g73 g74 g75 g76 g77 g78 g79 g80 g81 g82 g83 g84 g85 g86 g87 g88 g89 g90 g91 g92 g93 g94 g95 g96 g97 g98 g99 g100 g101 g102 g103 g104 g105 g106 g107 g108 g109 g110 g111 g112 g113 g114 g115 g116 g117 g118 g119 g120 g121 g122 g123 g124 g125 g126 g127 g128 g129 g130 g131 g132 g133 g134 g135 g136 g137 g138 g139 g140 g141 g142 g143 g144 g145 g146 g147 g148 g149 g150 g151 g152 g153 g154 g155 g156 g157 g158 g159 g160 g161 g162 g163 g164 g165 g166 g167 g168 g169 g170 g171 g172 g173 g174 g175 : AV}, K (.exit 0) ⟨(v0 :: g1 :: .bool false :: .nilsl :: .int .i64 0 :: g5 :: .int .i64 0 :: .nilsl :: .int .i64 0 :: g9 :: g10 :: g11 :: g12 :: g13 :: g14 :: g15 :: g16 :: g17 :: g18 :: g19 :: g20 :: g21 :: g22 :: g23 :: g24 :: g25 :: g26 :: g27 :: g28 :: g29 :: g30 :: g31 :: g32 :: g33 :: g34 :: g35 :: g36 :: g37 :: g38 :: g39 :: g40 :: g41 :: g42 :: g43 :: g44 :: g45 :: g46 :: g47 :: g48 :: g49 :: g50 :: g51 :: g52 :: g53 :: g54 :: g55 :: g56 :: g57 :: g58 :: g59 :: g60 :: g61 :: g62 :: g63 :: g64 :: g65 :: g66 :: g67 :: g68 :: g69 :: g70 :: g71 :: g72 :: g73 :: g74 :: g75 :: g76 :: g77 :: g78 :: g79 :: g80 :: g81 :: g82 :: g83 :: g84 :: g85 :: g86 :: g87 :: g88 :: g89 :: g90 :: g91 :: g92 :: g93 :: g94 :: g95 :: g96 :: g97 :: g98 :: g99 :: g100 :: g101 :: g102 :: g103 :: g104 :: g105 :: g106 :: g107 :: g108 :: g109 :: g110 :: g111 :: g112 :: g113 :: g114 :: g115 :: g116 :: g117 :: g118 :: g119 :: g120 :: g121 :: g122 :: g123 :: g124 :: g125 :: g126 :: g127 :: g128 :: g129 :: g130 :: g131 :: g132 :: g133 :: g134 :: g135 :: g136 :: g137 :: g138 :: g139 :: g140 :: g141 :: g142 :: g143 :: g144 :: g145 :: g146 :: g147 :: g148 :: g149 :: g150 :: g151 :: g152 :: g153 :: g154 :: g155 :: g156 :: g157 :: g158 :: g159 :: g160 :: g161 :: g162 :: g163 :: g164 :: g165 :: g166 :: g167 :: g168 :: g169 :: g170 :: g171 :: g172 :: g173 :: g174 :: g175 :: []), [], h⟩ = y) :
    ∀ (m : Nat) {h : AH} {g1 g5 g9 g10 g11 g12 g13 g14 g15 g16 g17 g18 g19 g20 g21 g22 g23 g24 g25 g26 g27 g28 g29 g30 g31 g32 g33 g34 g35 g36 g37 g38 g39 g40 g41 g42 g43 g44 g45 g46 g47 g48 g49 g50 g51 g52 g53 g54 g55 g56 g57 g58 g59 g60 g61 g62 g63 g64 g65 g66 g67 g68 g69 g70 g71 g72 g73 g74 g75 g76 g77 g78 g79 g80 g81 g82 g83 g84 g85 g86 g87 g88 g89 g90 g91 g92 g93 g94 g95 g96 g97 g98 g99 g100 g101 g102 g103 g104 g105 g106 g107 g108 g109 g110 g111 g112 g113 g114 g115 g116 g117 g118 g119 g120 g121 g122 g123 g124 g125 g126 g127 g128 g129 g130 g131 g132 g133 g134 g135 g136 g137 g138 g139 g140 g141 g142 g143 g144 g145 g146 g147 g148 g149 g150 g151 g152 g153 g154 g155 g156 g157 g158 g159 g160 g161 g162 g163 g164 g165 g166 g167 g168 g169 g170 g171 g172 g173 g174 g175 : AV}, 0 < m →
    cIter (LB5 call rgn n 0) m ⟨(v0 :: g1 :: .bool false :: .nilsl :: .int .i64 0 :: g5 :: .int .i64 0 :: .nilsl :: .int .i64 0 :: g9 :: g10 :: g11 :: g12 :: g13 :: g14 :: g15 :: g16 :: g17 :: g18 :: g19 :: g20 :: g21 :: g22 :: g23 :: g24 :: g25 :: g26 :: g27 :: g28 :: g29 :: g30 :: g31 :: g32 :: g33 :: g34 :: g35 :: g36 :: g37 :: g38 :: g39 :: g40 :: g41 :: g42 :: g43 :: g44 :: g45 :: g46 :: g47 :: g48 :: g49 :: g50 :: g51 :: g52 :: g53 :: g54 :: g55 :: g56 :: g57 :: g58 :: g59 :: g60 :: g61 :: g62 :: g63 :: g64 :: g65 :: g66 :: g67 :: g68 :: g69 :: g70 :: g71 :: g72 :: g73 :: g74 :: g75 :: g76 :: g77 :: g78 :: g79 :: g80 :: g81 :: g82 :: g83 :: g84 :: g85 :: g86 :: g87 :: g88 :: g89 :: g90 :: g91 :: g92 :: g93 :: g94 :: g95 :: g96 :: g97 :: g98 :: g99 :: g100 :: g101 :: g102 :: g103 :: g104 :: g105 :: g106 :: g107 :: g108 :: g109 :: g110 :: g111 :: g112 :: g113 :: g114 :: g115 :: g116 :: g117 :: g118 :: g119 :: g120 :: g121 :: g122 :: g123 :: g124 :: g125 :: g126 :: g127 :: g128 :: g129 :: g130 :: g131 :: g132 :: g133 :: g134 :: g135 :: g136 :: g137 :: g138 :: g139 :: g140 :: g141 :: g142 :: g143 :: g144 :: g145 :: g146 :: g147 :: g148 :: g149 :: g150 :: g151 :: g152 :: g153 :: g154 :: g155 :: g156 :: g157 :: g158 :: g159 :: g160 :: g161 :: g162 :: g163 :: g164 :: g165 :: g166 :: g167 :: g168 :: g169 :: g170 :: g171 :: g172 :: g173 :: g174 :: g175 :: []), [], h⟩ K = y := by
  intro m
  intros
  obtain ⟨m, rfl⟩ : ∃ m', m = m' + 1 := ⟨m - 1, by omega⟩
  rw [cIter_succ]
  conv => lhs; whnf
  exact hK

theorem l5b0 (call rgn n) {v0 : AV} {K : KC AOut} {y : Option AOut}
    (hK : ∀ {h} {g1 g4 g5 g6 g7 g8 g9 g10 g11 g12 g13 g14 g15 g16 g17 g18 g19 g20 g21 g22 g23 g24 g25 g26 g27 g28 g29 g30 g31 g32 g33 g34 g35 g36 g37 g38 g39 g40 g41 g42 g43 g44 g45 g46 g47 g48 g49 g50 g51 g52 g53 g54 g55 g56 g57 g58 g59 g60 g61 g62 g63 g64 g65 g66 g67 g68 g69 g70 g71 g72 g73 g74 g75 g76 g77 g78 g79 g80 g81 g82 g83 g84 g85 g86 g87 g88 g89 g90 g91 g92 g93 g94 g95 g96 g97 g98 g99 g100 g101 g102 g103 g104 g105 g106 g107 g108 g109 g110 g111 g112 g113 g114 g115 g116 g117 g118 g119 g120 g121 g122 g123 g124 g125 g126 g127 g128 g129 g130 g131 g132 g133 g134 g135 g136 g137 g138 g139 g140 g141 g142 g143 g144 g145 g146 g147 g148 g149 g150 g151 g152 g153 g154 g155 g156 g157 g158 g159 g160 g161 g162 g163 g164 g165 g166 g167 g168 g169 g170 g171 g172 g173 g174 g175 : AV}, K (.exit 2) ⟨(v0 :: g1 :: .bool false :: .nilsl :: g4 :: g5 :: g6 :: g7 :: g8 :: g9 :: g10 :: g11 :: g12 :: g13 :: g14 :: g15 :: g16 :: g17 :: g18 :: g19 :: g20 :: g21 :: g22 :: g23 :: g24 :: g25 :: g26 :: g27 :: g28 :: g29 :: g30 :: g31 :: g32 :: g33 :: g34 :: g35 :: g36 :: g37 :: g38 :: g39 :: g40 :: g41 :: g42 :: g43 :: g44 :: g45 :: g46 :: g47 :: g48 :: g49 :: g50 :: g51 :: g52 :: g53 :: g54 :: g55 :: g56 :: g57 :: g58 :: g59 :: g60 :: g61 :: g62 :: g63 :: g64 :: g65 :: g66 :: g67 :: g68 :: g69 :: g70 :: g71 :: g72 :: g73 :: g74 :: g75 :: g76 :: g77 :: g78 :: g79 :: g80 :: g81 :: g82 :: g83 :: g84 :: g85 :: g86 :: g87 :: g88 :: g89 :: g90 :: g91 :: g92 :: g93 :: g94 :: g95 :: g96 :: g97 :: g98 :: g99 :: g100 :: g101 :: g102 :: g103 :: g104 :: g105 :: g106 :: g107 :: g108 :: g109 :: g110 :: g111 :: g112 :: g113 :: g114 :: g115 :: g116 :: g117 :: g118 :: g119 :: g120 :: g121 :: g122 :: g123 :: g124 :: g125 :: g126 :: g127 :: g128 :: g129 :: g130 :: g131 :: g132 :: g133 :: g134 :: g135 :: g136 :: g137 :: g138 :: g139 :: g140 :: g141 :: g142 :: g143 :: g144 :: g145 :: g146 :: g147 :: g148 :: g149 :: g150 :: g151 :: g152 :: g153 :: g154 :: g155 :: g156 :: g157 :: g158 :: g159 :: g160 :: g161 :: g162 :: g163 :: g164 :: g165 :: g166 :: g167 :: g168 :: g169 :: g170 :: g171 :: g172 :: g173 :: g174 :: g175 :: []), [], h⟩ = y) :
    ∀ (m : Nat) {h : AH} {g1 g4 g5 g6 g7 g8 g9 g10 g11 g12 g14 g15 g16 g17 g18 g19 g20 g21 g22 g23 g24 g25 g26 g27 g28 g29 g30 g31 g32 g33 g34 g35 g36 g37 g38 g39 g40 g41 g42 g43 g44 g45 g46 g47 g48 g49 g50 g51 g52 g53 g54 g55 g56 g57 g58 g59 g60 g61 g62 g63 g64 g65 g66 g67 g68 g69 g70 g71 g72 g73 g74 g75 g76 g77 g78 g79 g80 g81 g82 g83 g84 g85 g86 g87 g88 g89 g90 g91 g92 g93 g94 g95 g96 g97 g98 g99 g100 g101 g102 g103 g104 g105 g106 g107 g108 g109 g110 g111 g112 g113 g114 g115 g116 g117 g118 g119 g120 g121 g122 g123 g124 g125 g126 g127 g128 g129 g130 g131 g132 g133 g134 g135 g136 g137 g138 g139 g140 g141 g142 g143 g144 g145 g146 g147 g148 g149 g150 g151 g152 g153 g154 g155 g156 g157 g158 g159 g160 g161 g162 g163 g164 g165 g166 g167 g168 g169 g170 g171 g172 g173 g174 g175 : AV}, 0 < m →
    cIter (LB5 call rgn n 1) m ⟨(v0 :: g1 :: .bool false :: .nilsl :: g4 :: g5 :: g6 :: g7 :: g8 :: g9 :: g10 :: g11 :: g12 :: .int .i64 0 :: g14 :: g15 :: g16 :: g17 :: g18 :: g19 :: g20 :: g21 :: g22 :: g23 :: g24 :: g25 :: g26 :: g27 :: g28 :: g29 :: g30 :: g31 :: g32 :: g33 :: g34 :: g35 :: g36 :: g37 :: g38 :: g39 :: g40 :: g41 :: g42 :: g43 :: g44 :: g45 :: g46 :: g47 :: g48 :: g49 :: g50 :: g51 :: g52 :: g53 :: g54 :: g55 :: g56 :: g57 :: g58 :: g59 :: g60 :: g61 :: g62 :: g63 :: g64 :: g65 :: g66 :: g67 :: g68 :: g69 :: g70 :: g71 :: g72 :: g73 :: g74 :: g75 :: g76 :: g77 :: g78 :: g79 :: g80 :: g81 :: g82 :: g83 :: g84 :: g85 :: g86 :: g87 :: g88 :: g89 :: g90 :: g91 :: g92 :: g93 :: g94 :: g95 :: g96 :: g97 :: g98 :: g99 :: g100 :: g101 :: g102 :: g103 :: g104 :: g105 :: g106 :: g107 :: g108 :: g109 :: g110 :: g111 :: g112 :: g113 :: g114 :: g115 :: g116 :: g117 :: g118 :: g119 :: g120 :: g121 :: g122 :: g123 :: g124 :: g125 :: g126 :: g127 :: g128 :: g129 :: g130 :: g131 :: g132 :: g133 :: g134 :: g135 :: g136 :: g137 :: g138 :: g139 :: g140 :: g141 :: g142 :: g143 :: g144 :: g145 :: g146 :: g147 :: g148 :: g149 :: g150 :: g151 :: g152 :: g153 :: g154 :: g155 :: g156 :: g157 :: g158 :: g159 :: g160 :: g161 :: g162 :: g163 :: g164 :: g165 :: g166 :: g167 :: g168 :: g169 :: g170 :: g171 :: g172 :: g173 :: g174 :: g175 :: []), [], h⟩ K = y := by
  intro m
  intros
  obtain ⟨m, rfl⟩ : ∃ m', m = m' + 1 := ⟨m - 1, by omega⟩
  rw [cIter_succ]
  conv => lhs; whnf
  exact hK

set_option maxHeartbeats 4000000 in
theorem b5 (call rgn n) (s : List UInt8) (c : Cap) (h8 : h8 call) (h18 : h18 call) (h13 : h13 call) (h14 : h14 call) (h16 : h16 call) (hn : s.length + 2 < n) : B5 call rgn n [.vsl (bytesV s) c] = some (.ret (.bool true)) := by
  have hbl : (bytesV s).length = s.length := by simp [bytesV]
  conv => lhs; whnf
  split
  · conv => lhs; whnf
    refine atCall_ret (h13 _) ?_
    conv => lhs; whnf
    exact retB rfl
  rename_i e1
  have hs : s.length ≤ 32768 := by simp at e1; omega
  conv => lhs; whnf
  refine atCall_ret (h18 _ s _ (bytesOf_vsl s c) (free_bytes s) (by omega)) ?_
  conv => lhs; whnf
  have h8s := h8 _ s AH.empty (bytesOf_byteL s) (free_byteL s)
  unfold cutW at h8s
  cases hc : cutS s with
  | err e p =>
    rw [hc] at h8s
    have he : (e != 0) = true := by have := cutS_err hc; simpa using this
    refine atCall_ret h8s ?_
    conv => lhs; whnf
    rw [he]
    conv => lhs; whnf
    refine atCall_ret (h13 _) ?_
    conv => lhs; whnf
    exact retB rfl
  | ok toks =>
    rw [hc] at h8s
    have hc' : cutF s false 0 0 = .ok toks := by unfold cutS at hc; rw [if_neg (by omega)] at hc; exact hc
    have hst := cutF_stand s _ s false 0 toks (Nat.lt_succ_self _) rfl (Nat.zero_le _) hc'
    by_cases hne : toks = []
    · subst hne
      replace h8s : call (.func 8) [byteL s] AH.empty = some (.ret (.tup [.nilsl, .int .i64 0, .int .i64 0]), AH.empty) := h8s
      refine atCall_ret h8s ?_
      conv => lhs; whnf
      refine l5a0 call rgn n ?_ n (by omega)
      intros
      conv => lhs; whnf
      have hnil : ∀ h, call (.func 8) [.nilsl] h = some (.ret (.tup [.nilsl, .int .i64 0, .int .i64 0]), h) := fun h => by
        rw [h8 .nilsl [] h rfl rfl]; unfold cutW cutS; rw [if_neg (by simp)]; simp [cutF, listV]
      refine atCall_ret (hnil _) ?_
      conv => lhs; whnf
      refine l5b0 call rgn n ?_ n (by omega)
      intros
      conv => lhs; whnf
      refine atCall_ret (h13 _) ?_
      conv => lhs; whnf
      exact retB rfl
    · replace h8s : call (.func 8) [byteL s] AH.empty = some (.ret (.tup [.vsl (toks.map tokAV) .unk, .int .i64 0, .int .i64 0]), AH.empty) := by
        rw [h8s]; simp only [listV_ne hne]
      refine atCall_ret h8s ?_
      conv => lhs; whnf
      have hl1 := hst.length_le
      refine l5a call rgn n s c toks hs hst h14 h16 ?_ n 0 _ rfl rfl (Nat.zero_le _) (by omega) (.inl ⟨rfl, rfl⟩)
      intro b h
      intros
      rename_i hg
      have hj : joined toks ≠ [] := by cases toks with | nil => exact absurd rfl hne | cons t r => simp [joined]
      obtain ⟨g, rfl⟩ : ∃ g, b = .vsl (bytesV (joined toks)) (.own g (bytesV (joined toks)).length) := by
        rcases hg with ⟨_, h2⟩ | ⟨g, h1, _⟩
        · exact absurd (List.map_eq_nil_iff.1 h2) hj
        · exact ⟨g, h1⟩
      have hbl2 : (bytesV (joined toks)).length = (joined toks).length := by simp [bytesV]
      conv => lhs; whnf
      split
      · conv => lhs; whnf
        refine atCall_ret (h13 _) ?_
        conv => lhs; whnf
        exact retB rfl
      rename_i e2
      have hs2 : (joined toks).length ≤ 65536 := by rw [hbl2] at e2; simp at e2; omega
      conv => lhs; whnf
      obtain ⟨tok2, hc2, htx⟩ := cutF_joined hst 0
      have htl : tok2.length = toks.length := by
        have := congrArg List.length htx
        simpa [texts] using this
      have hne2 : tok2 ≠ [] := by
        rintro rfl
        exact hne (List.eq_nil_of_length_eq_zero htl.symm)
      have h8j := h8 (.vsl (bytesV (joined toks)) (.own g (bytesV (joined toks)).length)) (joined toks) h (bytesOf_vsl _ _) (free_bytes _)
      rw [show cutW (joined toks) = .tup [.vsl (tok2.map tokAV) .unk, .int .i64 0, .int .i64 0] by
        unfold cutW cutS; rw [if_neg (by omega), hc2]; simp only [listV_ne hne2]] at h8j
      refine atCall_ret h8j ?_
      conv => lhs; whnf
      have f1 : ((((tok2.map tokAV).length : Nat) : Int) != (((toks.map tokAV).length : Nat) : Int)) = false := by simp [htl]
      rw [f1]
      conv => lhs; whnf
      refine l5b (b := .nilsl) call rgn n s c toks tok2 htx (by omega) ?_ n 0 rfl (Nat.zero_le _) (by omega)
      intros
      conv => lhs; whnf
      refine atCall_ret (h13 _) ?_
      conv => lhs; whnf
      exact retB rfl

set_option maxHeartbeats 4000000 in
theorem b5n (call rgn n) (h8 : h8 call) (h18 : h18 call) (h13 : h13 call) (hn : 0 < n) : B5 call rgn n [.nilsl] = some (.ret (.bool true)) := by
  conv => lhs; whnf
  refine atCall_ret (h18 _ [] _ rfl rfl (by simp)) ?_
  conv => lhs; whnf
  have hnil : ∀ h, call (.func 8) [.nilsl] h = some (.ret (.tup [.nilsl, .int .i64 0, .int .i64 0]), h) := fun h => by
    rw [h8 .nilsl [] h rfl rfl]; unfold cutW cutS; rw [if_neg (by simp)]; simp [cutF, listV]
  refine atCall_ret (hnil _) ?_
  conv => lhs; whnf
  refine l5a0 call rgn n ?_ n (by omega)
  intros
  conv => lhs; whnf
  refine atCall_ret (hnil _) ?_
  conv => lhs; whnf
  refine l5b0 call rgn n ?_ n (by omega)
  intros
  conv => lhs; whnf
  refine atCall_ret (h13 _) ?_
  conv => lhs; whnf
  exact retB rfl

theorem hk8_8 {n : Nat} (hn : 0 < n) : h8 (evCall (mkEv Try.prog mu0 hk8) n) := fun x s h hb hf => ev_hk (by
  have hw : bytesOf (weakV x) = some s := by
    rcases bytesOf_inv hb with ⟨rfl, rfl⟩ | ⟨c, rfl⟩
    · rfl
    · show bytesOf (.vsl (weakL (bytesV s)) .unk) = _
      rw [weak_bytes]; exact bytesOf_vsl s .unk
  rw [show hk8 = addHk hk18 8 s8 from rfl, addHk_same hk18 8 s8 (show freeL [x] = true by simp [freeL, hf])]
  show (match (bytesOf (weakV x)).map cutW with | some v => some (v, h) | none => none) = _
  rw [hw]; rfl) hn

theorem hk8_18 {n : Nat} (hn : 0 < n) : h18 (evCall (mkEv Try.prog mu0 hk8) n) := fun x s h hb hf hl => ev_hk (by
  have hw : bytesOf (weakV x) = some s := by
    rcases bytesOf_inv hb with ⟨rfl, rfl⟩ | ⟨c, rfl⟩
    · rfl
    · show bytesOf (.vsl (weakL (bytesV s)) .unk) = _
      rw [weak_bytes]; exact bytesOf_vsl s .unk
  rw [show hk8 = addHk hk18 8 s8 from rfl, addHk_other hk18 (f := 8) s8 [x] h (by decide), show hk18 = addHk hk17 18 s18 from rfl, addHk_same hk17 18 s18 (show freeL [x] = true by simp [freeL, hf])]
  show (match (bytesOf (weakV x)).bind (fun s => if s.length ≤ 1000000 then some (byteL s) else none) with | some v => some (v, h) | none => none) = _
  rw [hw]; simp only [Option.bind_some, if_pos hl]) hn

theorem again (x : AV) (hx : x = .nilsl ∨ ∃ s c, x = .vsl (bytesV s) c) : ∃ n h', evCall (mkEv Try.prog mu0 hk8) n (.func 5) [x] .empty = some (.ret (.bool true), h') := by
  rcases hx with rfl | ⟨s, c, rfl⟩
  · exact ev_of_cBody tab5 (n := 1) rfl Try.func5 rfl (by kernel_rfl) (b5n _ _ _ (hk8_8 (by omega)) (hk8_18 (by omega)) (fun h => ev_hk rfl (by omega)) (by omega))
  · exact ev_of_cBody tab5 (n := s.length + 3) rfl Try.func5 rfl (by kernel_rfl) (b5 _ _ _ s c (hk8_8 (by omega)) (hk8_18 (by omega)) (fun h => ev_hk rfl (by omega)) (fun s h => ev_hk rfl (by omega)) (fun s h => ev_hk rfl (by omega)) (by omega))
end Go.Proofs.Tx

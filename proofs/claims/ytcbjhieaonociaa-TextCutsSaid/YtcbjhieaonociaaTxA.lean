/-
  Text functions, run.
-/
import Derived.Test.YtcbjhieaonociaaSkX2
import Derived.Test.YtcbjhieaonociaaSkX3
import Derived.Test.YtcbjhieaonociaaSkX5
import Derived.Test.YtcbjhieaonociaaProg
import Derived.KernelRfl
import Derived.Laws.RangeAny
import Derived.Laws.RangeString
namespace Go.Proofs.Tx
open Go.Sk
set_option linter.unusedVariables false
set_option linter.unusedSimpArgs false
set_option maxRecDepth 10000

/-- Which slices are written in place: those that this function makes. -/
def mu0 : FuncId → Nat → Bool := fun f _ => Nat.beq f 13
abbrev RgnT := Nat → Array Oper → ASt → Option (AExit × ASt)
abbrev CallT := AFn → List AV → AH → Option (AOut × AH)
noncomputable abbrev B (mu : FuncId → Nat → Bool) (call : CallT) (rgn : RgnT) (n : Nat) (f : FuncId) (fn : Func) (args : List AV) := cBody Try.prog mu call rgn noTab n f fn (codeOf fn) args .empty
noncomputable abbrev LB (mu : FuncId → Nat → Bool) (call : CallT) (rgn : RgnT) (n : Nat) (f : FuncId) (fn : Func) (i : Nat) : CF AOut := cCode ⟨Try.prog, mu, call⟩ rgn f noTab none n (loopAt (codeOf fn) i)

variable {mu : FuncId → Nat → Bool}

def smallI (c : Int) : Bool := decide (c ≥ 97) && decide (c ≤ 122)
def greatI (c : Int) : Bool := decide (c ≥ 65) && decide (c ≤ 90)
def insideI (c : Int) : Bool := smallI c || greatI c || (decide (c ≥ 48) && decide (c ≤ 57)) || (c == 95)
def inB (b : UInt8) : Bool := insideI b.toNat

theorem insideI_lt {c : Int} (h : insideI c = true) : c < 128 := by
  simp [insideI, smallI, greatI] at h; omega

theorem decodeA_lt {s : List UInt8} {pos : Nat} (h : pos < s.length) (hb : s[pos].toNat < 128) : decodeA s pos = (s[pos].toNat, 1) := decode_ascii ⟨⟨s⟩⟩ pos h hb

theorem decodeA_in {s : List UInt8} {pos : Nat} (h : pos < s.length) : insideI (decodeA s pos).1 = inB s[pos] ∧ (inB s[pos] = true → (decodeA s pos).2 = 1) := by
  by_cases hb : s[pos].toNat < 128
  · rw [decodeA_lt h hb]; exact ⟨rfl, fun _ => rfl⟩
  · have h1 : inB s[pos] = false := by
      cases e : inB s[pos] with
      | false => rfl
      | true => exact absurd (insideI_lt e) (by omega)
    have hd : 128 ≤ (decodeA s pos).1 := (decode_high ⟨⟨s⟩⟩ pos h (by show 128 ≤ s[pos].toNat; omega)).1
    have h2 : insideI (decodeA s pos).1 = false := by
      cases e : insideI (decodeA s pos).1 with
      | false => rfl
      | true => have := insideI_lt e; omega
    exact ⟨by rw [h1, h2], fun h => by rw [h1] at h; cases h⟩

def lenT (s : List UInt8) : Nat := (s.takeWhile inB).length

theorem lenT_stop {s : List UInt8} {pos : Nat} (hp : pos ≤ s.length) (h1 : ∀ i (hi : i < s.length), i < pos → inB s[i] = true) (h2 : ∀ hi : pos < s.length, inB s[pos] = false) : lenT s = pos := by
  induction s generalizing pos with
  | nil => simp at hp; subst hp; rfl
  | cons a l ih =>
    cases pos with
    | zero => have := h2 (by simp); simp at this; simp [lenT, List.takeWhile, this]
    | succ p =>
      have ha := h1 0 (by simp) (by omega)
      simp at ha
      have := ih (pos := p) (by simpa using hp) (fun i hi hip => by have := h1 (i+1) (by simpa using hi) (by omega); simpa using this) (fun hi => by have := h2 (by simpa using hi); simpa using this)
      simp only [lenT, List.takeWhile, ha, List.length_cons] at this ⊢; omega

def h30 (call : CallT) : Prop := ∀ c h, call (.func 30) [.int .i32 c] h = some (.ret (.bool (insideI c)), h)

theorem l28 (call rgn n) (s : List UInt8) (h30 : h30 call) {K : KC AOut} {y : Option AOut}
    (hK : ∀ g4 g5 g10 g11 g12 g13 g14 g15 g16 g17 h, K (.exit 0) ⟨[.str s, undefA, .int .i64 0, .int .i64 (lenT s), g4, g5, .str s, .int .i64 s.length, .str s, .ptr .h 0, g10, g11, g12, g13, g14, g15, g16, g17, undefA], [], h⟩ = y) :
    ∀ (m pos : Nat) (g4 g5 g10 g11 g12 g13 g14 g15 g16 g17 : AV), pos ≤ s.length → s.length - pos < m → (∀ i (hi : i < s.length), i < pos → inB s[i] = true) →
    cIter (LB mu call rgn n 28 Try.f28 0) m ⟨[.str s, undefA, .int .i64 0, .int .i64 s.length, g4, g5, .str s, .int .i64 s.length, .str s, .ptr .h 0, g10, g11, g12, g13, g14, g15, g16, g17, undefA], [], AH.empty.alloc (.siter s pos)⟩ K = y := by
  intro m
  induction m with
  | zero => intros; omega
  | succ m ih =>
    intro pos g4 g5 g10 g11 g12 g13 g14 g15 g16 g17 hp hm hi
    rw [cIter_succ]
    conv => lhs; whnf
    split
    · rename_i hd
      have hlt : pos < s.length := by simpa using hd
      obtain ⟨d1, d2⟩ := decodeA_in hlt
      refine atCall_ret (h30 _ _) ?_
      conv => lhs; whnf
      split
      · rename_i hb
        rw [d1] at hb
        have := lenT_stop hp hi (fun _ => by simpa using hb)
        rw [this] at hK
        exact hK ..
      · rename_i hb
        rw [d1] at hb
        have hb : inB s[pos] = true := by simpa using hb
        have d2 := d2 hb
        exact ih (pos + (decodeA s pos).2) _ _ _ _ _ _ _ _ _ _ (by omega) (by omega) fun i hl hip => by
          by_cases e : i = pos
          · subst e; exact hb
          · exact hi i hl (by omega)
    · rename_i hd
      have hlt : ¬ pos < s.length := by simpa using hd
      have := lenT_stop hp hi (fun h => absurd h hlt)
      have hpe : pos = s.length := by omega
      rw [this, hpe] at hK
      subst hpe
      exact hK ..

theorem b28 {call rgn n} (s : List UInt8) (h30 : h30 call) (hn : s.length < n) : B mu call rgn n 28 Try.f28 [.str s] = some (.ret (.int .i64 (lenT s))) := by
  conv => lhs; whnf
  refine l28 (mu := mu) call rgn n s h30 ?_ n 0 _ _ _ _ _ _ _ _ _ _ (Nat.zero_le _) (by omega) (fun i _ h => absurd h (by omega))
  intros
  exact retA rfl

theorem b27 (call rgn n) (c : Int) : B mu call rgn n 27 Try.f27 [.int .i32 c] = some (.ret (.bool (smallI c))) := by
  repeat' ((conv => lhs; whnf); split)
  all_goals (refine retB ?_; simp [smallI, *])
theorem b29 (call rgn n) (c : Int) : B mu call rgn n 29 Try.f29 [.int .i32 c] = some (.ret (.bool (greatI c))) := by
  repeat' ((conv => lhs; whnf); split)
  all_goals (refine retB ?_; simp [greatI, *])
theorem b30 (call rgn n) (c : Int) (h27 : ∀ c h, call (.func 27) [.int .i32 c] h = some (.ret (.bool (smallI c)), h)) (h29 : ∀ c h, call (.func 29) [.int .i32 c] h = some (.ret (.bool (greatI c)), h)) :
    B mu call rgn n 30 Try.f30 [.int .i32 c] = some (.ret (.bool (insideI c))) := by
  repeat' (first
    | refine atCall_ret (h27 _ _) ?_
    | refine atCall_ret (h29 _ _) ?_
    | ((conv => lhs; whnf); split))
  all_goals (refine retB ?_; simp [insideI, *]; try omega)

def h28 (call : CallT) : Prop := ∀ s h, call (.func 28) [.str s] h = some (.ret (.int .i64 (lenT s)), h)
def h27 (call : CallT) : Prop := ∀ c h, call (.func 27) [.int .i32 c] h = some (.ret (.bool (smallI c)), h)
def h29 (call : CallT) : Prop := ∀ c h, call (.func 29) [.int .i32 c] h = some (.ret (.bool (greatI c)), h)

/-- The token with which a text begins. -/
def firstT (s : List UInt8) : Int × Nat :=
  match s with
  | [] => (0, 0)
  | c :: r =>
    if (c.toNat : Int) = 62 ∨ (c.toNat : Int) = 61 then (if s.take 2 = [62, 60] ∨ s.take 2 = [61, 62] then (3, 2) else (3, 1))
    else if (c.toNat : Int) = 40 ∨ (c.toNat : Int) = 41 ∨ (c.toNat : Int) = 44 ∨ (c.toNat : Int) = 59 ∨ (c.toNat : Int) = 60 then (3, 1)
    else if smallI c.toNat then (1, lenT s) else if greatI c.toNat then (2, lenT s) else (0, 0)

theorem wrap_u8 (c : UInt8) : IntKind.i32.wrap (c.toNat : Int) = c.toNat := by
  have := c.toNat_lt
  simp [IntKind.wrap, IntKind.bits, IntKind.signed]
  omega
theorem retT2 {ka kb : IntKind} {a a' b b' : Int} (h : a = a') (h' : b = b') : some (AOut.ret (.tup [.int ka a, .int kb b])) = some (AOut.ret (.tup [.int ka a', .int kb b'])) := by rw [h, h']
theorem takeTwo (s : List UInt8) : List.drop 0 (List.take (Int.toNat 2) s) = s.take 2 := rfl
theorem b19 (call rgn n) (s : List UInt8) (hs : 0 < s.length) (h27 : h27 call) (h28 : h28 call) (h29 : h29 call) : B mu call rgn n 19 Try.f19 [.str s] = some (.ret (.tup [.int .i8 (firstT s).1, .int .i64 (firstT s).2])) := by
  obtain ⟨c, r, rfl⟩ : ∃ c r, s = c :: r := by cases s with | nil => simp at hs | cons c r => exact ⟨c, r, rfl⟩
  repeat' (first
    | refine atCall_ret (h27 _ _) ?_
    | refine atCall_ret (h28 _ _) ?_
    | refine atCall_ret (h29 _ _) ?_
    | ((conv => lhs; whnf); split))
  all_goals (first
    | (refine retT2 ?_ ?_ <;> simp only [wrap_u8] at * <;> simp_all [firstT])
    | (exfalso; simp_all <;> omega))
  all_goals (cases r with
    | nil => simp
    | cons d r => split <;> rename_i hh <;> first | rfl | (rcases hh with ⟨ha, hb⟩ | ⟨ha, hb⟩ <;> simp_all <;> omega) | (simp_all <;> omega))

def h19 (call : CallT) : Prop := ∀ s h, 0 < s.length → call (.func 19) [.str s] h = some (.ret (.tup [.int .i8 (firstT s).1, .int .i64 (firstT s).2]), h)

def oneT (s : List UInt8) (kind : Int) : Bool := !(s.isEmpty || decide (16 < s.length)) && (firstT s).1 == kind && ((firstT s).2 == s.length)

theorem b25 (call rgn n) (s : List UInt8) (kind : Int) (h19 : h19 call) : B mu call rgn n 25 Try.f25 [.str s, .int .i8 kind] = some (.ret (.bool (oneT s kind))) := by
  repeat' (first
    | refine atCall_ret (h19 _ _ ?_) ?_
    | ((conv => lhs; whnf); split))
  all_goals first
    | refine retB ?_
    | skip
  all_goals simp_all [oneT]
  all_goals first
    | (intro _; omega)
    | exact List.length_pos_iff.2 ‹_›
    | (rw [Bool.eq_iff_iff]; simp_all; omega)

def smallIR (c : Int) : Bool := smallI c

theorem b22 (call rgn n) (c : Int) : B mu call rgn n 22 Try.f22 [.int .u8 c] = some (.ret (.bool (smallI c))) := by
  repeat' ((conv => lhs; whnf); split)
  all_goals (refine retB ?_; simp [smallI, *])
theorem b23 (call rgn n) (c : Int) : B mu call rgn n 23 Try.f23 [.int .u8 c] = some (.ret (.bool (greatI c))) := by
  repeat' ((conv => lhs; whnf); split)
  all_goals (refine retB ?_; simp [greatI, *])
def h22 (call : CallT) : Prop := ∀ c h, call (.func 22) [.int .u8 c] h = some (.ret (.bool (smallI c)), h)
def h23 (call : CallT) : Prop := ∀ c h, call (.func 23) [.int .u8 c] h = some (.ret (.bool (greatI c)), h)
def h24 (call : CallT) : Prop := ∀ c h, call (.func 24) [.int .u8 c] h = some (.ret (.bool (insideI c)), h)
theorem b24 (call rgn n) (c : Int) (h22 : h22 call) (h23 : h23 call) :
    B mu call rgn n 24 Try.f24 [.int .u8 c] = some (.ret (.bool (insideI c))) := by
  repeat' (first
    | refine atCall_ret (h22 _ _) ?_
    | refine atCall_ret (h23 _ _) ?_
    | ((conv => lhs; whnf); split))
  all_goals (refine retB ?_; simp [insideI, *]; try omega)

/-- Just one token of a kind, by the document. -/
def isR (s : List UInt8) (kind : Int) : Bool :=
  match s with
  | [] => false
  | c :: _ => !(decide (s.length > 16) || (!smallI c.toNat && kind == 1) || (!greatI c.toNat && kind == 2)) && s.all inB

theorem wrap_succ {i : Nat} (h : i < 9223372036854775807) : IntKind.i64.wrap ((i : Int) + 1) = ((i + 1 : Nat) : Int) := by
  simp [IntKind.wrap, IntKind.bits, IntKind.signed]
  omega

theorem getElem?_nat {α : Type} {l : List α} {i : Nat} {x : Int} (hx : x = i) : l[x.toNat]? = l[i]? := by rw [hx]; rfl

theorem l26 (call rgn n) (s : List UInt8) (kind : Int) (h24 : h24 call) (hlen : s.length ≤ 16) {K : KC AOut} {y : Option AOut}
    (hK : s.all inB = true → ∀ {g2 g3 g5 g6 g7 g8 g9 g10 g11 g12 g13 g14 g15 g16 g17 g18 g19 g20 g21 g22 g23 g24 g25 g26 g27 g28 g29 g30 g31 g32 g33 g34 g35 g36 g37 g38 g39 g40 g41 g42 g43 g44 : AV}, K (.exit 0) ⟨[.str s, .int .i8 kind, g2, g3, .bool false, g5, g6, g7, g8, g9, g10, g11, g12, g13, g14, g15, g16, g17, g18, g19, g20, g21, g22, g23, g24, g25, g26, g27, g28, g29, g30, g31, g32, g33, g34, g35, g36, g37, g38, g39, g40, g41, g42, g43, g44], [], .empty⟩ = y)
    (hR : s.all inB = false → ∀ {g2 g3 g5 g6 g7 g8 g9 g10 g11 g12 g13 g14 g15 g16 g17 g18 g19 g20 g21 g22 g23 g24 g25 g26 g27 g28 g29 g30 g31 g32 g33 g34 g35 g36 g37 g38 g39 g40 g41 g42 g43 g44 : AV}, K .ret ⟨[.str s, .int .i8 kind, g2, g3, .bool false, g5, g6, g7, g8, g9, g10, g11, g12, g13, g14, g15, g16, g17, g18, g19, g20, g21, g22, g23, g24, g25, g26, g27, g28, g29, g30, g31, g32, g33, g34, g35, g36, g37, g38, g39, g40, g41, g42, g43, g44], [], .empty⟩ = y) :
    ∀ (m i : Nat) {x : Int} {g2 g3 g6 g7 g8 g9 g10 g11 g12 g13 g14 g15 g16 g17 g18 g19 g20 g21 g22 g23 g24 g25 g26 g27 g28 g29 g30 g31 g32 g33 g34 g35 g36 g37 g38 g39 g40 g41 g42 g43 g44 : AV}, x = i → i ≤ s.length → s.length - i < m → (∀ j (hj : j < s.length), j < i → inB s[j] = true) →
    cIter (LB mu call rgn n 26 Try.f26 0) m ⟨[.str s, .int .i8 kind, g2, g3, .bool false, .int .i64 x, g6, g7, g8, g9, g10, g11, g12, g13, g14, g15, g16, g17, g18, g19, g20, g21, g22, g23, g24, g25, g26, g27, g28, g29, g30, g31, g32, g33, g34, g35, g36, g37, g38, g39, g40, g41, g42, g43, g44], [], .empty⟩ K = y := by
  intro m
  induction m with
  | zero => intros; omega
  | succ m ih =>
    intro i x g2 g3 g6 g7 g8 g9 g10 g11 g12 g13 g14 g15 g16 g17 g18 g19 g20 g21 g22 g23 g24 g25 g26 g27 g28 g29 g30 g31 g32 g33 g34 g35 g36 g37 g38 g39 g40 g41 g42 g43 g44 hx hi hm ha
    rw [cIter_succ]
    conv => lhs; whnf
    split
    · rename_i hd
      have hlt : i < s.length := by simp at hd; omega
      conv => lhs; whnf
      have h0 : decide (0 ≤ x) = true := by simp; omega
      rw [h0]
      conv => lhs; whnf
      rw [getElem?_nat hx, List.getElem?_eq_getElem hlt]
      refine atCall_ret (h24 _ _) ?_
      conv => lhs; whnf
      split
      · rename_i hb
        refine hR ?_
        cases e : s.all inB with
        | false => rfl
        | true => rw [List.all_eq_true] at e; have := e _ (List.getElem_mem hlt); simp [inB] at this; simp [this] at hb
      · rename_i hb
        refine ih (i + 1) ?_ (by omega) (by omega) fun j hj hji => ?_
        · rw [hx]; exact wrap_succ (by omega)
        · by_cases e : j = i
          · subst e; simpa [inB] using hb
          · exact ha j hj (by omega)
    · rename_i hd
      have hlt : ¬ i < s.length := by simp at hd; omega
      refine hK ?_
      rw [List.all_eq_true]
      intro b hb
      obtain ⟨j, hj, rfl⟩ := List.getElem_of_mem hb
      exact ha j hj (by omega)

theorem b26 (call rgn n) (s : List UInt8) (kind : Int) (hn : s.length < n) (h22 : h22 call) (h23 : h23 call) (h24 : h24 call) : B mu call rgn n 26 Try.f26 [.str s, .int .i8 kind] = some (.ret (.bool (isR s kind))) := by
  cases s with
  | nil =>
    conv => lhs; whnf
    refine retB rfl
  | cons c r =>
  repeat' (first
    | refine atCall_ret (h22 _ _) ?_
    | refine atCall_ret (h23 _ _) ?_
    | ((conv => lhs; whnf); split))
  all_goals first
    | (refine retB ?_; simp_all [isR]; done)
    | skip
  all_goals (first
    | (refine l26 (mu := mu) call rgn n (c :: r) kind h24 (by simp_all; omega) ?_ ?_ n 0 rfl (Nat.zero_le _) (by omega) (fun j _ h => absurd h (by omega)) <;> intro he <;> intros <;> refine retB ?_ <;> simp only [isR, he] <;> simp_all)
    | skip)
  all_goals first | omega | (refine retB ?_; simp_all [isR]; intros; omega)

def h6 (call : CallT) : Prop := ∀ x h, call (.func 6) [.int .i64 x] h = some (.ret (.bool (decide (x > 2147483647))), h)
theorem b6 (call rgn n) (x : Int) : B mu call rgn n 6 Try.f6 [.int .i64 x] = some (.ret (.bool (decide (x > 2147483647)))) := by
  conv => lhs; whnf
  exact retB rfl
def h25 (call : CallT) : Prop := ∀ s k h, call (.func 25) [.str s, .int .i8 k] h = some (.ret (.bool (oneT s k)), h)
def h26 (call : CallT) : Prop := ∀ s k h, call (.func 26) [.str s, .int .i8 k] h = some (.ret (.bool (isR s k)), h)
theorem b14 (call rgn n) (s : List UInt8) (h25 : h25 call) : B mu call rgn n 14 Try.f14 [.str s] = some (.ret (.bool (oneT s 1))) := by
  refine atCall_ret (h25 _ _ _) ?_
  exact retB rfl
theorem b16 (call rgn n) (s : List UInt8) (h25 : h25 call) : B mu call rgn n 16 Try.f16 [.str s] = some (.ret (.bool (oneT s 2))) := by
  refine atCall_ret (h25 _ _ _) ?_
  exact retB rfl
theorem b15 (call rgn n) (s : List UInt8) (h26 : h26 call) : B mu call rgn n 15 Try.f15 [.str s] = some (.ret (.bool (isR s 1))) := by
  refine atCall_ret (h26 _ _ _) ?_
  exact retB rfl
theorem b17 (call rgn n) (s : List UInt8) (h26 : h26 call) : B mu call rgn n 17 Try.f17 [.str s] = some (.ret (.bool (isR s 2))) := by
  refine atCall_ret (h26 _ _ _) ?_
  exact retB rfl
def h14 (call : CallT) : Prop := ∀ s h, call (.func 14) [.str s] h = some (.ret (.bool (oneT s 1)), h)
def h16 (call : CallT) : Prop := ∀ s h, call (.func 16) [.str s] h = some (.ret (.bool (oneT s 2)), h)
def h15 (call : CallT) : Prop := ∀ s h, call (.func 15) [.str s] h = some (.ret (.bool (isR s 1)), h)
def h17 (call : CallT) : Prop := ∀ s h, call (.func 17) [.str s] h = some (.ret (.bool (isR s 2)), h)
def h13 (call : CallT) : Prop := ∀ h, call (.func 13) [] h = some (.ret (.bool true), h)

theorem all_take (s : List UInt8) : lenT s = s.length ↔ s.all inB = true := by
  induction s with
  | nil => simp [lenT]
  | cons a l ih =>
    cases h : inB a with
    | true => simp only [lenT, List.takeWhile, h, List.length_cons, List.all_cons, Bool.true_and] at ih ⊢; rw [← ih]; omega
    | false => simp [lenT, List.takeWhile, h]

theorem one_is (s : List UInt8) : oneT s 1 = isR s 1 ∧ oneT s 2 = isR s 2 := by
  cases s with
  | nil => exact ⟨rfl, rfl⟩
  | cons c r =>
    have ht := all_take (c :: r)
    have hsm : smallI (c.toNat : Int) = true → ¬ ((c.toNat : Int) = 62 ∨ (c.toNat : Int) = 61) ∧ ¬ ((c.toNat : Int) = 40 ∨ (c.toNat : Int) = 41 ∨ (c.toNat : Int) = 44 ∨ (c.toNat : Int) = 59 ∨ (c.toNat : Int) = 60) := by
      simp [smallI]; omega
    have hgr : greatI (c.toNat : Int) = true → ¬ ((c.toNat : Int) = 62 ∨ (c.toNat : Int) = 61) ∧ ¬ ((c.toNat : Int) = 40 ∨ (c.toNat : Int) = 41 ∨ (c.toNat : Int) = 44 ∨ (c.toNat : Int) = 59 ∨ (c.toNat : Int) = 60) ∧ smallI (c.toNat : Int) = false := by
      simp [greatI, smallI]; omega
    have hf : firstT (c :: r) = (1, lenT (c :: r)) ∨ smallI (c.toNat : Int) = false := by
      cases h : smallI (c.toNat : Int) with
      | false => exact .inr rfl
      | true => obtain ⟨h1, h2⟩ := hsm h; left; simp only [firstT, if_neg h1, if_neg h2, h, if_true]
    have hne : ∀ k : Int, k = 1 ∨ k = 2 → (firstT (c :: r)).1 = k → (k = 1 → smallI (c.toNat : Int) = true) ∧ (k = 2 → greatI (c.toNat : Int) = true) := by
      intro k hk h
      simp only [firstT] at h
      split at h
      · split at h <;> simp at h <;> omega
      · split at h
        · simp at h; omega
        · split at h
          · rename_i hs; simp at h; exact ⟨fun _ => hs, fun h2 => by omega⟩
          · split at h
            · rename_i hg; simp at h; exact ⟨fun h1 => by omega, fun _ => hg⟩
            · simp at h; omega
    have key : ∀ k : Int, k = 1 ∨ k = 2 → oneT (c :: r) k = isR (c :: r) k := by
      intro k hk
      rw [Bool.eq_iff_iff]
      simp only [oneT, isR, Bool.and_eq_true, Bool.not_eq_true', Bool.or_eq_false_iff, Bool.and_eq_false_iff, beq_iff_eq, List.isEmpty_cons, decide_eq_false_iff_not, ← ht]
      constructor
      · rintro ⟨⟨⟨_, h16⟩, h1⟩, h2⟩
        obtain ⟨ha, hb⟩ := hne k hk h1
        have h3 : lenT (c :: r) = (c :: r).length := by
          rcases hk with rfl | rfl
          · have := ha rfl; rcases hf with hf | hf
            · rw [hf] at h2; exact h2
            · rw [hf] at this; cases this
          · have := hb rfl; obtain ⟨g1, g2, g3⟩ := hgr this
            simp only [firstT, if_neg g1, if_neg g2, g3, this, if_true, Bool.false_eq_true, if_false] at h2; exact h2
        refine ⟨⟨⟨h16, ?_⟩, ?_⟩, h3⟩
        · rcases hk with rfl | rfl
          · left; rw [ha rfl]; rfl
          · right; rfl
        · rcases hk with rfl | rfl
          · right; rfl
          · left; rw [hb rfl]; rfl
      · rintro ⟨⟨⟨h16, h1⟩, h2⟩, h3⟩
        rcases hk with rfl | rfl
        · have hs : smallI (c.toNat : Int) = true := by
            rcases h1 with h1 | h1
            · cases h : smallI (c.toNat : Int) with
              | true => rfl
              | false => rw [h] at h1; cases h1
            · cases h1
          rcases hf with hf | hf
          · rw [hf]; exact ⟨⟨⟨trivial, h16⟩, rfl⟩, h3⟩
          · rw [hs] at hf; cases hf
        · have hg : greatI (c.toNat : Int) = true := by
            rcases h2 with h2 | h2
            · cases h : greatI (c.toNat : Int) with
              | true => rfl
              | false => rw [h] at h2; cases h2
            · cases h2
          obtain ⟨g1, g2, g3⟩ := hgr hg
          simp only [firstT, if_neg g1, if_neg g2, g3, hg, if_true, Bool.false_eq_true, if_false]
          exact ⟨⟨⟨trivial, h16⟩, trivial⟩, h3⟩
    exact ⟨key 1 (.inl rfl), key 2 (.inr rfl)⟩

theorem b4 (call rgn n) (s : List UInt8) (h6 : h6 call) (h14 : h14 call) (h15 : h15 call) (h16 : h16 call) (h17 : h17 call) (h13 : h13 call) : B mu call rgn n 4 Try.f4 [.str s] = some (.ret (.bool true)) := by
  have ho := one_is s
  repeat' (first
    | refine atCall_ret (h6 _ _) ?_
    | refine atCall_ret (h14 _ _) ?_
    | refine atCall_ret (h15 _ _) ?_
    | refine atCall_ret (h16 _ _) ?_
    | refine atCall_ret (h17 _ _) ?_
    | refine atCall_ret (h13 _) ?_
    | ((conv => lhs; whnf); split))
  all_goals refine retB ?_
  all_goals simp_all

/-! ### The chain of contracts -/

noncomputable abbrev EV (hk : Hooks) (n : Nat) : CallT := evCall (mkEv Try.prog mu0 hk) n

def s13 : List AV → Option AV := tabHk [([], .bool true)]
def hk13 : Hooks := addHk noHooks 13 s13
theorem E0 : EvOK (mkEv Try.prog mu0 noHooks) := mkEv_ok (by kernel_rfl) (by kernel_rfl)
set_option maxRecDepth 100000 in
theorem E13z : EvOK (mkEv Try.prog mu0 hk13) := mkEv_tab (n := 60) E0 (by kernel_rfl)

def s27 : List AV → Option AV | [.int .i32 c] => some (.bool (smallI c)) | _ => none
def s29 : List AV → Option AV | [.int .i32 c] => some (.bool (greatI c)) | _ => none
def s30 : List AV → Option AV | [.int .i32 c] => some (.bool (insideI c)) | _ => none
def s28 : List AV → Option AV | [.str s] => some (.int .i64 (lenT s)) | _ => none
def s19 : List AV → Option AV | [.str s] => if 0 < s.length then some (.tup [.int .i8 (firstT s).1, .int .i64 (firstT s).2]) else none | _ => none
def s25 : List AV → Option AV | [.str s, .int .i8 k] => some (.bool (oneT s k)) | _ => none
def s22 : List AV → Option AV | [.int .u8 c] => some (.bool (smallI c)) | _ => none
def s23 : List AV → Option AV | [.int .u8 c] => some (.bool (greatI c)) | _ => none
def s24 : List AV → Option AV | [.int .u8 c] => some (.bool (insideI c)) | _ => none
def s26 : List AV → Option AV | [.str s, .int .i8 k] => some (.bool (isR s k)) | _ => none
def s6 : List AV → Option AV | [.int .i64 x] => some (.bool (decide (x > 2147483647))) | _ => none
def s14 : List AV → Option AV | [.str s] => some (.bool (oneT s 1)) | _ => none
def s16 : List AV → Option AV | [.str s] => some (.bool (oneT s 2)) | _ => none
def s15 : List AV → Option AV | [.str s] => some (.bool (isR s 1)) | _ => none
def s17 : List AV → Option AV | [.str s] => some (.bool (isR s 2)) | _ => none

def hk27 := addHk hk13 27 s27
def hk29 := addHk hk27 29 s29
def hk30 := addHk hk29 30 s30
def hk28 := addHk hk30 28 s28
def hk19 := addHk hk28 19 s19
def hk25 := addHk hk19 25 s25
def hk22 := addHk hk25 22 s22
def hk23 := addHk hk22 23 s23
def hk24 := addHk hk23 24 s24
def hk26 := addHk hk24 26 s26
def hk6 := addHk hk26 6 s6
def hk14 := addHk hk6 14 s14
def hk16 := addHk hk14 16 s16
def hk15 := addHk hk16 15 s15
def hk17 := addHk hk15 17 s17

theorem E27 (E13 : EvOK (mkEv Try.prog mu hk13)) : EvOK (mkEv Try.prog mu hk27) := mkEv_add E13 fun args v hs => by
  unfold s27 at hs; split at hs <;> cases hs
  exact ⟨rfl, ev_of_cBody noTab (n := 1) rfl Try.func27 rfl (by kernel_rfl) (b27 ..)⟩
theorem E29 (E13 : EvOK (mkEv Try.prog mu hk13)) : EvOK (mkEv Try.prog mu hk29) := mkEv_add (E27 E13) fun args v hs => by
  unfold s29 at hs; split at hs <;> cases hs
  exact ⟨rfl, ev_of_cBody noTab (n := 1) rfl Try.func29 rfl (by kernel_rfl) (b29 ..)⟩
theorem E30 (E13 : EvOK (mkEv Try.prog mu hk13)) : EvOK (mkEv Try.prog mu hk30) := mkEv_add (E29 E13) fun args v hs => by
  unfold s30 at hs; split at hs <;> cases hs
  exact ⟨rfl, ev_of_cBody noTab (n := 1) rfl Try.func30 rfl (by kernel_rfl) (b30 _ _ _ _ (fun c h => ev_hk rfl (by omega)) (fun c h => ev_hk rfl (by omega)))⟩
theorem E28 (E13 : EvOK (mkEv Try.prog mu hk13)) : EvOK (mkEv Try.prog mu hk28) := mkEv_add (E30 E13) fun args v hs => by
  unfold s28 at hs; split at hs <;> cases hs
  rename_i s
  exact ⟨rfl, ev_of_cBody noTab (n := s.length + 1) rfl Try.func28 rfl (by kernel_rfl) (b28 s (fun c h => ev_hk rfl (by omega)) (by omega))⟩
theorem E19 (E13 : EvOK (mkEv Try.prog mu hk13)) : EvOK (mkEv Try.prog mu hk19) := mkEv_add (E28 E13) fun args v hs => by
  unfold s19 at hs; split at hs
  · split at hs <;> cases hs
    rename_i hl
    exact ⟨rfl, ev_of_cBody noTab (n := 1) rfl Try.func19 rfl (by kernel_rfl) (b19 _ _ _ _ hl (fun c h => ev_hk rfl (by omega)) (fun c h => ev_hk rfl (by omega)) (fun c h => ev_hk rfl (by omega)))⟩
  · cases hs
theorem E25 (E13 : EvOK (mkEv Try.prog mu hk13)) : EvOK (mkEv Try.prog mu hk25) := mkEv_add (E19 E13) fun args v hs => by
  unfold s25 at hs; split at hs <;> cases hs
  exact ⟨rfl, ev_of_cBody noTab (n := 1) rfl Try.func25 rfl (by kernel_rfl) (b25 _ _ _ _ _ (fun s h hl => ev_hk (by show (match s19 [.str s] with | some v => some (v, h) | none => none) = _; rw [show s19 [.str s] = some _ from if_pos hl]) (by omega)))⟩
theorem E22 (E13 : EvOK (mkEv Try.prog mu hk13)) : EvOK (mkEv Try.prog mu hk22) := mkEv_add (E25 E13) fun args v hs => by
  unfold s22 at hs; split at hs <;> cases hs
  exact ⟨rfl, ev_of_cBody noTab (n := 1) rfl Try.func22 rfl (by kernel_rfl) (b22 ..)⟩
theorem E23 (E13 : EvOK (mkEv Try.prog mu hk13)) : EvOK (mkEv Try.prog mu hk23) := mkEv_add (E22 E13) fun args v hs => by
  unfold s23 at hs; split at hs <;> cases hs
  exact ⟨rfl, ev_of_cBody noTab (n := 1) rfl Try.func23 rfl (by kernel_rfl) (b23 ..)⟩
theorem E24 (E13 : EvOK (mkEv Try.prog mu hk13)) : EvOK (mkEv Try.prog mu hk24) := mkEv_add (E23 E13) fun args v hs => by
  unfold s24 at hs; split at hs <;> cases hs
  exact ⟨rfl, ev_of_cBody noTab (n := 1) rfl Try.func24 rfl (by kernel_rfl) (b24 _ _ _ _ (fun c h => ev_hk rfl (by omega)) (fun c h => ev_hk rfl (by omega)))⟩
theorem E26 (E13 : EvOK (mkEv Try.prog mu hk13)) : EvOK (mkEv Try.prog mu hk26) := mkEv_add (E24 E13) fun args v hs => by
  unfold s26 at hs; split at hs <;> cases hs
  rename_i s k
  exact ⟨rfl, ev_of_cBody noTab (n := s.length + 1) rfl Try.func26 rfl (by kernel_rfl) (b26 _ _ _ s k (by omega) (fun c h => ev_hk rfl (by omega)) (fun c h => ev_hk rfl (by omega)) (fun c h => ev_hk rfl (by omega)))⟩
theorem E6 (E13 : EvOK (mkEv Try.prog mu hk13)) : EvOK (mkEv Try.prog mu hk6) := mkEv_add (E26 E13) fun args v hs => by
  unfold s6 at hs; split at hs <;> cases hs
  exact ⟨rfl, ev_of_cBody noTab (n := 1) rfl Try.func6 rfl (by kernel_rfl) (b6 ..)⟩
theorem E14 (E13 : EvOK (mkEv Try.prog mu hk13)) : EvOK (mkEv Try.prog mu hk14) := mkEv_add (E6 E13) fun args v hs => by
  unfold s14 at hs; split at hs <;> cases hs
  exact ⟨rfl, ev_of_cBody noTab (n := 1) rfl Try.func14 rfl (by kernel_rfl) (b14 _ _ _ _ (fun c k h => ev_hk rfl (by omega)))⟩
theorem E16 (E13 : EvOK (mkEv Try.prog mu hk13)) : EvOK (mkEv Try.prog mu hk16) := mkEv_add (E14 E13) fun args v hs => by
  unfold s16 at hs; split at hs <;> cases hs
  exact ⟨rfl, ev_of_cBody noTab (n := 1) rfl Try.func16 rfl (by kernel_rfl) (b16 _ _ _ _ (fun c k h => ev_hk rfl (by omega)))⟩
theorem E15 (E13 : EvOK (mkEv Try.prog mu hk13)) : EvOK (mkEv Try.prog mu hk15) := mkEv_add (E16 E13) fun args v hs => by
  unfold s15 at hs; split at hs <;> cases hs
  exact ⟨rfl, ev_of_cBody noTab (n := 1) rfl Try.func15 rfl (by kernel_rfl) (b15 _ _ _ _ (fun c k h => ev_hk rfl (by omega)))⟩
theorem E17 (E13 : EvOK (mkEv Try.prog mu hk13)) : EvOK (mkEv Try.prog mu hk17) := mkEv_add (E15 E13) fun args v hs => by
  unfold s17 at hs; split at hs <;> cases hs
  exact ⟨rfl, ev_of_cBody noTab (n := 1) rfl Try.func17 rfl (by kernel_rfl) (b17 _ _ _ _ (fun c k h => ev_hk rfl (by omega)))⟩

theorem names (s : List UInt8) : ∃ n h', evCall (mkEv Try.prog mu0 hk17) n (.func 4) [.str s] .empty = some (.ret (.bool true), h') :=
  ev_of_cBody noTab (n := 1) rfl Try.func4 rfl (by kernel_rfl) (b4 _ _ _ _ (fun c h => ev_hk rfl (by omega)) (fun c h => ev_hk rfl (by omega)) (fun c h => ev_hk rfl (by omega)) (fun c h => ev_hk rfl (by omega)) (fun c h => ev_hk rfl (by omega)) (fun h => ev_hk rfl (by omega)))
end Go.Proofs.Tx

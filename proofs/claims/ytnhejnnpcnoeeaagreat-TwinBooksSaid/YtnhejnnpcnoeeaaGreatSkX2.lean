/-
  The evaluator with what comes behind told to it: what it waits for stands outermost, slots are kept evaluated.
-/
import Derived.Test.YtnhejnnpcnoeeaaGreatSkX4
namespace Go.Sk
section
variable {α : Type}
def forceV (v : AV) (k : AV → Option α) : Option α :=
  match v with
  | .bool b => k (.bool b)
  | .int t n => k (.int t n)
  | .str l => k (.str l)
  | .nilptr => k .nilptr
  | .ptr r o => k (.ptr r o)
  | .ref v => k (.ref v)
  | .nilsl => k .nilsl
  | .vsl xs c => k (.vsl xs c)
  | .hsl r o l c => k (.hsl r o l c)
  | .nilmap => k .nilmap
  | .map r => k (.map r)
  | .fn f a b => k (.fn f a b)
  | .nilfn => k .nilfn
  | .iface t v => k (.iface t v)
  | .niliface => k .niliface
  | .agg cs => k (.agg cs)
  | .tup vs => k (.tup vs)
theorem forceV_eq (v : AV) (k : AV → Option α) : forceV v k = k v := by cases v <;> rfl
def setF : List AV → Nat → AV → (List AV → Option α) → Option α
  | [], _, _, k => k []
  | _ :: l, 0, v, k => k (v :: l)
  | a :: l, i + 1, v, k => setF l i v fun l' => k (a :: l')
theorem setF_eq : ∀ (l : List AV) (i : Nat) (v : AV) (k : List AV → Option α), setF l i v k = k (l.set i v)
  | [], _, _, _ => rfl
  | _ :: _, 0, _, _ => rfl
  | a :: l, i + 1, v, k => by rw [setF, setF_eq l i v]; rfl
def getF : List AV → Nat → (AV → Option α) → Option α
  | [], _, k => k undefA
  | a :: _, 0, k => k a
  | _ :: l, i + 1, k => getF l i k
theorem getF_eq : ∀ (l : List AV) (i : Nat) (k : AV → Option α), getF l i k = k (l.getD i undefA)
  | [], _, _ => rfl
  | _ :: _, 0, _ => rfl
  | a :: l, i + 1, k => by rw [getF, getF_eq l i]; rfl
def putF (tm : List AV) (d : Option Tmp) (v : AV) (k : List AV → Option α) : Option α :=
  match d with
  | some d => setF tm d v k
  | none => k tm
theorem putF_eq (tm : List AV) (d : Option Tmp) (v : AV) (k : List AV → Option α) : putF tm d v k = k (putA tm d v) := by
  cases d with
  | none => rfl
  | some d => exact setF_eq ..
def evalF (tm : List AV) (x : Operand) (k : AV → Option α) : Option α :=
  match x with
  | .tmp i => getF tm i k
  | x => match aEval tm x with | some v => forceV v k | none => none
theorem evalF_eq (tm : List AV) (x : Operand) (k : AV → Option α) : evalF tm x k = (aEval tm x).bind k := by
  unfold evalF
  split
  · rw [getF_eq]; rfl
  · cases aEval tm x with
    | none => rfl
    | some v => simp only [forceV_eq]; rfl
def evalAllF (tm : List AV) : List Operand → (List AV → Option α) → Option α
  | [], k => k []
  | o :: r, k => evalF tm o fun v => evalAllF tm r fun l => k (v :: l)
theorem evalAllF_eq (tm : List AV) : ∀ (l : List Operand) (k : List AV → Option α), evalAllF tm l k = (evalAll tm l).bind k
  | [], k => rfl
  | o :: r, k => by
    unfold evalAllF evalAll
    rw [evalF_eq]
    cases aEval tm o with
    | none => rfl
    | some v =>
      simp only [Option.bind_some]
      rw [evalAllF_eq tm r]
      cases evalAll tm r <;> rfl
def evalOptF (tm : List AV) (x : Option Operand) (k : Option AV → Option α) : Option α :=
  match x with
  | none => k none
  | some o => evalF tm o fun v => k (some v)
theorem evalOptF_eq (tm : List AV) (x : Option Operand) (k : Option AV → Option α) : evalOptF tm x k = (evalOpt tm x).bind k := by
  cases x with
  | none => rfl
  | some o =>
    simp only [evalOptF, evalOpt, evalF_eq]
    cases aEval tm o <;> rfl
def onOut (k kp : AV → AH → Option α) : Option (AOut × AH) → Option α
  | some (.ret v, h) => forceV v fun v => k v h
  | some (.pan v, h) => kp v h
  | none => none
def cIndex (P : Program) (t : TypeId) (x ix : AV) (h : AH) (k kp : AV → AH → Option α) : Option α :=
  match P.underlying t, x, ix with
  | some .string, .str s, .int _ i => match decide (0 ≤ i) with | true => (match s[i.toNat]? with | some b => k (.int .u8 b.toNat) h | none => none) | false => none
  | _, _, _ => onOut k kp (vOf h (aIndex P t x ix))
theorem cIndex_eq (P : Program) (t : TypeId) (x ix : AV) (h : AH) (k kp : AV → AH → Option α) : cIndex P t x ix h k kp = onOut k kp (vOf h (aIndex P t x ix)) := by
  unfold cIndex
  split
  · rename_i s kk i hu
    simp only [aIndex, hu]
    by_cases hi : 0 ≤ i
    · rw [if_pos hi]
      simp only [hi, decide_true]
      cases s[i.toNat]? <;> rfl
    · rw [if_neg hi]
      simp only [hi, decide_false]
      rfl
  · rfl
def cIndexAddr (P : Program) (t : TypeId) (x ix : AV) (h : AH) (k kp : AV → AH → Option α) : Option α :=
  match P.underlying t, x, ix with
  | some (.slice elem), .vsl xs _, .int _ i =>
    match sizeT P elem with
    | some s =>
      match decide (0 ≤ i) with
      | true => (match xs[i.toNat]? with | some v => (match Nat.beq v.cells.length s with | true => k (.ref v) h | false => none) | none => none)
      | false => none
    | none => none
  | some (.slice elem), .hsl r off len _, .int _ i =>
    match sizeT P elem with
    | some s =>
      match decide (0 ≤ i) with
      | true => (match decide (i < (len : Int)) with | true => k (.ptr r (off + i.toNat * s)) h | false => none)
      | false => none
    | none => none
  | _, _, _ => onOut k kp (vOf h (aIndexAddr P t x ix))
theorem cIndexAddr_eq (P : Program) (t : TypeId) (x ix : AV) (h : AH) (k kp : AV → AH → Option α) : cIndexAddr P t x ix h k kp = onOut k kp (vOf h (aIndexAddr P t x ix)) := by
  unfold cIndexAddr
  split
  · rename_i elem xs c kk i hu
    simp only [aIndexAddr, hu]
    cases sizeT P elem with
    | none => rfl
    | some s =>
      simp only
      by_cases hi : 0 ≤ i
      · simp only [hi, decide_true, true_and]
        by_cases hl : i < (xs.length : Int)
        · rw [if_pos hl]
          cases hx : xs[i.toNat]? with
          | none => rfl
          | some v =>
            simp only
            by_cases hs : v.cells.length = s
            · rw [if_pos hs]
              have : Nat.beq v.cells.length s = true := by rw [hs]; exact Nat.beq_refl s
              rw [this]; rfl
            · rw [if_neg hs]
              have : Nat.beq v.cells.length s = false := by
                cases e : Nat.beq v.cells.length s with
                | false => rfl
                | true => exact absurd (Nat.eq_of_beq_eq_true e) hs
              rw [this]; rfl
        · rw [if_neg hl]
          have : xs[i.toNat]? = none := List.getElem?_eq_none (by omega)
          rw [this]; rfl
      · simp only [hi, decide_false, false_and, if_false]; rfl
  · rename_i elem r off len c kk i hu
    simp only [aIndexAddr, hu]
    cases sizeT P elem with
    | none => rfl
    | some s =>
      simp only
      by_cases hi : 0 ≤ i
      · simp only [hi, decide_true, true_and]
        by_cases hl : i < (len : Int)
        · simp only [hl, decide_true, if_true]; rfl
        · simp only [hl, decide_false, if_false]; rfl
      · simp only [hi, decide_false, false_and, if_false]; rfl
  · rfl
def cBound (o : Option AV) (top dflt : Nat) (k : Nat → Option α) : Option α :=
  match o with
  | none => k dflt
  | some (.int _ i) => match decide (0 ≤ i) with
    | true => (match decide (i ≤ (top : Int)) with | true => k i.toNat | false => none)
    | false => none
  | some v => (aOptBound (some v) top dflt).bind k
theorem cBound_eq (o : Option AV) (top dflt : Nat) (k : Nat → Option α) : cBound o top dflt k = (aOptBound o top dflt).bind k := by
  unfold cBound
  split
  · rfl
  · rename_i kk i
    by_cases h0 : 0 ≤ i
    · by_cases h1 : i ≤ (top : Int)
      · simp [aOptBound, aBound, h0, h1]
      · simp [aOptBound, aBound, h0, h1]
    · simp [aOptBound, aBound, h0]
  · rfl
def cNext (it : AV) (isString : Bool) (h : AH) (k kp : AV → AH → Option α) : Option α :=
  match it, isString with
  | .ptr r 0, true =>
    match h.get r with
    | some (.siter s pos) =>
      match decide (pos < s.length) with
      | true => k (.tup [.bool true, .int .i64 pos, .int .i32 (decodeA s pos).1]) (h.set r (.siter s (pos + (decodeA s pos).2)))
      | false => k (.tup [.bool false]) h
    | _ => none
  | _, _ => onOut k kp (vhOf (aNext it isString h))
theorem cNext_eq (it : AV) (isString : Bool) (h : AH) (k kp : AV → AH → Option α) : cNext it isString h k kp = onOut k kp (vhOf (aNext it isString h)) := by
  unfold cNext
  split
  · rename_i r
    unfold aNext
    simp only
    cases h.get r with
    | none => rfl
    | some o =>
      cases o <;> first | rfl | skip
      rename_i s pos
      simp only
      by_cases hp : pos < s.length
      · simp only [hp, decide_true, if_true]; rfl
      · simp only [hp, decide_false, if_false]; rfl
  · rfl
theorem atCall_ex : ∃ f : (AV → AH → Option α) → (AV → AH → Option α) → Option (AOut × AH) → Option α, f = onOut := ⟨_, rfl⟩
@[irreducible] noncomputable def atCall : (AV → AH → Option α) → (AV → AH → Option α) → Option (AOut × AH) → Option α := Classical.choose (atCall_ex (α := α))
theorem atCall_eq (k kp : AV → AH → Option α) (r : Option (AOut × AH)) : atCall k kp r = onOut k kp r := by
  unfold atCall
  rw [Classical.choose_spec (atCall_ex (α := α))]
theorem atCall_ret {k kp : AV → AH → Option α} {r : Option (AOut × AH)} {v : AV} {h : AH} {y : Option α} (hr : r = some (.ret v, h)) (hy : k v h = y) : atCall k kp r = y := by
  rw [atCall_eq, hr]; exact (forceV_eq v fun v => k v h).trans hy
theorem atCall_P {Q : Option α → Prop} {k kp : AV → AH → Option α} {r : Option (AOut × AH)} {v : AV} {h : AH} (hr : r = some (.ret v, h)) (hy : Q (k v h)) : Q (atCall k kp r) := by
  rw [atCall_ret hr rfl]; exact hy
noncomputable def cSlice (P : Program) (t : TypeId) (x : AV) (lo hi mx : Option AV) (h : AH) (k kp : AV → AH → Option α) : Option α :=
  match P.underlying t, x, mx with
  | some .string, .str s, none => cBound hi s.length s.length fun b => cBound lo b 0 fun a => k (.str ((s.take b).drop a)) h
  | _, .vsl xs c, mx => atCall k kp (vOf h (aSlice P t (.vsl xs c) lo hi mx))
  | _, .hsl r o l c, mx => atCall k kp (vOf h (aSlice P t (.hsl r o l c) lo hi mx))
  | _, _, _ => onOut k kp (vOf h (aSlice P t x lo hi mx))
theorem cSlice_eq (P : Program) (t : TypeId) (x : AV) (lo hi mx : Option AV) (h : AH) (k kp : AV → AH → Option α) : cSlice P t x lo hi mx h k kp = onOut k kp (vOf h (aSlice P t x lo hi mx)) := by
  unfold cSlice
  split
  · rename_i s hu
    simp only [cBound_eq, aSlice, hu, aBounds]
    simp only [Option.isSome_none, Bool.and_false, Bool.false_eq_true, if_false]
    rw [show aOptBound none s.length s.length = some s.length from rfl]
    simp only [Option.bind_some]
    cases aOptBound hi s.length s.length with
    | none => rfl
    | some b =>
      simp only [Option.bind_some]
      cases aOptBound lo b 0 <;> rfl
  · exact atCall_eq ..
  · exact atCall_eq ..
  · rfl
noncomputable def cConvert (P : Program) (src dst : TypeId) (x : AV) (h : AH) (k kp : AV → AH → Option α) : Option α :=
  match x with
  | .int kk n => onOut k kp (vhOf (aConvert P src dst (.int kk n) h))
  | x => atCall k kp (vhOf (aConvert P src dst x h))
theorem cConvert_eq (P : Program) (src dst : TypeId) (x : AV) (h : AH) (k kp : AV → AH → Option α) : cConvert P src dst x h k kp = onOut k kp (vhOf (aConvert P src dst x h)) := by
  unfold cConvert
  split
  · rfl
  · exact atCall_eq ..
noncomputable def cLoad (P : Program) (t : TypeId) (p : AV) (h : AH) (k kp : AV → AH → Option α) : Option α :=
  match p with
  | .ptr r off => atCall k kp (vOf h (aLoad P t (.ptr r off) h))
  | p => onOut k kp (vOf h (aLoad P t p h))
theorem cLoad_eq (P : Program) (t : TypeId) (p : AV) (h : AH) (k kp : AV → AH → Option α) : cLoad P t p h k kp = onOut k kp (vOf h (aLoad P t p h)) := by
  unfold cLoad
  split
  · exact atCall_eq ..
  · rfl
noncomputable def cStore (P : Program) (t : TypeId) (p v : AV) (h : AH) (k kp : AV → AH → Option α) : Option α := atCall k kp (hOf (aStore P t p v h))
theorem cStore_eq (P : Program) (t : TypeId) (p v : AV) (h : AH) (k kp : AV → AH → Option α) : cStore P t p v h k kp = onOut k kp (hOf (aStore P t p v h)) := atCall_eq ..
noncomputable def cCall (X : Cx) (mu : Bool) (tm : List AV) (c : Call) (h : AH) (k kp : AV → AH → Option α) : Option α :=
  evalAllF tm c.args.toList fun args =>
    match c.callee with
    | .value f => evalF tm f fun v =>
      match v with
      | .fn (.func g) [] [] => (match X with | ⟨_, _, call⟩ => atCall k kp (call (.func g) args h))
      | .fn (.func g) first captured => (match X with | ⟨_, _, call⟩ => atCall k kp (call (.func g) (first ++ args ++ captured) h))
      | .fn (.yield l) [] [] => (match X with | ⟨_, _, call⟩ => atCall k kp (call (.yield l) args h))
      | .fn (.yield l) first captured => onOut k kp (if captured.isEmpty then X.call (.yield l) (first ++ args) h else none)
      | _ => none
    | .builtin .append => atCall k kp (aBuiltin X mu .append c.argTypes args h)
    | .builtin b => onOut k kp (aBuiltin X mu b c.argTypes args h)
    | _ => none
theorem cCall_eq (X : Cx) (mu : Bool) (tm : List AV) (c : Call) (h : AH) (k kp : AV → AH → Option α) : cCall X mu tm c h k kp = onOut k kp (aCall X mu tm c h) := by
  unfold cCall aCall
  rw [evalAllF_eq]
  cases evalAll tm c.args.toList with
  | none => rfl
  | some args =>
    simp only [Option.bind_some]
    cases c.callee with
    | builtin b => cases b <;> first | rfl | exact atCall_eq ..
    | invoke a b => rfl
    | value f =>
      simp only
      rw [evalF_eq]
      cases aEval tm f with
      | none => rfl
      | some v =>
        simp only [Option.bind_some]
        cases v <;> first | rfl | skip
        rename_i f a b
        cases f with
        | yield l => cases a with
          | nil => cases b with
            | nil => simp only [atCall_eq, List.nil_append, List.isEmpty_nil, if_true]
            | cons => rfl
          | cons => rfl
        | func g => cases a with
          | nil => cases b with
            | nil => simp only [atCall_eq, List.nil_append, List.append_nil]
            | cons => exact atCall_eq ..
          | cons => exact atCall_eq ..
noncomputable def cBin (sh : Bool) (P : Program) (op : BinOp) (t : TypeId) (x y : Operand) (a b : AV) (h : AH) (k kp : AV → AH → Option α) : Option α :=
  match sh, a with
  | true, .agg cs => atCall k kp (vOf h (aBinOp P op t x y (.agg cs) b))
  | true, .str l => match op with
    | .add => atCall k kp (vOf h (aBinOp P .add t x y (.str l) b))
    | op => onOut k kp (vOf h (aBinOp P op t x y (.str l) b))
  | _, a => onOut k kp (vOf h (aBinOp P op t x y a b))
theorem cBin_eq (sh : Bool) (P : Program) (op : BinOp) (t : TypeId) (x y : Operand) (a b : AV) (h : AH) (k kp : AV → AH → Option α) : cBin sh P op t x y a b h k kp = onOut k kp (vOf h (aBinOp P op t x y a b)) := by
  unfold cBin
  split
  · exact atCall_eq ..
  · split
    · exact atCall_eq ..
    · rfl
  · rfl
def allocA (P : Program) (T : TypeId) (h : AH) : Option (AOut × AH) := match zeroT P T with | some z => vhOf (aNew T z h) | none => none
theorem alloc_new {P : Program} {T : TypeId} {h : AH} {z : AV} {cs : List AV} (hz : zeroT P T = some z) (hc : z.cells = cs) (hs : cs.all AV.scalar = true) : allocA P T h = some (.ret (.ptr h.next 0), h.alloc (.cells cs T)) := by
  subst hc
  simp only [allocA, hz, aNew, if_pos hs, vhOf]
noncomputable def cLenOr (sh : Bool) (X : Cx) (mu : Bool) (tm : List AV) (c : Call) (h : AH) (k kp : AV → AH → Option α) : Option α :=
  match sh, c.callee with
  | true, .builtin .len => evalAllF tm c.args.toList fun args => atCall k kp (aBuiltin X mu .len c.argTypes args h)
  | _, _ => cCall X mu tm c h k kp
theorem cLenOr_eq (sh : Bool) (X : Cx) (mu : Bool) (tm : List AV) (c : Call) (h : AH) (k kp : AV → AH → Option α) : cLenOr sh X mu tm c h k kp = onOut k kp (aCall X mu tm c h) := by
  unfold cLenOr
  split
  · rename_i hc
    unfold aCall
    rw [evalAllF_eq, hc]
    cases evalAll tm c.args.toList with
    | none => rfl
    | some args => exact atCall_eq ..
  · exact cCall_eq ..
noncomputable def cOp (sh : Bool) (X : Cx) (fn : FuncId) (tm : List AV) (o : Oper) (h : AH) (k kp : AV → AH → Option α) : Option α :=
  match o.op with
  | .move x | .assign x => evalF tm x fun v => k v h
  | .binOp op t x y _ => evalF tm x fun a => evalF tm y fun b => cBin sh X.P op t x y a b h k kp
  | .unOp op _ x => evalF tm x fun a => onOut k kp (vOf h (aUnOp op a))
  | .extract t ix => evalF tm t fun v => (match v with | .tup vs => (match vs[ix]? with | some v => forceV v fun v => k v h | none => none) | _ => none)
  | .index t x ix => evalF tm x fun a => evalF tm ix fun b => cIndex X.P t a b h k kp
  | .indexAddr t x ix => evalF tm x fun a => evalF tm ix fun b => (match sh with | true => atCall k kp (vOf h (aIndexAddr X.P t a b)) | false => cIndexAddr X.P t a b h k kp)
  | .pick c a b => evalF tm c fun c =>
    (match c with
    | .bool v => (match v with
      | true => evalF tm a fun x => k x h
      | false => evalF tm b fun x => k x h)
    | _ => none)
  | .convert src dst x => evalF tm x fun a => cConvert X.P src dst a h k kp
  | .load t a => evalF tm a fun p => cLoad X.P t p h k kp
  | .store t a x => evalF tm a fun p => evalF tm x fun v => cStore X.P t p v h k kp
  | .field t x f => evalF tm x fun v => onOut k kp (vOf h (aField X.P t v f))
  | .fieldAddr s x f => evalF tm x fun v => onOut k kp (vOf h (aFieldAddr X.P s v f))
  | .next it s => evalF tm it fun v => cNext v s h k kp
  | .range t x => evalF tm x fun v => onOut k kp (vhOf (aRange X.P t v h))
  | .slice t x lo hi mx => evalF tm x fun v => evalOptF tm lo fun a => evalOptF tm hi fun b => evalOptF tm mx fun c => (match sh with | true => atCall k kp (vOf h (aSlice X.P t v a b c)) | false => cSlice X.P t v a b c h k kp)
  | .alloc elem => (match sh with | true => atCall k kp (allocA X.P elem h) | false => onOut k kp (allocA X.P elem h))
  | .box elem x => evalF tm x fun v => (match sh with | true => atCall k kp (vhOf (aNew elem v h)) | false => onOut k kp (vhOf (aNew elem v h)))
  | .makeSlice t l c => evalF tm l fun a => evalF tm c fun b => atCall k kp (vhOf (aMakeSlice X.P t a b h))
  | .lookup t x ix ok => evalF tm x fun a => evalF tm ix fun b => atCall k kp (vOf h (aLookup X.P t a b ok h))
  | .mapUpdate t m i x => evalF tm m fun a => evalF tm i fun b => evalF tm x fun c => atCall k kp (hOf (aMapUpdate X.P t a b c h))
  | .mapEntry t m i => evalF tm m fun a => evalF tm i fun b => atCall k kp (vhOf (aMapEntry X.P t a b h))
  | .entryStore _ m s x => evalF tm m fun a => evalF tm s fun b => evalF tm x fun c => atCall k kp (hOf (aEntryStore a b c h))
  | .call c => cLenOr sh X (o.dst.any (X.mu fn)) tm c h k kp
  | _ => onOut k kp (evOp X fn tm o h)
theorem cOp_eq (sh : Bool) (X : Cx) (fn : FuncId) (tm : List AV) (o : Oper) (h : AH) (k kp : AV → AH → Option α) : cOp sh X fn tm o h k kp = onOut k kp (evOp X fn tm o h) := by
  unfold cOp
  split <;> first | rfl | skip
  all_goals (rename_i ho; unfold evOp; rw [ho]; simp only [evalF_eq, evalOptF_eq])
  · rename_i x
    cases aEval tm x <;> first | rfl | exact (forceV_eq _ fun v => k v h).symm
  · rename_i x
    cases aEval tm x <;> first | rfl | exact (forceV_eq _ fun v => k v h).symm
  · rename_i op t x y _
    cases aEval tm x with
    | none => rfl
    | some a =>
      cases aEval tm y with
      | none => rfl
      | some b => exact cBin_eq ..
  · rename_i op _ x
    cases aEval tm x <;> rfl
  · rename_i t ix
    cases aEval tm t with
    | none => rfl
    | some v =>
      cases v <;> first | rfl | skip
      rename_i vs
      simp only [Option.bind_some]
      cases vs[ix]? <;> rfl
  · rename_i t x ix
    cases aEval tm x with
    | none => rfl
    | some a =>
      cases aEval tm ix with
      | none => rfl
      | some b => exact cIndex_eq ..
  · rename_i t x ix
    cases aEval tm x with
    | none => rfl
    | some a =>
      cases aEval tm ix with
      | none => rfl
      | some b =>
        cases sh with
        | true => exact atCall_eq ..
        | false => exact cIndexAddr_eq ..
  · rename_i c a b
    cases aEval tm c with
    | none => rfl
    | some v =>
      cases v <;> first | rfl | skip
      rename_i v
      cases v with
      | true => simp only [Option.bind_some]; cases aEval tm a <;> first | rfl | exact (forceV_eq _ fun v => k v h).symm
      | false => simp only [Option.bind_some]; cases aEval tm b <;> first | rfl | exact (forceV_eq _ fun v => k v h).symm
  · rename_i src dst x
    cases aEval tm x with
    | none => rfl
    | some v => exact cConvert_eq ..
  · rename_i t a
    cases aEval tm a with
    | none => rfl
    | some v => exact cLoad_eq ..
  · rename_i t a x
    cases aEval tm a with
    | none => rfl
    | some p =>
      cases aEval tm x with
      | none => rfl
      | some v => exact cStore_eq ..
  · rename_i t x f
    cases aEval tm x <;> rfl
  · rename_i t x f
    cases aEval tm x <;> rfl
  · rename_i t x
    cases aEval tm t with
    | none => rfl
    | some v => exact cNext_eq ..
  · rename_i t x
    cases aEval tm x <;> rfl
  · rename_i t x lo hi mx
    cases aEval tm x with
    | none => rfl
    | some a =>
      cases evalOpt tm lo with
      | none => rfl
      | some b =>
        cases evalOpt tm hi with
        | none => rfl
        | some c =>
          cases evalOpt tm mx with
          | none => rfl
          | some d =>
            cases sh with
            | true => exact atCall_eq ..
            | false => exact cSlice_eq ..
  · cases sh with
    | true => exact atCall_eq ..
    | false => rfl
  · rename_i elem x
    cases aEval tm x with
    | none => rfl
    | some v =>
      cases sh with
      | true => exact atCall_eq ..
      | false => rfl
  · rename_i t l c
    cases aEval tm l with
    | none => rfl
    | some a =>
      cases aEval tm c with
      | none => rfl
      | some b => exact atCall_eq ..
  · rename_i t x ix ok
    cases aEval tm x with
    | none => rfl
    | some a =>
      cases aEval tm ix with
      | none => rfl
      | some b => exact atCall_eq ..
  · rename_i t m i x
    cases aEval tm m with
    | none => rfl
    | some a =>
      cases aEval tm i with
      | none => rfl
      | some b =>
        cases aEval tm x with
        | none => rfl
        | some c => exact atCall_eq ..
  · rename_i t m i
    cases aEval tm m with
    | none => rfl
    | some a =>
      cases aEval tm i with
      | none => rfl
      | some b => exact atCall_eq ..
  · rename_i t m i x
    cases aEval tm m with
    | none => rfl
    | some a =>
      cases aEval tm i with
      | none => rfl
      | some b =>
        cases aEval tm x with
        | none => rfl
        | some c => exact atCall_eq ..
  · exact cLenOr_eq ..
def onBool (tm : List AV) (d : Nat) (yes no bad : List AV → Option α) : Option α :=
  getF tm d fun v => match v with
    | .bool b => (match b with
      | true => setF tm d (.bool true) yes
      | false => setF tm d (.bool false) no)
    | _ => bad tm
theorem set_getD {tm : List AV} {d : Nat} {b : Bool} (h : tm.getD d undefA = .bool b) : tm.set d (.bool b) = tm := by
  induction tm generalizing d with
  | nil => rfl
  | cons a l ih =>
    cases d with
    | zero => simp at h; subst h; rfl
    | succ d => simp only [List.set_cons_succ]; rw [ih (by simpa using h)]
theorem onBool_eq (tm : List AV) (d : Nat) (yes no bad : List AV → Option α) : onBool tm d yes no bad = (match tm.getD d undefA with | .bool true => yes tm | .bool false => no tm | _ => bad tm) := by
  unfold onBool
  rw [getF_eq]
  have hs := fun b => set_getD (tm := tm) (d := d) (b := b)
  revert hs
  cases tm.getD d undefA <;> intro hs <;> first | rfl | skip
  rename_i b
  cases b <;> simp only [setF_eq] <;> rw [hs _ rfl]
def cWanted (ops : Array Oper) (tm : List AV) (o : Oper) (yes no : List AV → Option α) : Option α :=
  match o.guard with
  | none => yes tm
  | some (j, want) =>
    match (ops[j]?).bind (·.dst) with
    | some d => (match want with
      | true => onBool tm d yes no no
      | false => onBool tm d no yes no)
    | none => no tm
def theBool : Option AV → Option Bool
  | some (.bool b) => some b
  | _ => none
theorem theBool_eq (tm : List AV) (d : Nat) : theBool tm[d]? = theBool (some (tm.getD d undefA)) := by
  rw [List.getD_eq_getElem?_getD]
  cases tm[d]? <;> rfl
theorem cWanted_eq (ops : Array Oper) (tm : List AV) (o : Oper) (yes no : List AV → Option α) : cWanted ops tm o yes no = if wantedA ops tm o then yes tm else no tm := by
  unfold cWanted wantedA
  cases o.guard with
  | none => rfl
  | some p =>
    obtain ⟨j, want⟩ := p
    have key : ∀ y : Option Tmp, (match y with | some d => (match want with | true => onBool tm d yes no no | false => onBool tm d no yes no) | none => no tm) = if ((match y with | some d => theBool tm[d]? | none => none) == some want) = true then yes tm else no tm := by
      intro y
      cases y with
      | none => rfl
      | some d =>
        simp only [onBool_eq, theBool_eq]
        cases tm.getD d undefA <;> first | (cases want <;> rfl) | skip
        rename_i b
        cases b <;> cases want <;> rfl
    exact key ((ops[j]?).bind (·.dst))
noncomputable def cOps (sh : Bool) (X : Cx) (fn : FuncId) (ops : Array Oper) (l : List Oper) : List AV → AH → (List AV → AH → Option α) → (AV → List AV → AH → Option α) → Option α :=
  List.rec (motive := fun _ => List AV → AH → (List AV → AH → Option α) → (AV → List AV → AH → Option α) → Option α)
    (fun tm h k _ => k tm h)
    (fun o _ go tm h k kp =>
      cWanted ops tm o
        (fun tm => cOp sh X fn tm o h (fun v h' => putF tm o.dst v fun tm => go tm h' k kp) (fun v h' => kp v tm h'))
        (fun tm => putF tm o.dst undefA fun tm => go tm h k kp)) l
theorem cOps_eq (sh : Bool) (X : Cx) (fn : FuncId) (ops : Array Oper) (df : List Id) (k : List AV → AH → Option α) (kp : AV → List AV → AH → Option α) : ∀ (l : List Oper) (tm : List AV) (h : AH),
    cOps sh X fn ops l tm h k kp = (evOps X fn ops l ⟨tm, df, h⟩).bind fun r => match r.1 with | .normal => k r.2.tm r.2.h | .pan v => kp v r.2.tm r.2.h | _ => none
  | [], tm, h => rfl
  | o :: r, tm, h => by
    show cWanted ops tm o (fun tm => cOp sh X fn tm o h (fun v h' => putF tm o.dst v fun tm => cOps sh X fn ops r tm h' k kp) (fun v h' => kp v tm h')) (fun tm => putF tm o.dst undefA fun tm => cOps sh X fn ops r tm h k kp) = _
    unfold evOps
    rw [cWanted_eq]
    split
    · rw [cOp_eq]
      cases evOp X fn tm o h with
      | none => rfl
      | some x =>
        obtain ⟨x, h'⟩ := x
        cases x with
        | ret v =>
          simp only [onOut, forceV_eq, putF_eq]
          exact cOps_eq sh X fn ops df k kp r _ h'
        | pan v => rfl
    · rw [putF_eq]; exact cOps_eq sh X fn ops df k kp r _ h
open Classical in
@[irreducible] noncomputable def atQuiet (h : AH) (k : AV → Option α) (r : Option (AOut × AH)) : Option α :=
  match r with
  | some (.ret v, h') => if h' = h then k v else none
  | _ => none
theorem atQuiet_ret {h : AH} {k : AV → Option α} {r : Option (AOut × AH)} {v : AV} {y : Option α} (hr : r = some (.ret v, h)) (hy : k v = y) : atQuiet h k r = y := by
  unfold atQuiet; rw [hr]; simp only [if_true]; exact hy
theorem atQuiet_P {Q : Option α → Prop} {h : AH} {k : AV → Option α} {r : Option (AOut × AH)} {v : AV} (hr : r = some (.ret v, h)) (hy : Q (k v)) : Q (atQuiet h k r) := by
  rw [atQuiet_ret hr rfl]; exact hy
theorem atQuiet_inv {h : AH} {k : AV → Option α} {r : Option (AOut × AH)} {y : α} (hr : atQuiet h k r = some y) : ∃ v, r = some (.ret v, h) ∧ k v = some y := by
  unfold atQuiet at hr
  split at hr
  · rename_i v h'
    split at hr
    · rename_i he; subst he; exact ⟨v, rfl, hr⟩
    · cases hr
  · cases hr
noncomputable def cCallQ (X : Cx) (fn : FuncId) (tm : List AV) (o : Oper) (c : Call) (h : AH) (k : AV → Option α) : Option α :=
  match c.callee with
  | .value f => evalAllF tm c.args.toList fun args => evalF tm f fun v =>
    match v with
    | .fn (.func g) [] [] => (match X with | ⟨_, _, call⟩ => atQuiet h k (call (.func g) args h))
    | _ => atQuiet h k (evOp X fn tm o h)
  | _ => atQuiet h k (evOp X fn tm o h)
theorem cCallQ_inv {X : Cx} {fn : FuncId} {tm : List AV} {o : Oper} {c : Call} {h : AH} {k : AV → Option α} {y : α} (ho : o.op = .call c) (hr : cCallQ X fn tm o c h k = some y) : ∃ v, evOp X fn tm o h = some (.ret v, h) ∧ k v = some y := by
  unfold cCallQ at hr
  split at hr
  · rename_i f hf
    rw [evalAllF_eq] at hr
    have he : evOp X fn tm o h = aCall X (o.dst.any (X.mu fn)) tm c h := by unfold evOp; rw [ho]
    rw [he] at hr ⊢
    unfold aCall at hr ⊢
    rw [hf] at hr ⊢
    cases ha : evalAll tm c.args.toList with
    | none => rw [ha] at hr; cases hr
    | some args =>
      rw [ha] at hr
      simp only [Option.bind_some, evalF_eq] at hr ⊢
      cases hv : aEval tm f with
      | none => rw [hv] at hr; cases hr
      | some v =>
        rw [hv] at hr
        simp only [Option.bind_some] at hr
        split at hr
        · have := atQuiet_inv hr
          simpa using this
        · exact atQuiet_inv hr
  · exact atQuiet_inv hr
noncomputable def cDraw (sh : Bool) (X : Cx) (fn : FuncId) (ops : Array Oper) (h : AH) (ord : List Nat) : List AV → (List AV → Option α) → Option α :=
  List.rec (motive := fun _ => List AV → (List AV → Option α) → Option α)
    (fun tm k => k tm)
    (fun j _ go tm k =>
      match ops[j]? with
      | some o =>
        cWanted ops tm o
          (fun tm =>
            match opKnd X.P (o.dst.any (X.mu fn)) o.op with
            | .new => none
            | .eff => (match o.op with
              | .call c => cCallQ X fn tm o c h fun v => putF tm o.dst v fun tm => go tm k
              | _ => atQuiet h (fun v => putF tm o.dst v fun tm => go tm k) (evOp X fn tm o h))
            | _ => cOp sh X fn tm o h (fun v _ => putF tm o.dst v fun tm => go tm k) (fun _ _ => none))
          (fun tm => putF tm o.dst undefA fun tm => go tm k)
      | none => none) ord
theorem cDraw_inv {sh : Bool} {X : Cx} {fn : FuncId} {ops : Array Oper} {h : AH} {k : List AV → Option α} {y : α} : ∀ {ord : List Nat} {tm : List AV}, cDraw sh X fn ops h ord tm k = some y → ∃ tm', QGo X fn ops h ord tm tm' ∧ k tm' = some y
  | [], tm, he => ⟨tm, .nil tm, he⟩
  | j :: r, tm, he => by
    have he : (match ops[j]? with
      | some o =>
        cWanted ops tm o
          (fun tm =>
            match opKnd X.P (o.dst.any (X.mu fn)) o.op with
            | .new => none
            | .eff => (match o.op with
              | .call c => cCallQ X fn tm o c h fun v => putF tm o.dst v fun tm => cDraw sh X fn ops h r tm k
              | _ => atQuiet h (fun v => putF tm o.dst v fun tm => cDraw sh X fn ops h r tm k) (evOp X fn tm o h))
            | _ => cOp sh X fn tm o h (fun v _ => putF tm o.dst v fun tm => cDraw sh X fn ops h r tm k) (fun _ _ => none))
          (fun tm => putF tm o.dst undefA fun tm => cDraw sh X fn ops h r tm k)
      | none => none) = some y := he
    cases ho : ops[j]? with
    | none => rw [ho] at he; cases he
    | some o =>
    rw [ho] at he
    simp only [cWanted_eq] at he
    split at he
    · rename_i hw
      split at he
      · cases he
      · rename_i hk
        have : ∃ v, evOp X fn tm o h = some (.ret v, h) ∧ cDraw sh X fn ops h r (putA tm o.dst v) k = some y := by
          split at he
          · rename_i c hc
            obtain ⟨v, h1, h2⟩ := cCallQ_inv hc he
            rw [putF_eq] at h2; exact ⟨v, h1, h2⟩
          · obtain ⟨v, h1, h2⟩ := atQuiet_inv he
            rw [putF_eq] at h2; exact ⟨v, h1, h2⟩
        obtain ⟨v, h1, h2⟩ := this
        obtain ⟨tm', h3, h4⟩ := cDraw_inv h2
        exact ⟨tm', .cons ho (by unfold dstep; rw [if_pos hw]; simp only [hk, h1]; rfl) h3, h4⟩
      · rename_i hk1 hk2
        rw [cOp_eq] at he
        cases hev : evOp X fn tm o h with
        | none => rw [hev] at he; cases he
        | some x =>
          obtain ⟨x, h'⟩ := x
          rw [hev] at he
          cases x with
          | pan v => cases he
          | ret v =>
            simp only [onOut, forceV_eq, putF_eq] at he
            obtain ⟨tm', h3, h4⟩ := cDraw_inv he
            refine ⟨tm', .cons (E1 := []) ho ?_ h3, h4⟩
            unfold dstep
            rw [if_pos hw]
            cases hk : opKnd X.P (o.dst.any (X.mu fn)) o.op with
            | new => exact absurd hk hk1
            | eff => exact absurd hk hk2
            | pure => simp only [hev]
            | read => simp only [hev]
    · rename_i hw
      rw [putF_eq] at he
      obtain ⟨tm', h3, h4⟩ := cDraw_inv he
      by_cases hk : opKnd X.P (o.dst.any (X.mu fn)) o.op = .eff
      · exact ⟨tm', .cons (E1 := [⟨j, h, h⟩]) ho (by unfold dstep; rw [if_neg hw, hk]; rfl) h3, h4⟩
      · refine ⟨tm', .cons (E1 := []) ho ?_ h3, h4⟩
        unfold dstep
        rw [if_neg hw]
        cases hk2 : opKnd X.P (o.dst.any (X.mu fn)) o.op with
        | eff => exact absurd hk2 hk
        | new => rfl
        | pure => rfl
        | read => rfl
noncomputable def cDrawE (sh : Bool) (X : Cx) (fn : FuncId) (ops : Array Oper) (ord : List Nat) : List AV → AH → (List AV → AH → Option α) → Option α :=
  List.rec (motive := fun _ => List AV → AH → (List AV → AH → Option α) → Option α)
    (fun tm h k => k tm h)
    (fun j _ go tm h k =>
      match ops[j]? with
      | some o =>
        cWanted ops tm o
          (fun tm =>
            match opKnd X.P (o.dst.any (X.mu fn)) o.op with
            | .new => none
            | .eff => cOp sh X fn tm o h (fun v h' => putF tm o.dst v fun tm => go tm h' k) (fun _ _ => none)
            | _ => cOp sh X fn tm o h (fun v _ => putF tm o.dst v fun tm => go tm h k) (fun _ _ => none))
          (fun tm => putF tm o.dst undefA fun tm => go tm h k)
      | none => none) ord
theorem cDrawE_inv {sh : Bool} {X : Cx} {fn : FuncId} {ops : Array Oper} {k : List AV → AH → Option α} {y : α} : ∀ {ord : List Nat} {tm : List AV} {h : AH} {E : List EffE}, cDrawE sh X fn ops ord tm h k = some y →
    ∃ tm' h' E', dgo X fn ops ord ⟨tm, h, E, []⟩ = some ⟨tm', h', E', []⟩ ∧ k tm' h' = some y
  | [], tm, h, E, he => ⟨tm, h, E, rfl, he⟩
  | j :: r, tm, h, E, he => by
    have he : (match ops[j]? with
      | some o =>
        cWanted ops tm o
          (fun tm =>
            match opKnd X.P (o.dst.any (X.mu fn)) o.op with
            | .new => none
            | .eff => cOp sh X fn tm o h (fun v h' => putF tm o.dst v fun tm => cDrawE sh X fn ops r tm h' k) (fun _ _ => none)
            | _ => cOp sh X fn tm o h (fun v _ => putF tm o.dst v fun tm => cDrawE sh X fn ops r tm h k) (fun _ _ => none))
          (fun tm => putF tm o.dst undefA fun tm => cDrawE sh X fn ops r tm h k)
      | none => none) = some y := he
    simp only [dgo]
    cases ho : ops[j]? with
    | none => rw [ho] at he; cases he
    | some o =>
    rw [ho] at he
    simp only [cWanted_eq, cOp_eq] at he
    unfold dstep
    simp only
    split at he
    · rename_i hw
      rw [if_pos hw]
      cases hk : opKnd X.P (o.dst.any (X.mu fn)) o.op <;> rw [hk] at he <;> simp only at he ⊢
      case new => cases he
      all_goals
        cases hev : evOp X fn tm o h with
        | none => rw [hev] at he; cases he
        | some x =>
          obtain ⟨x, h'⟩ := x
          rw [hev] at he
          cases x with
          | pan v => cases he
          | ret v =>
            simp only [onOut, forceV_eq, putF_eq] at he ⊢
            exact cDrawE_inv he
    · rename_i hw
      rw [if_neg hw]
      rw [putF_eq] at he
      cases hk : opKnd X.P (o.dst.any (X.mu fn)) o.op <;> simp only <;> exact cDrawE_inv he
def shOf (tab : Nat → Option (List Nat)) : Bool := match tab 999999 with | some _ => true | none => false
theorem evOps_exit {X : Cx} {fn : FuncId} {ops : Array Oper} : ∀ {l : List Oper} {s : ASt} {r : AExit × ASt}, evOps X fn ops l s = some r → (r.1 = .normal ∨ ∃ v, r.1 = .pan v) ∧ r.2.df = s.df
  | [], s, r, h => by simp only [evOps, Option.some.injEq] at h; subst h; exact ⟨.inl rfl, rfl⟩
  | o :: l, s, r, h => by
    unfold evOps at h
    split at h
    · split at h
      · have := evOps_exit h; exact this
      · simp only [Option.some.injEq] at h; subst h; exact ⟨.inr ⟨_, rfl⟩, rfl⟩
      · cases h
    · have := evOps_exit h; exact this
abbrev KC (α : Type) := AExit → ASt → Option α
def cIterD (f : ASt → KC α → Option α) : Nat → ASt → KC α → Option α
  | 0, _, _ => none
  | n + 1, s, k => f s fun x s' => match x with | .normal => cIterD f n s' k | x => k x s'
theorem cIter_ex : ∃ g : (ASt → KC α → Option α) → Nat → ASt → KC α → Option α, g = cIterD := ⟨_, rfl⟩
noncomputable def cIter : (ASt → KC α → Option α) → Nat → ASt → KC α → Option α := Classical.choose (cIter_ex (α := α))
theorem cIter_def : (cIter : (ASt → KC α → Option α) → Nat → ASt → KC α → Option α) = cIterD := Classical.choose_spec (cIter_ex (α := α))
theorem cIter_zero (f : ASt → KC α → Option α) (s : ASt) (k : KC α) : cIter f 0 s k = none := by rw [cIter_def]; rfl
theorem cIter_succ (f : ASt → KC α → Option α) (n : Nat) (s : ASt) (k : KC α) : cIter f (n + 1) s k = f s fun x s' => match x with | .normal => cIter f n s' k | x => k x s' := by rw [cIter_def]; rfl
attribute [irreducible] cIter
def onCond (tm : List AV) (c : Operand) (t e : List AV → Option α) : Option α :=
  match c with
  | .tmp d => onBool tm d t e fun _ => none
  | c => evalF tm c fun v => match v with
    | .bool b => (match b with | true => t tm | false => e tm)
    | _ => none
abbrev CF (α : Type) := ASt → KC α → Option α
@[irreducible] def atRgn (r : Option (AExit × ASt)) (k : KC α) : Option α := r.bind fun r => k r.1 r.2
noncomputable def cRegion (X : Cx) (rgn : Nat → Array Oper → ASt → Option (AExit × ASt)) (fn : FuncId) (tab : Nat → Option (List Nat)) (id : Nat) (ops : Array Oper) (draw : Bool) (s : ASt) (k : KC α) : Option α :=
  match draw with
  | true => (match tab id with
    | some ord => (match s with | ⟨tm, df, h⟩ => (match tab (id + 500000) with
      | some _ => cDrawE (shOf tab) X fn ops ord tm h fun tm h => k .normal ⟨tm, df, h⟩
      | none => cDraw (shOf tab) X fn ops h ord tm fun tm => k .normal ⟨tm, df, h⟩))
    | none => atRgn (rgn id ops s) k)
  | false => match s with | ⟨tm, df, h⟩ => cOps (shOf tab) X fn ops ops.toList tm h (fun tm h => k .normal ⟨tm, df, h⟩) (fun v tm h => k (.pan v) ⟨tm, df, h⟩)
def cSeq (a b : CF α) (s : ASt) (k : KC α) : Option α :=
  a s fun x s' => match x with | .normal => b s' k | x => k x s'
def cCond (c : Operand) (t e : CF α) (s : ASt) (k : KC α) : Option α :=
  match s with | ⟨tm, df, h⟩ => onCond tm c (fun tm => t ⟨tm, df, h⟩ k) (fun tm => e ⟨tm, df, h⟩ k)
def cBlock (id : Nat) (b : CF α) (s : ASt) (k : KC α) : Option α :=
  b s fun x s' => match x with | .exit i => (match Nat.beq i id with | true => k .normal s' | false => k (.exit i) s') | x => k x s'
@[irreducible] def atRange (l : Id) (tm : List AV) (df : List Id) (k : KC α) (r : Option (AOut × AH)) : Option α :=
  match r with
  | some (.ret _, h2) => (aLeaveLoop l ⟨tm, df, h2⟩).bind fun r => k r.1 r.2
  | some (.pan v, h2) => k (.pan v) ⟨tm, df, h2⟩
  | none => none
theorem atRange_P {Q : Option α → Prop} {l : Id} {tm : List AV} {df : List Id} {k : KC α} {r : Option (AOut × AH)} {v : AV} {h2 : AH} {x : AExit} {s : ASt} (hr : r = some (.ret v, h2)) (hl : aLeaveLoop l ⟨tm, df, h2⟩ = some (x, s)) (hy : Q (k x s)) : Q (atRange l tm df k r) := by
  unfold atRange; rw [hr]; simp only [hl, Option.bind_some]; exact hy
def loopId (h : AH) : Id := (h.alloc (.defs true)).next
def loopHeap (fn : FuncId) (tm : List AV) (ps : Array Tmp) (a b : Code) (h : AH) : AH := (h.alloc (.defs true)).alloc (.loop .ready none fn tm ps a b h.next)
def cRangeF (X : Cx) (fn : FuncId) (rd : Option Id) (f : Operand) (ps : Array Tmp) (a b : Code) (s : ASt) (k : KC α) : Option α :=
  match rd with
  | some _ => (evRangeFunc X fn rd f ps a b s).bind fun r => k r.1 r.2
  | none => match s with
    | ⟨tm, df, h⟩ => evalF tm f fun v => match v with
      | .fn (.func g) first captured => (match X with | ⟨_, _, call⟩ => atRange (loopId h) tm (h.next :: df) k (call (.func g) (first ++ [.fn (.yield (loopId h)) [] []] ++ captured) (loopHeap fn tm ps a b h)))
      | _ => none
theorem cRangeF_eq (X : Cx) (fn : FuncId) (rd : Option Id) (f : Operand) (ps : Array Tmp) (a b : Code) (s : ASt) (k : KC α) : cRangeF X fn rd f ps a b s k = (evRangeFunc X fn rd f ps a b s).bind fun r => k r.1 r.2 := by
  unfold cRangeF
  cases rd with
  | some _ => rfl
  | none =>
    obtain ⟨tm, df, h⟩ := s
    simp only [evRangeFunc, aEnterLoop, evalF_eq]
    cases aEval tm f with
    | none => rfl
    | some v =>
      cases v <;> first | rfl | skip
      rename_i g first captured
      cases g <;> first | rfl | skip
      rename_i g
      simp only [Option.bind_some]
      unfold atRange
      split
      · rename_i hr; unfold loopId loopHeap at hr; rw [hr]; rfl
      · rename_i hr; unfold loopId loopHeap at hr; rw [hr]; rfl
      · rename_i hr; unfold loopId loopHeap at hr; rw [hr]; rfl
noncomputable def cCode (X : Cx) (rgn : Nat → Array Oper → ASt → Option (AExit × ASt)) (fn : FuncId) (tab : Nat → Option (List Nat)) (rd : Option Id) (n : Nat) (c : Code) : CF α :=
  Code.rec (motive := fun _ => CF α)
    (fun s k => k .normal s)
    (fun id ops draw s k => cRegion X rgn fn tab id ops draw s k)
    (fun _ _ a b s k => cSeq a b s k)
    (fun c _ _ t e s k => cCond c t e s k)
    (fun id _ b s k => cBlock id b s k)
    (fun _ b s k => cIter b n s k)
    (fun f ps a b _ _ s k => cRangeF X fn rd f ps a b s k)
    (fun i s k => k (.exit i) s)
    (fun _ b s k => b s k)
    (fun _ s k => k .normal s)
    (fun l s k => (evCode X rgn fn rd n (.goto l) s).bind fun r => k r.1 r.2)
    (fun s k => k .ret s)
    (fun w s k => (evCode X rgn fn rd n (.refuse w) s).bind fun r => k r.1 r.2)
    c
theorem onCond_eq (tm : List AV) (c : Operand) (t e : List AV → Option α) : onCond tm c t e = (match aEval tm c with | some (.bool true) => t tm | some (.bool false) => e tm | _ => none) := by
  unfold onCond
  split
  · rename_i d
    rw [onBool_eq]
    show _ = (match some (tm.getD d undefA) with | some (.bool true) => t tm | some (.bool false) => e tm | _ => none)
    cases tm.getD d undefA <;> first | rfl | skip
    rename_i b
    cases b <;> rfl
  · rw [evalF_eq]
    generalize aEval tm _ = z
    cases z with
    | none => rfl
    | some v =>
      cases v <;> first | rfl | skip
      rename_i v
      cases v <;> rfl
def tabFits (P : Program) (mu : Nat → Bool) (tab : Nat → Option (List Nat)) : Code → Bool
  | .region id ops true => (match tab id with
    | some ord => (match planOf P mu ops with | some pl => pl.ord == ord && (match tab (id + 500000) with | some _ => earlyOK P mu ops pl.T | none => true) | none => false)
    | none => true)
  | .seq a b => tabFits P mu tab a && tabFits P mu tab b
  | .cond _ a b => tabFits P mu tab a && tabFits P mu tab b
  | .block _ b => tabFits P mu tab b
  | .loop b => tabFits P mu tab b
  | .scope b => tabFits P mu tab b
  | _ => true
theorem cCode_imp {X : Cx} {rgn : Nat → Array Oper → ASt → Option (AExit × ASt)} {fn : FuncId} {tab : Nat → Option (List Nat)} {rd : Option Id} {n : Nat} {y : α} (hrg : ∀ id ops s, rgn id ops s = drawn X fn ops s) :
    ∀ (c : Code) (s : ASt) (k : KC α), tabFits X.P (X.mu fn) tab c = true → cCode X rgn fn tab rd n c s k = some y → ((evCode X rgn fn rd n c s).bind fun r => k r.1 r.2) = some y := by
  intro c
  induction c with
  | region id ops draw =>
    intro s k ht hc
    obtain ⟨tm, df, h⟩ := s
    cases draw with
    | true =>
      replace hc : (match tab id with
        | some ord => (match tab (id + 500000) with
          | some _ => cDrawE (shOf tab) X fn ops ord tm h fun tm h => k .normal ⟨tm, df, h⟩
          | none => cDraw (shOf tab) X fn ops h ord tm fun tm => k .normal ⟨tm, df, h⟩)
        | none => atRgn (rgn id ops ⟨tm, df, h⟩) k) = some y := hc
      cases htab : tab id with
      | none => rw [htab] at hc; unfold atRgn at hc; exact hc
      | some ord =>
        rw [htab] at hc
        simp only [tabFits, htab] at ht
        split at ht
        · rename_i pl hpl
          simp only [Bool.and_eq_true] at ht
          have : pl.ord = ord := by simpa using ht.1
          subst this
          show (rgn id ops ⟨tm, df, h⟩).bind _ = _
          cases he5 : tab (id + 500000) with
          | some _ =>
            rw [he5] at hc ht
            obtain ⟨tm', h', E', h1, h2⟩ := cDrawE_inv (E := []) hc
            rw [hrg, drawn_early hpl ht.2 h1]
            exact h2
          | none =>
            rw [he5] at hc
            obtain ⟨tm', h1, h2⟩ := cDraw_inv hc
            rw [hrg, drawn_quiet hpl h1]
            exact h2
        · cases ht
    | false =>
      rw [← hc]
      show (evOps X fn ops ops.toList ⟨tm, df, h⟩).bind _ = cOps (shOf tab) X fn ops ops.toList tm h _ _
      rw [cOps_eq (shOf tab) X fn ops df]
      have hx := fun r => evOps_exit (X := X) (fn := fn) (ops := ops) (l := ops.toList) (s := ⟨tm, df, h⟩) (r := r)
      revert hx
      cases evOps X fn ops ops.toList ⟨tm, df, h⟩ with
      | none => intro _; rfl
      | some r =>
        intro hx
        obtain ⟨h1, h2⟩ := hx r rfl
        obtain ⟨x, s'⟩ := r
        simp only at h1 h2
        rcases h1 with rfl | ⟨v, rfl⟩ <;> simp only [Option.bind_some] <;> rw [← h2]
  | seq a b iha ihb =>
    intro s k ht hc
    simp only [tabFits, Bool.and_eq_true] at ht
    have h1 := iha s _ ht.1 hc
    show (thenA (evCode X rgn fn rd n a s) (evCode X rgn fn rd n b)).bind _ = _
    cases he : evCode X rgn fn rd n a s with
    | none => rw [he] at h1; cases h1
    | some r =>
      rw [he] at h1
      obtain ⟨x, s'⟩ := r
      cases x <;> first | exact ihb s' k ht.2 h1 | exact h1
  | cond c t e iht ihe =>
    intro s k ht hc
    obtain ⟨tm, df, h⟩ := s
    simp only [tabFits, Bool.and_eq_true] at ht
    replace hc : onCond tm c (fun tm => cCode X rgn fn tab rd n t ⟨tm, df, h⟩ k) (fun tm => cCode X rgn fn tab rd n e ⟨tm, df, h⟩ k) = some y := hc
    show (match aEval tm c with | some (.bool true) => evCode X rgn fn rd n t ⟨tm, df, h⟩ | some (.bool false) => evCode X rgn fn rd n e ⟨tm, df, h⟩ | _ => none).bind _ = _
    rw [onCond_eq] at hc
    revert hc
    cases aEval tm c with
    | none => intro hc; cases hc
    | some v =>
      cases v <;> intro hc <;> first | (cases hc; done) | skip
      rename_i v
      cases v with
      | true => exact iht _ k ht.1 hc
      | false => exact ihe _ k ht.2 hc
  | block id b ih =>
    intro s k ht hc
    have h1 := ih s _ ht hc
    show (outBlock id (evCode X rgn fn rd n b s)).bind _ = _
    cases he : evCode X rgn fn rd n b s with
    | none => rw [he] at h1; cases h1
    | some r =>
      rw [he] at h1
      obtain ⟨x, s'⟩ := r
      cases x <;> first | exact h1 | skip
      rename_i i
      replace h1 : (match Nat.beq i id with | true => k .normal s' | false => k (.exit i) s') = some y := h1
      show (if i = id then some (AExit.normal, s') else some (.exit i, s')).bind _ = _
      by_cases hi : i = id
      · rw [if_pos hi]
        have : Nat.beq i id = true := by rw [hi]; exact Nat.beq_refl id
        rw [this] at h1; exact h1
      · rw [if_neg hi]
        have : Nat.beq i id = false := by
          cases e : Nat.beq i id with
          | false => rfl
          | true => exact absurd (Nat.eq_of_beq_eq_true e) hi
        rw [this] at h1; exact h1
  | loop b ih =>
    intro s k ht hc
    replace hc : cIter (cCode X rgn fn tab rd n b) n s k = some y := hc
    show (iter (evCode X rgn fn rd n b) n s).bind _ = _
    have key : ∀ m s, cIter (cCode X rgn fn tab rd n b) m s k = some y → ((iter (evCode X rgn fn rd n b) m s).bind fun r => k r.1 r.2) = some y := by
      intro m
      induction m with
      | zero => intro s hc; rw [cIter_zero] at hc; cases hc
      | succ m im =>
        intro s hc
        rw [cIter_succ] at hc
        have h1 := ih s _ ht hc
        show (match evCode X rgn fn rd n b s with | some (.normal, s') => iter (evCode X rgn fn rd n b) m s' | r => r).bind _ = _
        cases he : evCode X rgn fn rd n b s with
        | none => rw [he] at h1; cases h1
        | some r =>
          rw [he] at h1
          obtain ⟨x, s'⟩ := r
          cases x <;> first | exact im s' h1 | exact h1
    exact key n s hc
  | scope b ih => intro s k ht hc; exact ih s k ht hc
  | skip => intro s k _ hc; exact hc
  | label l => intro s k _ hc; exact hc
  | exit i => intro s k _ hc; exact hc
  | ret => intro s k _ hc; exact hc
  | rangeFunc f ps a b _ _ => intro s k _ hc; rw [← hc]; exact (cRangeF_eq X fn rd f ps a b s k).symm
  | goto l => intro s k _ hc; exact hc
  | refuse w => intro s k _ hc; exact hc
end
def forceL {α : Type} : List AV → (List AV → Option α) → Option α
  | [], k => k []
  | a :: l, k => forceL l fun l => k (a :: l)
theorem forceL_eq {α : Type} : ∀ (l : List AV) (k : List AV → Option α), forceL l k = k l
  | [], k => rfl
  | a :: l, k => by rw [forceL, forceL_eq l]
noncomputable def cBodyH (P : Program) (mu : FuncId → Nat → Bool) (call : AFn → List AV → AH → Option (AOut × AH)) (rgn : Nat → Array Oper → ASt → Option (AExit × ASt)) (tab : Nat → Option (List Nat)) (n : Nat) (f : FuncId) (fn : Func) (c : Code) (args : List AV) (h : AH) : Option (AOut × AH) :=
  forceL (args ++ List.replicate (fn.ntmps - args.length) undefA) fun tm => cCode ⟨P, mu, call⟩ rgn f tab none n c ⟨tm, [], h⟩ fun x s => leaveA P fn (some (x, s))
theorem ev_of_cBodyH {P : Program} {mu : FuncId → Nat → Bool} {hk : Hooks} (tab : Nat → Option (List Nat)) {n : Nat} {f : FuncId} {fn : Func} {c : Code} {args : List AV} {h : AH} {y : AOut × AH} (hh : hk f args h = none) (hf : P.funcs[f]? = some fn) (hc : fn.body = some c)
    (ht : tabFits P (mu f) tab c = true) (hv : cBodyH P mu (evCall (mkEv P mu hk) n) (rg P mu hk n f) tab n f fn c args h = some y) : evCall (mkEv P mu hk) (n + 1) (.func f) args h = some y := by
  rw [ev_body hh hf hc]
  unfold cBodyH at hv
  unfold evBody
  rw [forceL_eq] at hv
  have := cCode_imp (X := cx P mu hk n) (rgn := rg P mu hk n f) (fun _ _ _ => rfl) c _ _ ht hv
  rw [← this]
  cases evCode (cx P mu hk n) (rg P mu hk n f) f none n c ⟨args ++ List.replicate (fn.ntmps - args.length) undefA, [], h⟩ with
  | none => rfl
  | some r => rfl
def noTab : Nat → Option (List Nat) := fun _ => none
@[irreducible] def atLeave (P : Program) (fn : Func) (x : AExit) (s : ASt) : Option (AOut × AH) := leaveA P fn (some (x, s))
theorem atLeave_P {Q : Option (AOut × AH) → Prop} {P : Program} {fn : Func} {x : AExit} {s : ASt} {y : Option (AOut × AH)} (hl : leaveA P fn (some (x, s)) = y) (hy : Q y) : Q (atLeave P fn x s) := by
  unfold atLeave; rw [hl]; exact hy
noncomputable def cBodyS (P : Program) (mu : FuncId → Nat → Bool) (call : AFn → List AV → AH → Option (AOut × AH)) (rgn : Nat → Array Oper → ASt → Option (AExit × ASt)) (tab : Nat → Option (List Nat)) (n : Nat) (f : FuncId) (fn : Func) (c : Code) (args : List AV) (h : AH) : Option (AOut × AH) :=
  forceL (args ++ List.replicate (fn.ntmps - args.length) undefA) fun tm => cCode ⟨P, mu, call⟩ rgn f tab none n c ⟨tm, [], h⟩ fun x s => atLeave P fn x s
theorem ev_of_cBodyS {P : Program} {mu : FuncId → Nat → Bool} {hk : Hooks} (tab : Nat → Option (List Nat)) {n : Nat} {f : FuncId} {fn : Func} {c : Code} {args : List AV} {h : AH} {y : AOut × AH} (hh : hk f args h = none) (hf : P.funcs[f]? = some fn) (hc : fn.body = some c)
    (ht : tabFits P (mu f) tab c = true) (hv : cBodyS P mu (evCall (mkEv P mu hk) n) (rg P mu hk n f) tab n f fn c args h = some y) : evCall (mkEv P mu hk) (n + 1) (.func f) args h = some y := by
  refine ev_of_cBodyH tab hh hf hc ht ?_
  unfold cBodyS at hv
  unfold cBodyH
  have : (fun x s => atLeave P fn x s) = (fun x s => leaveA P fn (some (x, s))) := by funext x s; unfold atLeave; rfl
  rw [this] at hv
  exact hv
@[irreducible] def atBusy {α : Type} (l : Id) (h : AH) (k : AH → Option α) : Option α :=
  (aSetLoop l (fun st pd => match st with | .ready => some (.busy, pd) | _ => none) h).bind k
theorem atBusy_P {α : Type} {Q : Option α → Prop} {l : Id} {h h2 : AH} {k : AH → Option α} (hl : aSetLoop l (fun st pd => match st with | .ready => some (.busy, pd) | _ => none) h = some h2) (hy : Q (k h2)) : Q (atBusy l h k) := by
  unfold atBusy; rw [hl]; exact hy
@[irreducible] def atRound (l : Id) (x : AExit) (s : ASt) : Option (AOut × AH) := endRoundA l (some (x, s))
theorem atRound_P {Q : Option (AOut × AH) → Prop} {l : Id} {x : AExit} {s : ASt} {y : Option (AOut × AH)} (hl : endRoundA l (some (x, s)) = y) (hy : Q y) : Q (atRound l x s) := by
  unfold atRound; rw [hl]; exact hy
noncomputable def cYield (P : Program) (mu : FuncId → Nat → Bool) (call : AFn → List AV → AH → Option (AOut × AH)) (rgn : Nat → Array Oper → ASt → Option (AExit × ASt)) (tab : Nat → Option (List Nat)) (n : Nat) (l : Id) (fn : FuncId) (tm : List AV) (ps : Array Tmp) (a b : Code) (args : List AV) (h : AH) : Option (AOut × AH) :=
  forceL (setTmps tm ps.toList args) fun tm => cCode ⟨P, mu, call⟩ rgn fn tab (some l) n a ⟨tm, [], h⟩ fun x s =>
    match x with
    | .normal => (match s with | ⟨tm, _, h⟩ => atBusy l h fun h2 => cCode ⟨P, mu, call⟩ rgn fn tab (some l) n b ⟨tm, [], h2⟩ fun x s => atRound l x s)
    | _ => none
def noDefs : Code → Bool
  | .rangeFunc _ _ _ _ => false
  | .seq a b => noDefs a && noDefs b
  | .cond _ a b => noDefs a && noDefs b
  | .block _ b => noDefs b
  | .loop b => noDefs b
  | .scope b => noDefs b
  | _ => true
theorem ev_of_cYield {P : Program} {mu : FuncId → Nat → Bool} {hk : Hooks} (tab : Nat → Option (List Nat)) {n : Nat} {l : Id} {st : LoopState} {pd : Option Code} {fn : FuncId} {tm : List AV} {ps : Array Tmp} {a b : Code} {d : Id} {args : List AV} {h : AH} {y : AOut × AH}
    (hg : h.get l = some (.loop st pd fn tm ps a b d)) (hl : args.length = ps.size) (hta : tabFits P (mu fn) tab a = true) (htb : tabFits P (mu fn) tab b = true)
    (hdf : ∀ x s, evCode (cx P mu hk n) (rg P mu hk n fn) fn (some l) n a ⟨setTmps tm ps.toList args, [], h⟩ = some (x, s) → s.df = [])
    (hv : cYield P mu (evCall (mkEv P mu hk) n) (rg P mu hk n fn) tab n l fn tm ps a b args h = some y) : evCall (mkEv P mu hk) (n + 1) (.yield l) args h = some y := by
  unfold cYield at hv
  rw [forceL_eq] at hv
  have h1 := cCode_imp (X := cx P mu hk n) (rgn := rg P mu hk n fn) (fun _ _ _ => rfl) a _ _ hta hv
  show (match h.get l with
    | some (.loop _ _ fn tm ps assign body _) =>
      if args.length ≠ ps.size then none else
      match evCode (cx P mu hk n) (rg P mu hk n fn) fn (some l) n assign ⟨setTmps tm ps.toList args, [], h⟩ with
      | some (.normal, s) =>
        match aSetLoop l (fun st pd => match st with | .ready => some (.busy, pd) | _ => none) s.h with
        | some h2 => if s.df.isEmpty then endRoundA l (evCode (cx P mu hk n) (rg P mu hk n fn) fn (some l) n body ⟨s.tm, [], h2⟩) else none
        | none => none
      | _ => none
    | _ => none) = some y
  rw [hg]
  simp only [hl, ne_eq, not_true_eq_false, if_false]
  cases he : evCode (cx P mu hk n) (rg P mu hk n fn) fn (some l) n a ⟨setTmps tm ps.toList args, [], h⟩ with
  | none => rw [he] at h1; cases h1
  | some r =>
    obtain ⟨x, s⟩ := r
    have hdf := hdf x s he
    rw [he] at h1
    simp only [Option.bind_some] at h1
    cases x <;> simp only at h1 ⊢ <;> first | (cases h1; done) | skip
    obtain ⟨tm1, df1, h1'⟩ := s
    simp only at hdf h1 ⊢
    subst hdf
    unfold atBusy at h1
    cases hs : aSetLoop l (fun st pd => match st with | .ready => some (.busy, pd) | _ => none) h1' with
    | none => rw [hs] at h1; cases h1
    | some h2 =>
      rw [hs] at h1
      simp only [Option.bind_some] at h1
      have h3 := cCode_imp (X := cx P mu hk n) (rgn := rg P mu hk n fn) (fun _ _ _ => rfl) b _ _ htb h1
      simp only [List.isEmpty_nil, if_true]
      cases hb : evCode (cx P mu hk n) (rg P mu hk n fn) fn (some l) n b ⟨tm1, [], h2⟩ with
      | none => rw [hb] at h3; cases h3
      | some r => rw [hb] at h3; unfold atRound at h3; exact h3
def loops : Code → List Code
  | .seq a b => loops a ++ loops b
  | .cond _ a b => loops a ++ loops b
  | .block _ b => loops b
  | .loop b => b :: loops b
  | .scope b => loops b
  | .rangeFunc _ _ a b => loops a ++ loops b
  | _ => []
def loopAt (c : Code) (i : Nat) : Code := (loops c).getD i .skip
def codeOf (fn : Func) : Code := match fn.body with | some c => c | none => .skip
end Go.Sk

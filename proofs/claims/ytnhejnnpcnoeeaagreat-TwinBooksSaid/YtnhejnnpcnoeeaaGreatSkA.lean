/-
  A deterministic evaluator of the model's code over an abstract heap: definitions.
  Values carry the contents of slices that are only appended to; what is written in place, and what pointers
  lead to, lies in an abstract heap under names of its own. Where the evaluator cannot tell what every run does, it
  answers none.
-/
import Derived.Calls
import Derived.Test.YtnhejnnpcnoeeaaGreatSkIm
import Derived.AtR
import Derived.Below
import Derived.Laws.Slices
namespace Go.Sk
inductive Id where
  | h
  | o (p : Id)
  | i (p : Id)
  deriving DecidableEq
def Id.nat : Id → Nat
  | .h => 1
  | .o p => 2 * p.nat
  | .i p => 2 * p.nat + 1
def Id.succ : Id → Id
  | .h => .o .h
  | .o p => .i p
  | .i p => .o p.succ
theorem Id.nat_succ : ∀ p : Id, p.succ.nat = p.nat + 1
  | .h => rfl
  | .o p => rfl
  | .i p => by simp [Id.succ, Id.nat, p.nat_succ]; omega
inductive Tri (α : Type) where
  | e
  | n (l : Tri α) (v : Option α) (r : Tri α)
def Tri.get {α : Type} : Tri α → Id → Option α
  | .e, _ => none
  | .n _ v _, .h => v
  | .n l _ _, .o p => l.get p
  | .n _ _ r, .i p => r.get p
def Tri.set {α : Type} : Id → Tri α → α → Tri α
  | .h, .e, a => .n .e (some a) .e
  | .h, .n l _ r, a => .n l (some a) r
  | .o p, .e, a => .n (Tri.set p .e a) none .e
  | .o p, .n l v r, a => .n (Tri.set p l a) v r
  | .i p, .e, a => .n .e none (Tri.set p .e a)
  | .i p, .n l v r, a => .n l v (Tri.set p r a)
theorem Tri.get_set {α : Type} (a : α) : ∀ (p : Id) (t : Tri α) (q : Id), (Tri.set p t a).get q = if q = p then some a else t.get q := by
  intro p
  induction p with
  | h => intro t q; cases t <;> cases q <;> simp [Tri.set, Tri.get]
  | o p ih => intro t q; cases t <;> cases q <;> simp [Tri.set, Tri.get, ih]
  | i p ih => intro t q; cases t <;> cases q <;> simp [Tri.set, Tri.get, ih]
inductive AFn where
  | func (f : FuncId)
  | yield (l : Id)
  deriving DecidableEq
inductive Cap where
  | lit
  | full
  | own (g : Id) (e : Nat)
  | unk
  | pat (k m : Nat)
  deriving DecidableEq
inductive HCap where
  | known (c : Nat)
  | room (s : Nat)
  | unk
  deriving DecidableEq
inductive AV where
  | bool (b : Bool)
  | int (k : IntKind) (n : Int)
  | str (l : List UInt8)
  | nilptr
  | ptr (r : Id) (off : Nat)
  | ref (v : AV)
  | nilsl
  | vsl (xs : List AV) (c : Cap)
  | hsl (r : Id) (off len : Nat) (cap : HCap)
  | nilmap
  | map (r : Id)
  | fn (f : AFn) (first captured : List AV)
  | nilfn
  | iface (t : TypeId) (v : AV)
  | niliface
  | agg (cs : List AV)
  | tup (vs : List AV)
instance : Inhabited AV := ⟨.tup []⟩
def undefA : AV := .tup []
def AV.cells : AV → List AV
  | .agg cs => cs
  | v => [v]
def patA (k i : Nat) : AV :=
  match k with
  | 0 => .int .u8 (((282 + 7 * i) % 256 : Nat) : Int)
  | 1 => .int .i64 ((9437185 + i : Nat) : Int)
  | 2 => .agg [.str [], .int .i64 ((9437185 + i : Nat) : Int)]
  | 3 => .agg [.int .i64 0, .int .i64 0, .int .i64 0, .int .i64 ((9437185 + i : Nat) : Int)]
  | 4 => .agg [.int .i64 0, .int .i64 ((9437185 + i : Nat) : Int)]
  | 5 => .agg [.int .i64 ((9437185 + i : Nat) : Int), .int .i64 0]
  | _ => .int .i64 0
def patN (k : Nat) : Nat :=
  match k with
  | 0 => 1
  | 1 => 1
  | 2 => 2
  | 3 => 4
  | 4 => 2
  | 5 => 2
  | _ => 1
def patL (k i m : Nat) : List AV := (List.range m).map fun j => patA k (i + j)
theorem patA_cells (k i : Nat) : (patA k i).cells.length = patN k := by
  unfold patA patN; split <;> rfl
theorem patL_length (k i m : Nat) : (patL k i m).length = m := by simp [patL]
theorem patL_get (k i m j : Nat) (hj : j < (patL k i m).length) : (patL k i m)[j] = patA k (i + j) := by simp [patL]
inductive AO where
  | cells (cs : List AV) (T : TypeId)
  | map (es : List (AV × AV × Nat)) (clock : Nat)
  | siter (s : List UInt8) (pos : Nat)
  | miter (m : Option Id) (since : Nat) (seen : List Nat) (stepped : Nat)
  | loop (st : LoopState) (pending : Option Code) (fn : FuncId) (tm : List AV) (ps : Array Tmp) (assign body : Code) (defs : Id)
  | defs (open_ : Bool)
  | grp (e : Nat)
  | dead
structure AH where
  t : Tri AO
  next : Id
def AH.empty : AH := ⟨.e, .h⟩
def AH.get (h : AH) (r : Id) : Option AO := h.t.get r
def AH.set (h : AH) (r : Id) (o : AO) : AH := ⟨Tri.set r h.t o, h.next⟩
def AH.alloc (h : AH) (o : AO) : AH := ⟨Tri.set h.next h.t o, h.next.succ⟩
theorem AH.get_set (h : AH) (r q : Id) (o : AO) : (h.set r o).get q = if q = r then some o else h.get q := Tri.get_set ..
theorem AH.get_alloc (h : AH) (q : Id) (o : AO) : (h.alloc o).get q = if q = h.next then some o else h.get q := Tri.get_set ..
theorem AH.next_set (h : AH) (r : Id) (o : AO) : (h.set r o).next = h.next := rfl
theorem AH.next_alloc (h : AH) (o : AO) : (h.alloc o).next = h.next.succ := rfl
def ofCell : Value → Option AV
  | .bool b => some (.bool b)
  | .int k n => some (.int k n)
  | .string s => some (.str s.data.toList)
  | .pointer none => some .nilptr
  | .slice none 0 0 => some .nilsl
  | .map none => some .nilmap
  | .nilFunc => some .nilfn
  | .nilIface => some .niliface
  | _ => none
def ofConst : Value → Option AV
  | .agg cs => (cs.toList.mapM ofCell).map .agg
  | .tuple vs => if vs.size = 0 then some (.tup []) else none
  | v => ofCell v
def isAggT (P : Program) (t : TypeId) : Option Bool :=
  match P.underlying t with
  | some (.struct _) => some true
  | some (.array _ _) => some true
  | some _ => some false
  | none => none
def sizeT (P : Program) (t : TypeId) : Option Nat := (P.info? t).map (·.size)
def zeroT (P : Program) (t : TypeId) : Option AV := ((P.info? t).bind (·.zero)).bind ofConst
def aPart (P : Program) (t : TypeId) (cs : List AV) (off : Nat) : Option AV :=
  match isAggT P t with
  | some true => (sizeT P t).map fun n => .agg ((cs.drop off).take n)
  | some false => cs[off]?
  | none => none
def aEqFields (P : Program) (eq : TypeId → AV → AV → Option Bool) (xs ys : List AV) : List Field → Option Bool
  | [] => some true
  | f :: fs =>
    if f.name ≠ "_" then
      match aPart P f.type xs f.offset, aPart P f.type ys f.offset with
      | some a, some b =>
        match eq f.type a b with
        | some true => aEqFields P eq xs ys fs
        | some false => some false
        | none => none
      | _, _ => none
    else aEqFields P eq xs ys fs
def aEqElems (P : Program) (eq : AV → AV → Option Bool) (elem : TypeId) (n : Nat) (xs ys : List AV) : Nat → Nat → Option Bool
  | 0, _ => some true
  | k + 1, i =>
    match aPart P elem xs (i * n), aPart P elem ys (i * n) with
    | some a, some b =>
      match eq a b with
      | some true => aEqElems P eq elem n xs ys k (i + 1)
      | some false => some false
      | none => none
    | _, _ => none
def aEqIn (P : Program) : Nat → TypeId → AV → AV → Option Bool
  | 0, _, _, _ => none
  | d + 1, t, x, y =>
    match P.underlying t with
    | some .bool => match x, y with | .bool a, .bool b => some (a == b) | _, _ => none
    | some (.int _) => match x, y with | .int k a, .int k' b => if k = k' then some (a == b) else none | _, _ => none
    | some .string => match x, y with | .str a, .str b => some (a == b) | _, _ => none
    | some (.pointer e) =>
      match x, y with
      | .nilptr, .nilptr => some true
      | .nilptr, .ptr _ _ => some false
      | .ptr _ _, .nilptr => some false
      | .nilptr, .ref _ => some false
      | .ref _, .nilptr => some false
      | .ptr a i, .ptr b j => if a = b ∧ (sizeT P e).any (· ≠ 0) then some (i == j) else none
      | _, _ => none
    | some (.interface _) =>
      match x, y with
      | .niliface, .niliface => some true
      | .niliface, .iface _ _ => some false
      | .iface _ _, .niliface => some false
      | .iface tx vx, .iface ty vy =>
        if tx ≠ ty then some false
        else if (P.info? tx).any (·.comparable) then aEqIn P d tx vx vy else none
      | _, _ => none
    | some (.struct fs) =>
      match x, y with
      | .agg xs, .agg ys => if P.stoodInHeld t then none else aEqFields P (aEqIn P d) xs ys fs.toList
      | _, _ => none
    | some (.array len elem) =>
      match x, y, sizeT P elem with
      | .agg xs, .agg ys, some n => aEqElems P (aEqIn P d elem) elem n xs ys len 0
      | _, _, _ => none
    | some (.slice _) =>
      match x, y with
      | .nilsl, .nilsl => some true
      | .nilsl, .vsl _ _ => some false
      | .nilsl, .hsl _ _ _ _ => some false
      | .vsl _ _, .nilsl => some false
      | .hsl _ _ _ _, .nilsl => some false
      | _, _ => none
    | some (.map _ _) =>
      match x, y with
      | .nilmap, .nilmap => some true
      | .nilmap, .map _ => some false
      | .map _, .nilmap => some false
      | _, _ => none
    | some (.func _ _ _) =>
      match x, y with
      | .nilfn, .nilfn => some true
      | .nilfn, .fn _ _ _ => some false
      | .fn _ _ _, .nilfn => some false
      | _, _ => none
    | _ => none
def aEq (P : Program) (t : TypeId) (x y : AV) : Option Bool := aEqIn P 10000 t x y
def plainCell : AV → Bool
  | .bool _ => true
  | .int _ _ => true
  | .str _ => true
  | _ => false
def aKeyFields (P : Program) (ok : TypeId → AV → Bool) (cs : List AV) : List Field → Bool
  | [] => true
  | f :: fs => (if f.name ≠ "_" then (match aPart P f.type cs f.offset with | some v => ok f.type v | none => false) else true) && aKeyFields P ok cs fs
def aKeyElems (P : Program) (ok : AV → Bool) (elem : TypeId) (n : Nat) (cs : List AV) : Nat → Nat → Bool
  | 0, _ => true
  | k + 1, i => (match aPart P elem cs (i * n) with | some v => ok v | none => false) && aKeyElems P ok elem n cs k (i + 1)
def aKeyOk (P : Program) : Nat → TypeId → AV → Bool
  | 0, _, _ => false
  | d + 1, t, v =>
    match P.underlying t with
    | some (.interface _) => false
    | some (.array len elem) => match v, sizeT P elem with | .agg cs, some n => aKeyElems P (aKeyOk P d elem) elem n cs len 0 | _, _ => false
    | some (.struct fs) => match v with | .agg cs => aKeyFields P (aKeyOk P d) cs fs.toList | _ => false
    | some _ => true
    | none => false
def plainCellEq : AV → AV → Bool
  | .bool a, .bool b => a == b
  | .int j a, .int k b => j == k && a == b
  | .str a, .str b => a == b
  | _, _ => false
def plainCellsEq : List AV → List AV → Bool
  | [], [] => true
  | a :: l, b :: r => plainCellEq a b && plainCellsEq l r
  | _, _ => false
def plainBeq : AV → AV → Bool
  | .agg a, .agg b => plainCellsEq a b
  | a, b => plainCellEq a b
def aFind (eq : AV → Option Bool) (k : AV) : List (AV × AV × Nat) → Nat → Option (Option (Nat × AV × Nat))
  | [], _ => some none
  | (k', v, b) :: es, i =>
    match eq k' with
    | some true => if plainBeq k k' then some (some (i, v, b)) else none
    | some false => aFind eq k es (i + 1)
    | none => none
def aFindKey (P : Program) (kt : TypeId) (k : AV) (es : List (AV × AV × Nat)) : Option (Option (Nat × AV × Nat)) :=
  if aKeyOk P 10000 kt k then aFind (fun e => aEq P kt k e) k es 0 else none
def aIntBits (op : BinOp) (k : IntKind) (x y : Int) : Option Int :=
  let a := BitVec.ofInt k.bits x
  let b := BitVec.ofInt k.bits y
  match op with
  | .and => some (k.wrap (a &&& b).toNat)
  | .or => some (k.wrap (a ||| b).toNat)
  | .xor => some (k.wrap (a ^^^ b).toNat)
  | .andNot => some (k.wrap (a &&& ~~~b).toNat)
  | _ => none
def aIntOp (op : BinOp) (k : IntKind) (a b : Int) : Option AV :=
  match op with
  | .add => some (.int k (k.wrap (a + b)))
  | .sub => some (.int k (k.wrap (a - b)))
  | .mul => some (.int k (k.wrap (a * b)))
  | .quo => if b = 0 then none else some (.int k (k.wrap (a.tdiv b)))
  | .rem => if b = 0 then none else some (.int k (a.tmod b))
  | .eql => some (.bool (a == b))
  | .neq => some (.bool (a != b))
  | .lss => some (.bool (a < b))
  | .leq => some (.bool (a ≤ b))
  | .gtr => some (.bool (a > b))
  | .geq => some (.bool (a ≥ b))
  | .and => (aIntBits .and k a b).map (.int k)
  | .or => (aIntBits .or k a b).map (.int k)
  | .xor => (aIntBits .xor k a b).map (.int k)
  | .andNot => (aIntBits .andNot k a b).map (.int k)
  | _ => none
def aShift (op : BinOp) (k : IntKind) (x y : Int) : Option AV :=
  if y < 0 then none else
  let n := min y.toNat k.bits
  match op with
  | .shl => some (.int k (k.wrap (x * 2 ^ n)))
  | .shr => some (.int k (x.fdiv (2 ^ n)))
  | _ => none
def aStrOp (op : BinOp) (x y : List UInt8) : Option AV :=
  match op with
  | .add => if x.length + y.length ≤ 9223372036854775807 then some (.str (x ++ y)) else none
  | .eql => some (.bool (x == y))
  | .neq => some (.bool (!(x == y)))
  | .lss => some (.bool (Op.bytesLess x y))
  | .leq => some (.bool (Op.bytesLess x y || x == y))
  | .gtr => some (.bool (!(Op.bytesLess x y || x == y)))
  | .geq => some (.bool (!Op.bytesLess x y))
  | _ => none
def aEqGuard (P : Program) (t : TypeId) (x y : Operand) (a b : AV) : Bool :=
  match a, b with
  | .niliface, .niliface => (match x with | .const _ => true | _ => false) || (match y with | .const _ => true | _ => false)
  | .agg _, .agg _ => !P.eqGuardType P.depth t
  | _, _ => true
def aEqlOp (P : Program) (op : BinOp) (t : TypeId) (ox oy : Operand) (x y : AV) : Option AV :=
  if aEqGuard P t ox oy x y then
    match op with
    | .eql => (aEq P t x y).map .bool
    | .neq => (aEq P t x y).map fun b => .bool (!b)
    | _ => none
  else none
def aBinRest (P : Program) (op : BinOp) (t : TypeId) (ox oy : Operand) (x y : AV) : Option AV :=
  match x, y with
  | .int k a, .int k' b => if k = k' then aIntOp op k a b else none
  | .str a, .str b => aStrOp op a b
  | x, y => aEqlOp P op t ox oy x y
def aBinOp (P : Program) (op : BinOp) (t : TypeId) (ox oy : Operand) (x y : AV) : Option AV :=
  match op with
  | .shl => match x, y with | .int k a, .int _ b => aShift .shl k a b | _, _ => none
  | .shr => match x, y with | .int k a, .int _ b => aShift .shr k a b | _, _ => none
  | op => aBinRest P op t ox oy x y
def aUnOp (op : UnOp) (x : AV) : Option AV :=
  match op, x with
  | .neg, .int k n => aIntOp .sub k 0 n
  | .xor, .int k n => aIntOp .xor k (if k.signed then -1 else k.max) n
  | .not, .bool b => some (.bool !b)
  | _, _ => none
end Go.Sk

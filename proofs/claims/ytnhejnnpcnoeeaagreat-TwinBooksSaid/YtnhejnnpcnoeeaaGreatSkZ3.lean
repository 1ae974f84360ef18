/-
  Regions that draw their order: kinds of operations, the order that the evaluator takes, its run.
-/
import Derived.Test.YtnhejnnpcnoeeaaGreatSkZ2
import Derived.OrdersIn
namespace Go.Sk
inductive Knd where
  | pure
  | read
  | eff
  | new
  deriving DecidableEq
def opKnd (P : Program) (mu : Bool) : Op → Knd
  | .move _ | .assign _ | .pick _ _ _ | .build _ _ | .nilCheck _ | .binOp _ _ _ _ _ | .unOp _ _ _ | .fieldAddr _ _ _ | .field _ _ _ | .indexAddr _ _ _ | .index _ _ _
  | .slice _ _ _ _ _ | .makeInterface _ _ | .makeFunc _ _ _ | .typeAssert _ _ _ _ | .extract _ _ => .pure
  | .buildSlice _ _ _ => if mu then .new else .pure
  | .load _ _ | .lookup _ _ _ _ => .read
  | .convert _ dst _ => match P.underlying dst with | some (.slice _) => .eff | some _ => .read | none => .eff
  | .alloc _ | .box _ _ | .makeSlice _ _ _ => .new
  | .makeMap _ r => (match r with | none => .new | some _ => .eff)
  | .call c => match c.callee with | .builtin .len => .read | .builtin .min => .read | .builtin .max => .read | .builtin .cap => .read | _ => .eff
  | _ => .eff
structure EffE where
  j : Nat
  hEnd : AH
  hNext : AH
structure NewE where
  j : Nat
  r : Id
  obj : AO
  q : Nat
structure DSt where
  tm : List AV
  h : AH
  E : List EffE
  A : List NewE
def newAt (P : Program) (tm : List AV) (o : Oper) (r : Id) : Option (AV × AO) :=
  match o.op with
  | .alloc elem => match zeroT P elem with | some z => if z.cells.all AV.scalar = true then some (.ptr r 0, .cells z.cells elem) else none | none => none
  | .box elem x => match aEval tm x with | some v => if v.cells.all AV.scalar = true then some (.ptr r 0, .cells v.cells elem) else none | none => none
  | .makeSlice t l c =>
    match aEval tm l, aEval tm c, P.underlying t with
    | some (.int _ l), some (.int _ c), some (.slice elem) =>
      match sizeT P elem, zeroT P elem with
      | some n, some z =>
        if 0 ≤ l ∧ l ≤ c ∧ z.cells.length = n ∧ z.cells.all AV.scalar = true ∧ 0 < n ∧ P.bytesOf elem * c ≤ 140737488355328 ∧ c ≤ 140737488355328 then
          some (.hsl r 0 l.toNat (.known c.toNat), .cells ((List.replicate c.toNat z).flatMap AV.cells) elem)
        else none
      | _, _ => none
    | _, _, _ => none
  | .buildSlice t len parts =>
    match evalParts tm parts.toList, P.underlying t with
    | some ps, some (.slice elem) =>
      match sizeT P elem, zeroT P elem with
      | some n, some z =>
        if n = 0 ∨ len * n > 16777216 ∨ z.cells.length ≠ n ∨ z.cells.all AV.scalar = false then none else
        match aFillElems n (List.replicate len z) ps with
        | some xs => some (.hsl r 0 len (.known len), .cells (flat xs) elem)
        | none => none
      | _, _ => none
    | _, _ => none
  | .makeMap _ m => (match m with | none => some (.map r, .map [] 0) | some _ => none)
  | _ => none
def dstep (X : Cx) (fn : FuncId) (ops : Array Oper) (j : Nat) (o : Oper) (st : DSt) : Option DSt :=
  if wantedA ops st.tm o then
    match opKnd X.P (o.dst.any (X.mu fn)) o.op with
    | .new =>
      match newAt X.P st.tm o st.h.next with
      | some (v, ob) => some ⟨putA st.tm o.dst v, st.h.alloc ob, st.E, st.A ++ [⟨j, st.h.next, ob, st.E.length⟩]⟩
      | none => none
    | .eff =>
      match evOp X fn st.tm o st.h with
      | some (.ret v, h') => some ⟨putA st.tm o.dst v, h', st.E ++ [⟨j, st.h, h'⟩], st.A⟩
      | _ => none
    | _ =>
      match evOp X fn st.tm o st.h with
      | some (.ret v, _) => some ⟨putA st.tm o.dst v, st.h, st.E, st.A⟩
      | _ => none
  else
    match opKnd X.P (o.dst.any (X.mu fn)) o.op with
    | .eff => some ⟨putA st.tm o.dst undefA, st.h, st.E ++ [⟨j, st.h, st.h⟩], st.A⟩
    | _ => some ⟨putA st.tm o.dst undefA, st.h, st.E, st.A⟩
def dgo (X : Cx) (fn : FuncId) (ops : Array Oper) : List Nat → DSt → Option DSt
  | [], st => some st
  | j :: r, st =>
    match ops[j]? with
    | some o => match dstep X fn ops j o st with | some st' => dgo X fn ops r st' | none => none
    | none => none
def subBits (a b : Nat) : Bool := a &&& b == a
def ordGo (T : List Nat) (kn : List Knd) : Nat → Nat → List Nat → List Nat
  | 0, _, _ => []
  | n + 1, done, rest =>
    match rest.find? (fun i => decide (kn.getD i .eff ≠ .eff) && subBits (T.getD i 0) done) with
    | some i => i :: ordGo T kn n (done ||| 2 ^ i) (rest.filter fun k => k != i)
    | none =>
      match rest.find? (fun i => subBits (T.getD i 0) done) with
      | some i => i :: ordGo T kn n (done ||| 2 ^ i) (rest.filter fun k => k != i)
      | none => []
def readOK : List Oper → Nat → Nat → Tmp → Bool
  | [], _, _, _ => true
  | o :: r, i, m, t => (match o.dst with | some d => d != t || m.testBit i | none => true) && readOK r (i + 1) m t
def readOld (T : List Nat) (j : Nat) : List Oper → Nat → Tmp → Bool
  | [], _, _ => true
  | o :: r, i, t => (match o.dst with | some d => d != t || (T.getD i 0).testBit j | none => true) && readOld T j r (i + 1) t
def looksOK (P : Program) (mu : Nat → Bool) (ops : Array Oper) (T : List Nat) (j m : Nat) (o : Oper) : Bool :=
  (o.looksAt ops).all fun t => readOK ops.toList 0 m t || (decide (opKnd P (o.dst.any mu) o.op = .pure) && o.guard.isNone && readOld T j ops.toList 0 t)
def dstOK : List Oper → Nat → Bool
  | [], _ => true
  | o :: r, m => match o.dst with | none => dstOK r m | some d => !m.testBit d && dstOK r (m ||| 2 ^ d)
def ordOK (P : Program) (mu : Nat → Bool) (ops : Array Oper) (T : List Nat) (all : Nat) : List Nat → Nat → Nat → Bool
  | [], done, _ => done == all
  | j :: r, done, eff =>
    match ops[j]?, T[j]? with
    | some o, some m =>
      !done.testBit j && subBits m done && looksOK P mu ops T j m o &&
      (if opKnd P (o.dst.any mu) o.op = .eff then subBits eff m && ordOK P mu ops T all r (done ||| 2 ^ j) (eff ||| 2 ^ j)
       else ordOK P mu ops T all r (done ||| 2 ^ j) eff)
    | _, _ => false
structure Plan where
  ord : List Nat
  T : List Nat
def planOf (P : Program) (mu : Nat → Bool) (ops : Array Oper) : Option Plan :=
  match masks ops.toList [] with
  | some T =>
    let ord := ordGo T (ops.toList.map fun o => opKnd P (o.dst.any mu) o.op) ops.size 0 (List.range ops.size)
    if dstOK ops.toList 0 && ordOK P mu ops T (2 ^ ops.size - 1) ord 0 0 then some ⟨ord, T⟩ else none
  | none => none
def poss (T : List Nat) (E : List EffE) (j k : Nat) : Bool :=
  (E.take k).all (fun e => !(T.getD e.j 0).testBit j) && (E.drop k).all (fun e => !(T.getD j 0).testBit e.j)
def endH (E : List EffE) (hF : AH) (k : Nat) : AH :=
  match E[k]? with
  | some e => e.hEnd
  | none => hF
def begH (h0 : AH) (E : List EffE) : Nat → AH
  | 0 => h0
  | k + 1 => match E[k]? with | some e => e.hNext | none => h0
def slotIs (tm : List AV) (d : Option Tmp) (v : AV) : Bool :=
  match d with
  | none => true
  | some d => match tm[d]? with | some u => AV.beq v u | none => true
def readChk (X : Cx) (fn : FuncId) (ops : Array Oper) (T : List Nat) (st : DSt) (j : Nat) (o : Oper) : Bool :=
  if wantedA ops st.tm o then
    match opKnd X.P (o.dst.any (X.mu fn)) o.op with
    | .read => (List.range (st.E.length + 1)).all fun k => !poss T st.E j k ||
        (match evOp X fn st.tm o (endH st.E st.h k) with | some (.ret v, _) => slotIs st.tm o.dst v | _ => false)
    | _ => true
  else true
def newChk (T : List Nat) (st : DSt) (a : NewE) : Bool :=
  (List.range (st.E.length + 1)).all fun k => !poss T st.E a.j k || (decide (a.q ≤ k) && (match (endH st.E st.h k).get a.r with | some ob => AO.beq ob a.obj | none => false))
def newDist : List NewE → Bool
  | [] => true
  | a :: r => r.all (fun b => decide (a.r ≠ b.r)) && newDist r
def readsChk (X : Cx) (fn : FuncId) (ops : Array Oper) (T : List Nat) (st : DSt) : List Nat → Bool
  | [] => true
  | j :: r => (match ops[j]? with | some o => readChk X fn ops T st j o | none => false) && readsChk X fn ops T st r
def drawn (X : Cx) (fn : FuncId) (ops : Array Oper) (s : ASt) : Option (AExit × ASt) :=
  match planOf X.P (X.mu fn) ops with
  | none => none
  | some pl =>
    match dgo X fn ops pl.ord ⟨s.tm, s.h, [], []⟩ with
    | none => none
    | some st =>
      if st.E.isEmpty && st.A.isEmpty || (readsChk X fn ops pl.T st pl.ord && st.A.all (newChk pl.T st) && newDist st.A) then some (.normal, ⟨st.tm, s.df, st.h⟩) else none
end Go.Sk

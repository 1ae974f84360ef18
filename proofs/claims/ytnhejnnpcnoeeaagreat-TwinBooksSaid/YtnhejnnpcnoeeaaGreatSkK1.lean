/-
  The evaluator, laid for the kernel: slots in a tree, alternatives closed.
-/
import Derived.Test.YtnhejnnpcnoeeaaGreatSkRow
namespace Go.Sk
noncomputable def triRoot {α : Type} (t : Tri α) : Option α := Tri.rec (motive := fun _ => Option α) none (fun _ v _ _ _ => v) t
noncomputable def triL {α : Type} (t : Tri α) : Tri α := Tri.rec (motive := fun _ => Tri α) .e (fun l _ _ _ _ => l) t
noncomputable def triR {α : Type} (t : Tri α) : Tri α := Tri.rec (motive := fun _ => Tri α) .e (fun _ _ r _ _ => r) t
noncomputable def triGet {α : Type} (p : Id) : Tri α → Option α := Id.rec (motive := fun _ => Tri α → Option α) triRoot (fun _ ih t => ih (triL t)) (fun _ ih t => ih (triR t)) p
noncomputable def triSet {α : Type} (p : Id) : Tri α → α → Tri α :=
  Id.rec (motive := fun _ => Tri α → α → Tri α) (fun t a => .n (triL t) (some a) (triR t)) (fun _ ih t a => .n (ih (triL t) a) (triRoot t) (triR t)) (fun _ ih t a => .n (triL t) (triRoot t) (ih (triR t) a)) p
noncomputable def idN (n : Nat) : Id := Nat.rec (motive := fun _ => Id) .h (fun _ ih => ih.succ) n
noncomputable def bs {α : Type} (b : Bool) (x y : α) : α := Bool.rec (motive := fun _ => α) y x b
theorem bs_true {α : Type} (x y : α) : bs true x y = x := rfl
theorem bs_false {α : Type} (x y : α) : bs false x y = y := rfl
noncomputable def gT (n : Nat) (T : Tri AV) (t : Nat) : AV := bs (Nat.blt t n) (Option.rec (motive := fun _ => AV) undefA (fun v => v) (triGet (idN t) T)) undefA
noncomputable def pT (n : Nat) (T : Tri AV) (d : Option Tmp) (v : AV) : Tri AV := Option.rec (motive := fun _ => Tri AV) T (fun d => bs (Nat.blt d n) (triSet (idN d) T v) T) d
noncomputable def gA (n : Nat) (T : Tri AV) (o : Operand) : Option AV :=
  Operand.rec (motive := fun _ => Option AV) (fun t => some (gT n T t)) ofConst (fun _ => none) (fun f => some (.fn (.func f) [] [])) o
noncomputable def gAll (n : Nat) (T : Tri AV) (l : List Operand) : Option (List AV) :=
  List.rec (motive := fun _ => Option (List AV)) (some []) (fun o _ ih => match gA n T o, ih with | some v, some l => some (v :: l) | _, _ => none) l
noncomputable def gParts (n : Nat) (T : Tri AV) (l : List (Nat × Operand)) : Option (List (Nat × AV)) :=
  List.rec (motive := fun _ => Option (List (Nat × AV))) (some []) (fun o _ ih => match gA n T o.2, ih with | some v, some l => some ((o.1, v) :: l) | _, _ => none) l
noncomputable def gOpt (n : Nat) (T : Tri AV) (x : Option Operand) : Option (Option AV) := Option.rec (motive := fun _ => Option (Option AV)) (some none) (fun o => (gA n T o).map some) x
abbrev CallF := AFn → List AV → AH → Option (AOut × AH)
abbrev KT := Program → Bool → CallF → Nat → Tri AV → AH → Option (AOut × AH)
noncomputable def kMove (x : Operand) : KT := fun _ _ _ n T h => vOf h (gA n T x)
noncomputable def kPick (c a b : Operand) : KT := fun _ _ _ n T h => match gA n T c with | some (.bool true) => vOf h (gA n T a) | some (.bool false) => vOf h (gA n T b) | _ => none
noncomputable def kAlloc (elem : TypeId) : KT := fun P _ _ _ _ h => match zeroT P elem with | some z => vhOf (aNew elem z h) | none => none
noncomputable def kBox (elem : TypeId) (x : Operand) : KT := fun _ _ _ n T h => match gA n T x with | some v => vhOf (aNew elem v h) | none => none
noncomputable def kBuild (t : TypeId) (parts : Array (Nat × Operand)) : KT := fun P _ _ n T h => match gParts n T parts.toList with | some l => vOf h (aBuild P t l) | none => none
noncomputable def kBuildSlice (t : TypeId) (len : Nat) (parts : Array (Nat × Operand)) : KT := fun P mu _ n T h => match gParts n T parts.toList with | some l => vhOf (aBuildSlice P mu t len l h) | none => none
noncomputable def kMapUpdate (t : TypeId) (m k x : Operand) : KT := fun P _ _ n T h => match gA n T m, gA n T k, gA n T x with | some a, some b, some c => hOf (aMapUpdate P t a b c h) | _, _, _ => none
noncomputable def kLoad (t : TypeId) (a : Operand) : KT := fun P _ _ n T h => match gA n T a with | some p => vOf h (aLoad P t p h) | none => none
noncomputable def kStore (t : TypeId) (a x : Operand) : KT := fun P _ _ n T h => match gA n T a, gA n T x with | some p, some v => hOf (aStore P t p v h) | _, _ => none
noncomputable def kNo : KT := fun _ _ _ _ _ _ => none
noncomputable def kNilCheck (x : Operand) : KT := fun _ _ _ n T h => match gA n T x with | some (.ptr r off) => some (.ret (.ptr r off), h) | some (.ref v) => some (.ret (.ref v), h) | some (.fn f a b) => some (.ret (.fn f a b), h) | _ => none
noncomputable def kBinOp (op : BinOp) (t : TypeId) (x y : Operand) : KT := fun P _ _ n T h => match gA n T x, gA n T y with | some a, some b => vOf h (aBinOp P op t x y a b) | _, _ => none
noncomputable def kUnOp (op : UnOp) (x : Operand) : KT := fun _ _ _ n T h => match gA n T x with | some a => vOf h (aUnOp op a) | none => none
noncomputable def kConvert (src dst : TypeId) (x : Operand) : KT := fun P _ _ n T h => match gA n T x with | some a => vhOf (aConvert P src dst a h) | none => none
noncomputable def kMakeInterface (t : TypeId) (x : Operand) : KT := fun P _ _ n T h => match P.underlying t, gA n T x with | some (.interface _), _ => none | some _, some v => some (.ret (.iface t v), h) | _, _ => none
noncomputable def kMakeFunc (f : Fn) (first captured : Array Operand) : KT := fun _ _ _ n T h =>
  match f with
  | .func k => match gAll n T first.toList, gAll n T captured.toList with | some a, some b => some (.ret (.fn (.func k) a b), h) | _, _ => none
  | _ => none
noncomputable def kMakeMap (t : TypeId) (r : Option Operand) : KT := fun P _ _ n T h =>
  match r with
  | none => some (.ret (.map h.next), h.alloc (.map [] 0))
  | some x => match P.underlying t, gA n T x with | some (.map _ _), some (.int _ _) => some (.ret (.map h.next), h.alloc (.map [] 0)) | _, _ => none
noncomputable def kMakeSlice (t : TypeId) (l c : Operand) : KT := fun P _ _ n T h => match gA n T l, gA n T c with | some a, some b => vhOf (aMakeSlice P t a b h) | _, _ => none
noncomputable def kSlice (t : TypeId) (x : Operand) (lo hi mx : Option Operand) : KT := fun P _ _ n T h => match gA n T x, gOpt n T lo, gOpt n T hi, gOpt n T mx with | some v, some a, some b, some c => vOf h (aSlice P t v a b c) | _, _, _, _ => none
noncomputable def kFieldAddr (s : TypeId) (x : Operand) (f : Nat) : KT := fun P _ _ n T h => match gA n T x with | some v => vOf h (aFieldAddr P s v f) | none => none
noncomputable def kField (t : TypeId) (x : Operand) (f : Nat) : KT := fun P _ _ n T h => match gA n T x with | some v => vOf h (aField P t v f) | none => none
noncomputable def kIndexAddr (t : TypeId) (x ix : Operand) : KT := fun P _ _ n T h => match gA n T x, gA n T ix with | some a, some b => vOf h (aIndexAddr P t a b) | _, _ => none
noncomputable def kIndex (t : TypeId) (x ix : Operand) : KT := fun P _ _ n T h => match gA n T x, gA n T ix with | some a, some b => vOf h (aIndex P t a b) | _, _ => none
noncomputable def kLookup (t : TypeId) (x ix : Operand) (ok : Bool) : KT := fun P _ _ n T h => match gA n T x, gA n T ix with | some a, some b => vOf h (aLookup P t a b ok h) | _, _ => none
noncomputable def kMapEntry (t : TypeId) (m k : Operand) : KT := fun P _ _ n T h => match gA n T m, gA n T k with | some a, some b => vhOf (aMapEntry P t a b h) | _, _ => none
noncomputable def kEntryStore (_ : TypeId) (m s x : Operand) : KT := fun _ _ _ n T h => match gA n T m, gA n T s, gA n T x with | some a, some b, some c => hOf (aEntryStore a b c h) | _, _, _ => none
noncomputable def kRange (t : TypeId) (x : Operand) : KT := fun P _ _ n T h => match gA n T x with | some v => vhOf (aRange P t v h) | none => none
noncomputable def kNext (it : Operand) (s : Bool) : KT := fun _ _ _ n T h => match gA n T it with | some v => vhOf (aNext v s h) | none => none
noncomputable def kTypeAssert (x : Operand) (_ asserted : TypeId) (ok : Bool) : KT := fun P _ _ n T h => match gA n T x with | some v => vOf h (aTypeAssert P v asserted ok) | none => none
noncomputable def kExtract (t : Operand) (ix : Nat) : KT := fun _ _ _ n T h => match gA n T t with | some (.tup vs) => vOf h vs[ix]? | _ => none
noncomputable def kBuiltin (b : Builtin) (argTypes : Array TypeId) (args : List AV) : KT := fun P mu call _ _ h => aBuiltin ⟨P, fun _ _ => false, call⟩ mu b argTypes args h
noncomputable def kCall (c : Call) : KT := fun P mu call n T h =>
  match gAll n T c.args.toList with
  | none => none
  | some args =>
    match c.callee with
    | .builtin b => kBuiltin b c.argTypes args P mu call n T h
    | .value f =>
      match gA n T f with
      | some (.fn (.func k) first captured) => call (.func k) (first ++ args ++ captured) h
      | some (.fn (.yield l) first captured) => if captured.isEmpty then call (.yield l) (first ++ args) h else none
      | _ => none
    | .invoke _ _ => none
noncomputable def kPanic (x : Operand) : KT := fun _ _ _ n T h => match gA n T x with | some (.iface t v) => some (.pan (.iface t v), h) | _ => none
noncomputable def selOp (o : Op) : KT :=
  Op.rec (motive := fun _ => KT) kMove kMove kPick kAlloc kBox kBuild kBuildSlice kMapUpdate kLoad kStore (fun _ => kNo) (fun _ => kNo) kNilCheck (fun op t x y _ => kBinOp op t x y) (fun op _ x => kUnOp op x)
    kConvert (fun _ _ => kNo) kMakeInterface kMakeFunc kMakeMap (fun _ _ => kNo) kMakeSlice kSlice kFieldAddr kField kIndexAddr kIndex kLookup kMapUpdate kMapEntry kEntryStore kRange kNext (fun _ => kNo)
    kTypeAssert kExtract kCall (fun _ => kNo) (fun _ => kNo) kPanic (fun _ _ => kNo) (fun _ _ _ => kNo) (fun _ _ => kNo) o
structure FSt where
  T : Tri AV
  df : List Id
  h : AH
structure FC where
  mu : Nat → Bool
  fn : FuncId
  rd : Option Id
  call : CallF
  n : Nat
  m : Nat
abbrev FR1 := Option (AExit × FSt)
noncomputable def yieldedF (ops : Array Oper) (n : Nat) (T : Tri AV) (j : Nat) : Option Bool :=
  match (ops[j]?).bind (·.dst) with
  | some d => bs (Nat.blt d n) (match gT n T d with | .bool b => some b | _ => none) none
  | none => none
noncomputable def wantedF (ops : Array Oper) (n : Nat) (T : Tri AV) (o : Oper) : Bool :=
  match o.guard with
  | none => true
  | some (j, want) => yieldedF ops n T j == some want
abbrev OpsT := Array Oper → Program → FC → Tri AV → List Id → AH → FR1
noncomputable def fOpsStep (o : Oper) (ih : OpsT) : OpsT := fun ops P c T df h =>
  bs (wantedF ops c.n T o)
    (match selOp o.op P (o.dst.any c.mu) c.call c.n T h with
      | some (.ret v, h') => ih ops P c (pT c.n T o.dst v) df h'
      | some (.pan v, h') => some (.pan v, ⟨T, df, h'⟩)
      | none => none)
    (ih ops P c (pT c.n T o.dst undefA) df h)
noncomputable def fOps (l : List Oper) : OpsT := List.rec (motive := fun _ => OpsT) (fun _ _ _ T df h => some (.normal, ⟨T, df, h⟩)) (fun o _ ih => fOpsStep o ih) l
structure FD where
  T : Tri AV
  h : AH
  E : List EffE
  A : List NewE
noncomputable def newF (P : Program) (n : Nat) (T : Tri AV) (o : Oper) (r : Id) : Option (AV × AO) :=
  match o.op with
  | .alloc elem => match zeroT P elem with | some z => if z.cells.all AV.scalar = true then some (.ptr r 0, .cells z.cells elem) else none | none => none
  | .box elem x => match gA n T x with | some v => if v.cells.all AV.scalar = true then some (.ptr r 0, .cells v.cells elem) else none | none => none
  | .makeSlice t l c =>
    match gA n T l, gA n T c, P.underlying t with
    | some (.int _ l), some (.int _ c), some (.slice elem) =>
      match sizeT P elem, zeroT P elem with
      | some n, some z =>
        if 0 ≤ l ∧ l ≤ c ∧ z.cells.length = n ∧ z.cells.all AV.scalar = true ∧ 0 < n ∧ P.bytesOf elem * c ≤ 140737488355328 ∧ c ≤ 140737488355328 then
          some (.hsl r 0 l.toNat (.known c.toNat), .cells ((List.replicate c.toNat z).flatMap AV.cells) elem)
        else none
      | _, _ => none
    | _, _, _ => none
  | .buildSlice t len parts =>
    match gParts n T parts.toList, P.underlying t with
    | some ps, some (.slice elem) =>
      match sizeT P elem, zeroT P elem with
      | some n, some z =>
        if n = 0 ∨ len * n > 16777216 ∨ z.cells.length ≠ n ∨ z.cells.all AV.scalar = false then none else
        match aFillElems n (List.replicate len z) ps with
        | some xs => some (.hsl r 0 len (.known len), .cells (flat xs) elem)
        | none => none
      | _, _ => none
    | _, _ => none
  | .makeMap _ m => (match m with | none => some (.map r, .map [] 0) | some _ => none)
  | _ => none
abbrev DgT := Array Oper → Program → FC → Tri AV → AH → List EffE → List NewE → Option FD
noncomputable def fDoNew (j : Nat) (o : Oper) (ih : DgT) : DgT := fun ops P c T h E A =>
  match newF P c.n T o h.next with
  | some (v, ob) => ih ops P c (pT c.n T o.dst v) (h.alloc ob) E (A ++ [⟨j, h.next, ob, E.length⟩])
  | none => none
noncomputable def fDoEff (j : Nat) (o : Oper) (ih : DgT) : DgT := fun ops P c T h E A =>
  match selOp o.op P (o.dst.any c.mu) c.call c.n T h with
  | some (.ret v, h') => ih ops P c (pT c.n T o.dst v) h' (E ++ [⟨j, h, h'⟩]) A
  | _ => none
noncomputable def fDoPure (_ : Nat) (o : Oper) (ih : DgT) : DgT := fun ops P c T h E A =>
  match selOp o.op P (o.dst.any c.mu) c.call c.n T h with
  | some (.ret v, _) => ih ops P c (pT c.n T o.dst v) h E A
  | _ => none
noncomputable def fNotEff (j : Nat) (o : Oper) (ih : DgT) : DgT := fun ops P c T h E A => ih ops P c (pT c.n T o.dst undefA) h (E ++ [⟨j, h, h⟩]) A
noncomputable def fNotPure (_ : Nat) (o : Oper) (ih : DgT) : DgT := fun ops P c T h E A => ih ops P c (pT c.n T o.dst undefA) h E A
noncomputable def kndDo (k : Knd) : Nat → Oper → DgT → DgT := Knd.rec (motive := fun _ => Nat → Oper → DgT → DgT) fDoPure fDoPure fDoEff fDoNew k
noncomputable def kndNot (k : Knd) : Nat → Oper → DgT → DgT := Knd.rec (motive := fun _ => Nat → Oper → DgT → DgT) fNotPure fNotPure fNotEff fNotPure k
noncomputable def fDgoStep (j : Nat) (ih : DgT) : DgT := fun ops P c T h E A =>
  match ops[j]? with
  | some o => bs (wantedF ops c.n T o) (kndDo (opKnd P (o.dst.any c.mu) o.op) j o ih ops P c T h E A) (kndNot (opKnd P (o.dst.any c.mu) o.op) j o ih ops P c T h E A)
  | none => none
noncomputable def fDgo (l : List Nat) : DgT := List.rec (motive := fun _ => DgT) (fun _ _ _ T h E A => some ⟨T, h, E, A⟩) (fun j _ ih => fDgoStep j ih) l
noncomputable def slotIsF (n : Nat) (T : Tri AV) (d : Option Tmp) (v : AV) : Bool :=
  match d with
  | none => true
  | some d => bs (Nat.blt d n) (AV.beq v (gT n T d)) true
noncomputable def readChkF (P : Program) (c : FC) (ops : Array Oper) (T : List Nat) (st : FD) (j : Nat) (o : Oper) : Bool :=
  bs (wantedF ops c.n st.T o)
    (match opKnd P (o.dst.any c.mu) o.op with
    | .read => (List.range (st.E.length + 1)).all fun k => !poss T st.E j k ||
        (match selOp o.op P (o.dst.any c.mu) c.call c.n st.T (endH st.E st.h k) with | some (.ret v, _) => slotIsF c.n st.T o.dst v | _ => false)
    | _ => true)
    true
noncomputable def readsChkF (P : Program) (c : FC) (ops : Array Oper) (T : List Nat) (st : FD) : List Nat → Bool
  | [] => true
  | j :: r => (match ops[j]? with | some o => readChkF P c ops T st j o | none => false) && readsChkF P c ops T st r
noncomputable def newChkF (T : List Nat) (st : FD) (a : NewE) : Bool :=
  (List.range (st.E.length + 1)).all fun k => !poss T st.E a.j k || (decide (a.q ≤ k) && (match (endH st.E st.h k).get a.r with | some ob => AO.beq ob a.obj | none => false))
noncomputable def drawnF (ops : Array Oper) (P : Program) (c : FC) (T : Tri AV) (df : List Id) (h : AH) : FR1 :=
  match planOf P c.mu ops with
  | none => none
  | some pl =>
    match fDgo pl.ord ops P c T h [] [] with
    | none => none
    | some st =>
      bs (st.E.isEmpty && st.A.isEmpty || (readsChkF P c ops pl.T st pl.ord && st.A.all (newChkF pl.T st) && newDist st.A)) (some (.normal, ⟨st.T, df, st.h⟩)) none
abbrev CT := Program → FC → Tri AV → List Id → AH → FR1
noncomputable def fSeq (a b : CT) : CT := fun P c T df h =>
  match a P c T df h with
  | some (.normal, ⟨T', df', h'⟩) => b P c T' df' h'
  | r => r
noncomputable def fCond (o : Operand) (t e : CT) : CT := fun P c T df h =>
  match gA c.n T o with
  | some (.bool b) => bs b (t P c T df h) (e P c T df h)
  | _ => none
noncomputable def fBlock (id : Nat) (b : CT) : CT := fun P c T df h =>
  match b P c T df h with
  | some (.exit i, s) => bs (Nat.beq i id) (some (.normal, s)) (some (.exit i, s))
  | r => r
noncomputable def fIter (b : CT) (m : Nat) : CT :=
  Nat.rec (motive := fun _ => CT) (fun _ _ _ _ _ => none)
    (fun _ ih P c T df h => match b P c T df h with | some (.normal, ⟨T', df', h'⟩) => ih P c T' df' h' | r => r) m
noncomputable def fLoop (b : CT) : CT := fun P c T df h => fIter b c.m P c T df h
noncomputable def toL (n : Nat) (T : Tri AV) : List AV := (List.range n).map (gT n T)
noncomputable def ofLFrom (l : List AV) : Nat → Tri AV → Tri AV := List.rec (motive := fun _ => Nat → Tri AV → Tri AV) (fun _ T => T) (fun v _ ih i T => ih (i + 1) (triSet (idN i) T v)) l
noncomputable def ofL (l : List AV) : Tri AV := ofLFrom l 0 .e
noncomputable def fRange (f : Operand) (ps : Array Tmp) (assign body : Code) : CT := fun P c T df h =>
  match evRangeFunc ⟨P, fun _ => c.mu, c.call⟩ c.fn c.rd f ps assign body ⟨toL c.n T, df, h⟩ with
  | some (x, s) => some (x, ⟨ofL s.tm, s.df, s.h⟩)
  | none => none
noncomputable def fRegion (ops : Array Oper) (draw : Bool) : CT := fun P c T df h => bs draw (drawnF ops P c T df h) (fOps ops.toList ops P c T df h)
noncomputable def fCode (c : Code) : CT :=
  Code.rec (motive := fun _ => CT) (fun _ _ T df h => some (.normal, ⟨T, df, h⟩)) (fun _ ops draw => fRegion ops draw) (fun _ _ a b => fSeq a b) (fun o _ _ t e => fCond o t e) (fun id _ b => fBlock id b)
    (fun _ b => fLoop b) (fun f ps a b _ _ => fRange f ps a b) (fun id _ _ T df h => some (.exit id, ⟨T, df, h⟩)) (fun _ b => b) (fun _ _ _ T df h => some (.normal, ⟨T, df, h⟩)) (fun _ _ _ _ _ _ => none)
    (fun _ _ T df h => some (.ret, ⟨T, df, h⟩)) (fun _ _ _ _ _ _ => none) c
noncomputable def resF (P : Program) (n : Nat) (T : Tri AV) (h : AH) (r : ResultVar) : Option AV :=
  ResultVar.rec (motive := fun _ => Option AV) (fun t => some (gT n T t)) (fun a t => aLoad P t (gT n T a) h) r
noncomputable def ressF (P : Program) (n : Nat) (T : Tri AV) (h : AH) (l : List ResultVar) : Option (List AV) :=
  List.rec (motive := fun _ => Option (List AV)) (some []) (fun r _ ih => match resF P n T h r, ih with | some v, some l => some (v :: l) | _, _ => none) l
noncomputable def leaveF (P : Program) (fn : Func) (n : Nat) (r : FR1) : Option (AOut × AH) :=
  match r with
  | some (x, ⟨T, df, h⟩) =>
    match x with
    | .normal | .ret =>
      match takeDefs df h with
      | some h => match ressF P n T h fn.results.toList with | some l => some (.ret (oneOrTup l), h) | none => none
      | none => none
    | .pan v => match takeDefs df h with | some h => some (.pan v, h) | none => none
    | _ => none
  | none => none
noncomputable def callBody (P : Program) (mu : FuncId → Nat → Bool) (hk : Hooks) (n : Nat) (ih : CallF) (f : FuncId) (args : List AV) (h : AH) : Option (AOut × AH) :=
  match hk f args h with
  | some r => some (.ret r.1, r.2)
  | none =>
  match P.funcs[f]? with
  | none => none
  | some fn =>
    match fn.body with
    | none => none
    | some c =>
      leaveF P fn (args.length + (fn.ntmps - args.length)) (fCode c P ⟨mu f, f, none, ih, args.length + (fn.ntmps - args.length), n⟩ (ofL args) [] h)
noncomputable def yieldBody (P : Program) (mu : FuncId → Nat → Bool) (n : Nat) (ih : CallF) (l : Id) (args : List AV) (h : AH) : Option (AOut × AH) :=
  match h.get l with
  | some (.loop _ _ fn tm ps assign body _) =>
    if args.length ≠ ps.size then none else
    match fCode assign P ⟨mu fn, fn, some l, ih, tm.length, n⟩ (ofL (setTmps tm ps.toList args)) [] h with
    | some (.normal, ⟨T, df, h1⟩) =>
      match aSetLoop l (fun st pd => match st with | .ready => some (.busy, pd) | _ => none) h1 with
      | some h2 => if df.isEmpty then
          (match fCode body P ⟨mu fn, fn, some l, ih, tm.length, n⟩ T [] h2 with
          | some (x, ⟨T', df', h3⟩) => endRoundA l (some (x, ⟨toL tm.length T', df', h3⟩))
          | none => none)
        else none
      | none => none
    | _ => none
  | _ => none
noncomputable def fCallH (P : Program) (mu : FuncId → Nat → Bool) (hk : Hooks) (n : Nat) : CallF :=
  Nat.rec (motive := fun _ => CallF) (fun _ _ _ => none)
    (fun n ih fn args h => AFn.rec (motive := fun _ => Option (AOut × AH)) (fun f => callBody P mu hk n ih f args h) (fun l => yieldBody P mu n ih l args h) fn) n
end Go.Sk

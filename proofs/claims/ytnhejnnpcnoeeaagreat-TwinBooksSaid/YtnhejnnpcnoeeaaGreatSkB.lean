/-
  The evaluator, second part: operations, regions, code, calls.
-/
import Derived.Test.YtnhejnnpcnoeeaaGreatSkA
namespace Go.Sk
inductive AOut where
  | ret (v : AV)
  | pan (v : AV)
structure Cx where
  P : Program
  mu : FuncId → Nat → Bool
  call : AFn → List AV → AH → Option (AOut × AH)
def aEval (tm : List AV) : Operand → Option AV
  | .tmp t => some (tm.getD t undefA)
  | .const v => ofConst v
  | .global _ => none
  | .func f => some (.fn (.func f) [] [])
def aLoad (P : Program) (t : TypeId) (p : AV) (h : AH) : Option AV :=
  match p with
  | .ptr r off =>
    match h.get r, isAggT P t, sizeT P t with
    | some (.cells cs _), some true, some n => if off + n ≤ cs.length then some (.agg ((cs.drop off).take n)) else none
    | some (.cells cs _), some false, some _ => cs[off]?
    | _, _, _ => none
  | .ref v =>
    match isAggT P t, sizeT P t, v with
    | some true, some n, .agg cs => if cs.length = n then some (.agg cs) else none
    | some false, some _, .agg _ => none
    | some false, some _, v => some v
    | _, _, _ => none
  | _ => none
def setCells {α : Type} : List α → Nat → List α → List α
  | cs, _, [] => cs
  | cs, off, v :: vs => setCells (cs.set off v) (off + 1) vs
def AV.scalar : AV → Bool
  | .agg _ => false
  | .tup _ => false
  | _ => true
def aStore (P : Program) (t : TypeId) (p v : AV) (h : AH) : Option AH :=
  match p with
  | .ptr r off =>
    match h.get r, sizeT P t with
    | some (.cells cs T), some n => if v.cells.length = n ∧ off + n ≤ cs.length ∧ v.cells.all AV.scalar = true then some (h.set r (.cells (setCells cs off v.cells) T)) else none
    | _, _ => none
  | _ => none
def aNew (elem : TypeId) (v : AV) (h : AH) : Option (AV × AH) := if v.cells.all AV.scalar = true then some (.ptr h.next 0, h.alloc (.cells v.cells elem)) else none
def aElems (P : Program) (elem : TypeId) (x : AV) (h : AH) : Option (List AV) :=
  match x with
  | .nilsl => some []
  | .vsl xs _ => some xs
  | .hsl r off len _ =>
    match h.get r, isAggT P elem, sizeT P elem with
    | some (.cells cs _), some true, some n => if off + len * n ≤ cs.length then some ((List.range len).map fun i => .agg ((cs.drop (off + i * n)).take n)) else none
    | some (.cells cs _), some false, some 1 => if off + len ≤ cs.length then some ((cs.drop off).take len) else none
    | _, _, _ => none
  | .str l => some (l.map fun b => .int .u8 b.toNat)
  | _ => none
def aFill (place : Nat → Option (Nat × Nat)) (cells : List AV) : List (Nat × AV) → Option (List AV)
  | [] => some cells
  | (i, v) :: rest =>
    match place i with
    | none => none
    | some (off, size) =>
      if v.cells.length ≠ size || off + v.cells.length > cells.length then none
      else aFill place (setCells cells off v.cells) rest
def aPlaces (P : Program) (fs : Array Field) : Option (List (Nat × Nat)) := fs.toList.mapM fun f => (sizeT P f.type).map fun n => (f.offset, n)
def aBuild (P : Program) (t : TypeId) (parts : List (Nat × AV)) : Option AV :=
  match zeroT P t, P.underlying t with
  | some z, some (.struct fs) =>
    match aPlaces P fs with
    | some pl => (aFill (pl[·]?) z.cells parts).map .agg
    | none => none
  | some z, some (.array _ elem) =>
    match sizeT P elem with
    | some n => (aFill (fun i => some (i * n, n)) z.cells parts).map .agg
    | none => none
  | _, _ => none
def aFillElems (n : Nat) (xs : List AV) : List (Nat × AV) → Option (List AV)
  | [] => some xs
  | (i, v) :: rest => if v.cells.length = n ∧ i < xs.length ∧ v.cells.all AV.scalar = true then aFillElems n (xs.set i v) rest else none
def flat (xs : List AV) : List AV := xs.flatMap AV.cells
def aBuildSlice (P : Program) (mu : Bool) (t : TypeId) (len : Nat) (parts : List (Nat × AV)) (h : AH) : Option (AV × AH) :=
  match P.underlying t with
  | some (.slice elem) =>
    match sizeT P elem, zeroT P elem with
    | some n, some z =>
      if n = 0 ∨ len * n > 16777216 ∨ z.cells.length ≠ n ∨ z.cells.all AV.scalar = false then none else
      match aFillElems n (List.replicate len z) parts with
      | some xs => if mu then some (.hsl h.next 0 len (.known len), h.alloc (.cells (flat xs) elem)) else some (.vsl xs .lit, h)
      | none => none
    | _, _ => none
  | _ => none
def aMakeSlice (P : Program) (t : TypeId) (l c : AV) (h : AH) : Option (AV × AH) :=
  match P.underlying t, l, c with
  | some (.slice elem), .int _ l, .int _ c =>
    match sizeT P elem, zeroT P elem with
    | some n, some z =>
      if 0 ≤ l ∧ l ≤ c ∧ z.cells.length = n ∧ z.cells.all AV.scalar = true ∧ 0 < n ∧ P.bytesOf elem * c ≤ 140737488355328 ∧ c ≤ 140737488355328 then
        some (.hsl h.next 0 l.toNat (.known c.toNat), h.alloc (.cells ((List.replicate c.toNat z).flatMap AV.cells) elem))
      else none
    | _, _ => none
  | _, _, _ => none
def headOk (n : Nat) : List AV → Bool
  | [] => true
  | y :: _ => y.cells.length == n
def aAppend (P : Program) (mu : Bool) (argTypes : Array TypeId) (s x : AV) (h : AH) : Option (AV × AH) :=
  match argTypes[0]?, argTypes[1]? with
  | some t, some tx =>
    match P.underlying t, P.underlying tx with
    | _, some (.int _) => none
    | some (.slice elem), some _ =>
      match aElems P elem x h, sizeT P elem, zeroT P elem with
      | some ys, some n, some z =>
        if n = 0 ∨ headOk n ys = false ∨ z.cells.length ≠ n ∨ z.cells.all AV.scalar = false then none else
        match s with
        | .nilsl =>
          if ys.length = 0 then some (.nilsl, h)
          else if ys.length * P.bytesOf elem > 140737488355328 ∨ ys.length > 140737488355328 then none
          else if mu then some (.hsl h.next 0 ys.length (.room n), h.alloc (.cells (flat ys) elem))
          else some (.vsl ys (.own h.next ys.length), h.alloc (.grp ys.length))
        | .vsl xs c =>
          if ys.length = 0 then some (s, h)
          else if (xs.length + ys.length) * P.bytesOf elem > 140737488355328 ∨ xs.length + ys.length > 140737488355328 ∨ headOk n xs = false then none
          else match c with
            | .own g e =>
              match h.get g with
              | some (.grp e') => if e = e' ∧ xs.length ≠ 0 then some (.vsl (xs ++ ys) (.own g (e + ys.length)), h.set g (.grp (e + ys.length))) else none
              | _ => none
            | .unk => none
            | .pat _ _ => none
            | _ =>
              if mu then some (.hsl h.next 0 (xs.length + ys.length) (.room n), h.alloc (.cells (flat (xs ++ ys)) elem))
              else some (.vsl (xs ++ ys) (.own h.next (xs.length + ys.length)), h.alloc (.grp (xs.length + ys.length)))
        | .hsl r off len (.known cap) =>
          if ys.length = 0 then some (s, h)
          else if (len + ys.length) * P.bytesOf elem > 140737488355328 ∨ len + ys.length > 140737488355328 then none
          else match h.get r with
            | some (.cells cs T) =>
              if off + cap * n > cs.length then none
              else if len + ys.length ≤ cap then some (.hsl r off (len + ys.length) (.known cap), h.set r (.cells (setCells cs (off + len * n) (flat ys)) T))
              else if mu then some (.hsl h.next 0 (len + ys.length) (.room n), h.alloc (.cells ((cs.drop off).take (len * n) ++ flat ys) elem))
              else match aElems P elem s h with
                | some xs => if headOk n xs = true ∧ xs.length = len then some (.vsl (xs ++ ys) (.own h.next (len + ys.length)), h.alloc (.grp (len + ys.length))) else none
                | none => none
            | _ => none
        | .hsl r off len (.room rs) =>
          if ys.length = 0 then some (s, h)
          else if (len + ys.length) * P.bytesOf elem > 140737488355328 ∨ len + ys.length > 140737488355328 then none
          else match h.get r with
            | some (.cells cs T) =>
              if len * n ≤ cs.length ∧ off = 0 ∧ rs = n ∧ T = elem then some (.hsl h.next 0 (len + ys.length) (.room n), (h.set r .dead).alloc (.cells (cs.take (len * n) ++ flat ys) T))
              else none
            | _ => none
        | _ => none
      | _, _, _ => none
    | _, _ => none
  | _, _ => none
def aLen (P : Program) (t : TypeId) (x : AV) (h : AH) : Option AV :=
  match P.underlying t, x with
  | some .string, .str l => some (.int .i64 l.length)
  | some (.array n _), _ => some (.int .i64 n)
  | some (.slice _), .nilsl => some (.int .i64 0)
  | some (.slice _), .vsl xs _ => some (.int .i64 xs.length)
  | some (.slice _), .hsl _ _ n _ => some (.int .i64 n)
  | some (.map _ _), .nilmap => some (.int .i64 0)
  | some (.map _ _), .map r => match h.get r with | some (.map es _) => some (.int .i64 es.length) | _ => none
  | _, _ => none
def aCap (P : Program) (t : TypeId) (x : AV) : Option AV :=
  match P.underlying t, x with
  | some (.slice _), .nilsl => some (.int .i64 0)
  | some (.slice _), .vsl xs .lit => some (.int .i64 xs.length)
  | some (.slice _), .vsl xs .full => some (.int .i64 xs.length)
  | some (.slice _), .hsl _ _ _ (.known c) => some (.int .i64 c)
  | _, _ => none
def aCopy (P : Program) (argTypes : Array TypeId) (d x : AV) (h : AH) : Option (AV × AH) :=
  match argTypes[0]? with
  | some t =>
    match P.underlying t with
    | some (.slice elem) =>
      match aElems P elem x h, sizeT P elem, d with
      | some ys, some n, .nilsl => if n = 0 ∨ headOk n ys = false then none else some (.int .i64 0, h)
      | some ys, some n, .hsl r off len _ =>
        match h.get r with
        | some (.cells cs T) =>
          let m := Nat.min ys.length len
          if n = 0 ∨ headOk n ys = false ∨ off + len * n > cs.length then none
          else some (.int .i64 m, h.set r (.cells (setCells cs off (flat (ys.take m))) T))
        | _ => none
      | _, _, _ => none
    | _ => none
  | none => none
def aMax2 : AV → AV → Option AV
  | .int k x, .int _ y => some (.int k (if y > x then y else x))
  | _, _ => none
def aMin2 : AV → AV → Option AV
  | .int k x, .int _ y => some (.int k (if y < x then y else x))
  | _, _ => none
def aFold (f : AV → AV → Option AV) : AV → List AV → Option AV
  | x, [] => some x
  | x, y :: r => match f x y with | some z => aFold f z r | none => none
def aEntries (m : AV) (h : AH) : Option (List (AV × AV × Nat)) :=
  match m with
  | .nilmap => some []
  | .map r => match h.get r with | some (.map es _) => some es | _ => none
  | _ => none
def aLookup (P : Program) (t : TypeId) (m k : AV) (commaOk : Bool) (h : AH) : Option AV :=
  match P.underlying t with
  | some (.map kt et) =>
    match aEntries m h with
    | some es =>
      match aFindKey P kt k es with
      | some (some (_, v, _)) => some (if commaOk then .tup [v, .bool true] else v)
      | some none => (zeroT P et).map fun z => if commaOk then .tup [z, .bool false] else z
      | none => none
    | none => none
  | _ => none
def setNth {α : Type} : List α → Nat → (α → α) → List α
  | [], _, _ => []
  | a :: l, 0, f => f a :: l
  | a :: l, n + 1, f => a :: setNth l n f
def aMapUpdate (P : Program) (t : TypeId) (m k v : AV) (h : AH) : Option AH :=
  match P.underlying t, m with
  | some (.map kt _), .map r =>
    match h.get r with
    | some (.map es clock) =>
      match aFindKey P kt k es with
      | some (some (i, _, _)) => some (h.set r (.map (setNth es i fun e => (k, v, e.2.2)) clock))
      | some none => some (h.set r (.map (es ++ [(k, v, clock)]) (clock + 1)))
      | none => none
    | _ => none
  | _, _ => none
def aMapEntry (P : Program) (t : TypeId) (m k : AV) (h : AH) : Option (AV × AH) :=
  match P.underlying t, m with
  | some (.map kt et), .map r =>
    match h.get r with
    | some (.map es clock) =>
      match aFindKey P kt k es with
      | some (some (i, v, b)) => some (.tup [v, .int .i64 b], h.set r (.map (setNth es i fun e => (k, e.2.1, e.2.2)) clock))
      | some none => (zeroT P et).map fun z => (.tup [z, .int .i64 clock], h.set r (.map (es ++ [(k, z, clock)]) (clock + 1)))
      | none => none
    | _ => none
  | _, _ => none
def stampAt (b : Int) : List (AV × AV × Nat) → Nat → Option Nat
  | [], _ => none
  | e :: es, i => if (e.2.2 : Int) = b then some i else stampAt b es (i + 1)
def aEntryStore (m stamp v : AV) (h : AH) : Option AH :=
  match m, stamp with
  | .map r, .int _ b =>
    match h.get r with
    | some (.map es clock) =>
      match stampAt b es 0 with
      | some i => some (h.set r (.map (setNth es i fun e => (e.1, v, e.2.2)) clock))
      | none => none
    | _ => none
  | _, _ => none
def aDelete (P : Program) (argTypes : Array TypeId) (m k : AV) (h : AH) : Option AH :=
  match argTypes[0]? with
  | some t =>
    match P.underlying t with
    | some (.map kt _) =>
      match m with
      | .nilmap => if aKeyOk P 10000 kt k then some h else none
      | .map r =>
        match h.get r with
        | some (.map es clock) =>
          match aFindKey P kt k es with
          | some (some (i, _, _)) => some (h.set r (.map (es.eraseIdx i) clock))
          | some none => some h
          | none => none
        | _ => none
      | _ => none
    | _ => none
  | none => none
def aBound (v : AV) (y : Nat) : Option Nat :=
  match v with
  | .int _ i => if 0 ≤ i ∧ i ≤ (y : Int) then some i.toNat else none
  | _ => none
def aOptBound (v : Option AV) (y d : Nat) : Option Nat :=
  match v with
  | some v => aBound v y
  | none => some d
def aBounds (len cap : Nat) (lo hi mx : Option AV) : Option (Nat × Nat × Nat) :=
  if hi.isNone && mx.isSome then none else
  (aOptBound mx cap cap).bind fun m => (aOptBound hi m len).bind fun h => (aOptBound lo h 0).bind fun l => some (l, h, m)
def aPatSlice (P : Program) (elem : TypeId) (xs : List AV) (c : Cap) (lo hi mx : Option AV) : Option AV :=
  match c, lo, mx, hi with
  | .pat k m, none, none, some (.int ki i) =>
    match aBound (.int ki i) (xs.length + m) with
    | some h => if xs.length < h ∧ sizeT P elem = some (patN k) ∧ xs.all (fun v => v.cells.length == patN k) = true then some (.vsl (xs ++ patL k xs.length (h - xs.length)) (.pat k (xs.length + m - h))) else none
    | none => none
  | _, _, _, _ => none
def aSlice (P : Program) (t : TypeId) (x : AV) (lo hi mx : Option AV) : Option AV :=
  match P.underlying t, x with
  | some (.array n elem), .ptr r off =>
    match aBounds n n lo hi mx, sizeT P elem with
    | some (l, h, m), some s => some (.hsl r (if m = l then off else off + l * s) (h - l) (.known (m - l)))
    | _, _ => none
  | some .string, .str s =>
    match mx with
    | some _ => none
    | none => match aBounds s.length s.length lo hi none with
      | some (l, h, _) => some (.str ((s.take h).drop l))
      | none => none
  | some (.slice elem), .nilsl =>
    match aBounds 0 0 lo hi mx, sizeT P elem with
    | some _, some _ => some .nilsl
    | _, _ => none
  | some (.slice elem), .vsl xs c =>
    -- the room is at least the length: what passes within the length passes
    match aBounds xs.length xs.length lo hi mx, sizeT P elem with
    | some (l, h, m), some s =>
      if l ≠ 0 ∧ headOk s xs = false then none else
      let ys := (xs.take h).drop l
      match mx, c with
      | some _, _ => some (.vsl ys (if h = m then .full else .unk))
      | none, .lit => some (.vsl ys (if h = xs.length then .full else .unk))
      | none, .full => some (.vsl ys (if h = xs.length then .full else .unk))
      | none, .own g e => some (.vsl ys (if h = xs.length then .own g e else .unk))
      | none, .unk => some (.vsl ys .unk)
      | none, .pat _ _ => some (.vsl ys .unk)
    | _, _ => aPatSlice P elem xs c lo hi mx
  | some (.slice elem), .hsl r off len (.known cap) =>
    match aBounds len cap lo hi mx, sizeT P elem with
    | some (l, h, m), some s => some (.hsl r (if m = l then off else off + l * s) (h - l) (.known (m - l)))
    | _, _ => none
  | some (.slice elem), .hsl r off len c =>
    match mx with
    | some _ =>
      match aBounds len len lo hi mx, sizeT P elem with
      | some (l, h, m), some s => some (.hsl r (if m = l then off else off + l * s) (h - l) (.known (m - l)))
      | _, _ => none
    | none =>
      match aBounds len len lo hi none, sizeT P elem with
      | some (l, h, _), some s => if l = 0 ∨ l < len then some (.hsl r (off + l * s) (h - l) (if c = .room s then c else .unk)) else some (.vsl [] .unk)
      | _, _ => none
  | _, _ => none
def aRefPart (P : Program) (t : TypeId) (cs : List AV) (off : Nat) : Option AV :=
  match isAggT P t with
  | some true => (sizeT P t).map fun n => .ref (.agg ((cs.drop off).take n))
  | some false => match cs[off]? with
    | some (.agg _) => none
    | some u => some (.ref u)
    | none => none
  | none => none
def aFieldAddr (P : Program) (s : TypeId) (x : AV) (i : Nat) : Option AV :=
  match P.underlying s with
  | some (.struct fs) =>
    match fs[i]? with
    | some f =>
      match sizeT P f.type, x with
      | some n, .ptr r off => if n = 0 then none else some (.ptr r (off + f.offset))
      | some n, .ref v => if n = 0 then none else aRefPart P f.type v.cells f.offset
      | _, _ => none
    | none => none
  | _ => none
def aField (P : Program) (t : TypeId) (x : AV) (i : Nat) : Option AV :=
  match P.underlying t, x with
  | some (.struct fs), .agg cs => match fs[i]? with | some f => aPart P f.type cs f.offset | none => none
  | _, _ => none
def aIndexAddr (P : Program) (t : TypeId) (x ix : AV) : Option AV :=
  match P.underlying t, ix with
  | some (.array len elem), .int _ i =>
    match sizeT P elem with
    | some s =>
      if 0 ≤ i ∧ i < (len : Int) then
        match x with
        | .ptr r off => some (.ptr r (off + i.toNat * s))
        | .ref v => aRefPart P elem v.cells (i.toNat * s)
        | _ => none
      else none
    | none => none
  | some (.slice elem), .int _ i =>
    match sizeT P elem with
    | some s =>
      match x with
      | .vsl xs _ => if 0 ≤ i ∧ i < (xs.length : Int) then match xs[i.toNat]? with | some v => if v.cells.length = s then some (.ref v) else none | none => none else none
      | .hsl r off len _ => if 0 ≤ i ∧ i < (len : Int) then some (.ptr r (off + i.toNat * s)) else none
      | _ => none
    | none => none
  | _, _ => none
def aIndex (P : Program) (t : TypeId) (x ix : AV) : Option AV :=
  match P.underlying t, x, ix with
  | some (.array len elem), .agg cs, .int _ i =>
    if 0 ≤ i ∧ i < (len : Int) then match sizeT P elem with | some s => aPart P elem cs (i.toNat * s) | none => none else none
  | some .string, .str s, .int _ i => if 0 ≤ i then match s[i.toNat]? with | some b => some (.int .u8 b.toNat) | none => none else none
  | _, _, _ => none
def aBytes : List AV → Option (List UInt8)
  | [] => some []
  | .int .u8 n :: r => (aBytes r).map (UInt8.ofNat n.toNat :: ·)
  | _ => none
def aConvert (P : Program) (src dst : TypeId) (x : AV) (h : AH) : Option (AV × AH) :=
  match P.underlying src, P.underlying dst, x with
  | some _, some (.int k), .int _ n => some (.int k (k.wrap n), h)
  | some _, some .string, .int _ n => some (.str (Utf8.encode n).data.toList, h)
  | some _, some .string, .str s => some (.str s, h)
  | some _, some (.slice e), .str s =>
    match P.underlying e with
    | some (.int .u8) => if s.length > 140737488355328 then none else some (.vsl (s.map fun b => .int .u8 b.toNat) (.own h.next s.length), h.alloc (.grp s.length))
    | _ => none
  | some (.slice _), some (.slice e), .hsl r off len cap =>
    match P.underlying e, h.get r with
    | some (.int .u8), some (.cells _ _) => if src = dst then some (.hsl r off len cap, h) else none
    | _, _ => none
  | some (.slice e), some .string, x =>
    match P.underlying e, sizeT P e with
    | some (.int .u8), some 1 => match aElems P e x h with | some xs => (aBytes xs).map fun s => (.str s, h) | none => none
    | _, _ => none
  | _, _, _ => none
def decodeA (s : List UInt8) (i : Nat) : Nat × Nat := Utf8.decode ⟨⟨s⟩⟩ i
def aRange (P : Program) (t : TypeId) (x : AV) (h : AH) : Option (AV × AH) :=
  match P.underlying t, x with
  | some .string, .str s => some (.ptr h.next 0, h.alloc (.siter s 0))
  | some (.map _ _), .nilmap => some (.ptr h.next 0, h.alloc (.miter none 0 [] 0))
  | some (.map _ _), .map r => match h.get r with | some (.map _ clock) => some (.ptr h.next 0, h.alloc (.miter (some r) clock [] clock)) | _ => none
  | _, _ => none
def aNext (it : AV) (isString : Bool) (h : AH) : Option (AV × AH) :=
  match it, isString with
  | .ptr r 0, true =>
    match h.get r with
    | some (.siter s pos) =>
      if pos < s.length then
        let cw := decodeA s pos
        some (.tup [.bool true, .int .i64 pos, .int .i32 cw.1], h.set r (.siter s (pos + cw.2)))
      else some (.tup [.bool false], h)
    | _ => none
  | .ptr r 0, false =>
    match h.get r with
    | some (.miter none _ _ _) => some (.tup [.bool false], h)
    | some (.miter (some m) since seen last) =>
      match h.get m with
      | some (.map es clock) =>
        if !seen.isEmpty && !es.isEmpty && es.all (fun e => e.2.2 ≥ last) then none else
        let left := es.filter fun e => !seen.contains e.2.2
        let old := left.filter fun e => e.2.2 < since
        let new := left.filter fun e => e.2.2 ≥ since
        match old, new with
        | [], [] => some (.tup [.bool false], h)
        | [e], [] => some (.tup [.bool true, e.1, e.2.1], h.set r (.miter (some m) since (seen ++ [e.2.2]) clock))
        | _, _ => none
      | _ => none
    | _ => none
  | _, _ => none
def aTypeAssert (P : Program) (x : AV) (asserted : TypeId) (commaOk : Bool) : Option AV :=
  match P.underlying asserted, x with
  | some (.interface _), .niliface => if commaOk then (zeroT P asserted).map fun z => .tup [z, .bool false] else none
  | some (.interface want), .iface t v =>
    match P.info? t with
    | some i =>
      match Instr.missingMethod want i.methods with
      | none => some (if commaOk then .tup [.iface t v, .bool true] else .iface t v)
      | some _ => if commaOk then (zeroT P asserted).map fun z => .tup [z, .bool false] else none
    | none => none
  | some _, .niliface => if commaOk then (zeroT P asserted).map fun z => .tup [z, .bool false] else none
  | some _, .iface t v =>
    if t = asserted then some (if commaOk then .tup [v, .bool true] else v)
    else if commaOk then (zeroT P asserted).map fun z => .tup [z, .bool false] else none
  | _, _ => none
def vOf (h : AH) : Option AV → Option (AOut × AH)
  | some v => some (.ret v, h)
  | none => none
def vhOf : Option (AV × AH) → Option (AOut × AH)
  | some (v, h) => some (.ret v, h)
  | none => none
def hOf : Option AH → Option (AOut × AH)
  | some h => some (.ret undefA, h)
  | none => none
def evalAll (tm : List AV) : List Operand → Option (List AV)
  | [] => some []
  | o :: r => match aEval tm o, evalAll tm r with | some v, some l => some (v :: l) | _, _ => none
def evalParts (tm : List AV) : List (Nat × Operand) → Option (List (Nat × AV))
  | [] => some []
  | (i, o) :: r => match aEval tm o, evalParts tm r with | some v, some l => some ((i, v) :: l) | _, _ => none
def evalOpt (tm : List AV) : Option Operand → Option (Option AV)
  | none => some none
  | some o => (aEval tm o).map some
def aBuiltin (X : Cx) (mu : Bool) (b : Builtin) (argTypes : Array TypeId) (args : List AV) (h : AH) : Option (AOut × AH) :=
  match b, args with
  | .append, [s, x] => vhOf (aAppend X.P mu argTypes s x h)
  | .len, [x] => match argTypes[0]? with | some t => vOf h (aLen X.P t x h) | none => none
  | .cap, [x] => match argTypes[0]? with | some t => vOf h (aCap X.P t x) | none => none
  | .copy, [d, x] => vhOf (aCopy X.P argTypes d x h)
  | .delete, [m, k] => hOf (aDelete X.P argTypes m k h)
  | .max, x :: r => vOf h (aFold aMax2 x r)
  | .min, x :: r => vOf h (aFold aMin2 x r)
  | .panic, [.iface t v] => some (.pan (.iface t v), h)
  | _, _ => none
def aCall (X : Cx) (mu : Bool) (tm : List AV) (c : Call) (h : AH) : Option (AOut × AH) :=
  match evalAll tm c.args.toList with
  | none => none
  | some args =>
    match c.callee with
    | .builtin b => aBuiltin X mu b c.argTypes args h
    | .value f =>
      match aEval tm f with
      | some (.fn (.func k) first captured) => X.call (.func k) (first ++ args ++ captured) h
      | some (.fn (.yield l) first captured) => if captured.isEmpty then X.call (.yield l) (first ++ args) h else none
      | _ => none
    | .invoke _ _ => none
def evOp (X : Cx) (fn : FuncId) (tm : List AV) (o : Oper) (h : AH) : Option (AOut × AH) :=
  let P := X.P
  match o.op with
  | .move x | .assign x => vOf h (aEval tm x)
  | .pick c a b => match aEval tm c with | some (.bool true) => vOf h (aEval tm a) | some (.bool false) => vOf h (aEval tm b) | _ => none
  | .alloc elem => match zeroT P elem with | some z => vhOf (aNew elem z h) | none => none
  | .box elem x => match aEval tm x with | some v => vhOf (aNew elem v h) | none => none
  | .build t parts => match evalParts tm parts.toList with | some l => vOf h (aBuild P t l) | none => none
  | .buildSlice t len parts => match evalParts tm parts.toList with | some l => vhOf (aBuildSlice P (o.dst.any (X.mu fn)) t len l h) | none => none
  | .load t a => match aEval tm a with | some p => vOf h (aLoad P t p h) | none => none
  | .store t a x => match aEval tm a, aEval tm x with | some p, some v => hOf (aStore P t p v h) | _, _ => none
  | .nilCheck x => match aEval tm x with | some (.ptr r off) => some (.ret (.ptr r off), h) | some (.ref v) => some (.ret (.ref v), h) | some (.fn f a b) => some (.ret (.fn f a b), h) | _ => none
  | .binOp op t x y _ => match aEval tm x, aEval tm y with | some a, some b => vOf h (aBinOp P op t x y a b) | _, _ => none
  | .unOp op _ x => match aEval tm x with | some a => vOf h (aUnOp op a) | none => none
  | .convert src dst x => match aEval tm x with | some a => vhOf (aConvert P src dst a h) | none => none
  | .makeInterface t x => match P.underlying t, aEval tm x with | some (.interface _), _ => none | some _, some v => some (.ret (.iface t v), h) | _, _ => none
  | .makeFunc (.func k) first captured => match evalAll tm first.toList, evalAll tm captured.toList with | some a, some b => some (.ret (.fn (.func k) a b), h) | _, _ => none
  | .makeMap t r =>
    match r with
    | none => some (.ret (.map h.next), h.alloc (.map [] 0))
    | some x => match P.underlying t, aEval tm x with | some (.map _ _), some (.int _ _) => some (.ret (.map h.next), h.alloc (.map [] 0)) | _, _ => none
  | .makeSlice t l c => match aEval tm l, aEval tm c with | some a, some b => vhOf (aMakeSlice P t a b h) | _, _ => none
  | .slice t x lo hi mx => match aEval tm x, evalOpt tm lo, evalOpt tm hi, evalOpt tm mx with | some v, some a, some b, some c => vOf h (aSlice P t v a b c) | _, _, _, _ => none
  | .fieldAddr s x f => match aEval tm x with | some v => vOf h (aFieldAddr P s v f) | none => none
  | .field t x f => match aEval tm x with | some v => vOf h (aField P t v f) | none => none
  | .indexAddr t x ix => match aEval tm x, aEval tm ix with | some a, some b => vOf h (aIndexAddr P t a b) | _, _ => none
  | .index t x ix => match aEval tm x, aEval tm ix with | some a, some b => vOf h (aIndex P t a b) | _, _ => none
  | .lookup t x ix ok => match aEval tm x, aEval tm ix with | some a, some b => vOf h (aLookup P t a b ok h) | _, _ => none
  | .mapUpdate t m k x | .insert t m k x => match aEval tm m, aEval tm k, aEval tm x with | some a, some b, some c => hOf (aMapUpdate P t a b c h) | _, _, _ => none
  | .mapEntry t m k => match aEval tm m, aEval tm k with | some a, some b => vhOf (aMapEntry P t a b h) | _, _ => none
  | .entryStore _ m s x => match aEval tm m, aEval tm s, aEval tm x with | some a, some b, some c => hOf (aEntryStore a b c h) | _, _, _ => none
  | .range t x => match aEval tm x with | some v => vhOf (aRange P t v h) | none => none
  | .next it s => match aEval tm it with | some v => vhOf (aNext v s h) | none => none
  | .typeAssert x _ asserted ok => match aEval tm x with | some v => vOf h (aTypeAssert P v asserted ok) | none => none
  | .extract t ix => match aEval tm t with | some (.tup vs) => vOf h vs[ix]? | _ => none
  | .call c => aCall X (o.dst.any (X.mu fn)) tm c h
  | .panic x => match aEval tm x with | some (.iface t v) => some (.pan (.iface t v), h) | _ => none
  | _ => none
structure ASt where
  tm : List AV
  df : List Id
  h : AH
inductive AExit where
  | normal
  | exit (id : Nat)
  | ret
  | pan (v : AV)
def putA (tm : List AV) (d : Option Tmp) (v : AV) : List AV :=
  match d with
  | some d => tm.set d v
  | none => tm
def yieldedA (ops : Array Oper) (tm : List AV) (j : Nat) : Option Bool :=
  match (ops[j]?).bind (·.dst) with
  | some d => match tm[d]? with | some (.bool b) => some b | _ => none
  | none => none
def wantedA (ops : Array Oper) (tm : List AV) (o : Oper) : Bool :=
  match o.guard with
  | none => true
  | some (j, want) => yieldedA ops tm j == some want
def evOps (X : Cx) (fn : FuncId) (ops : Array Oper) : List Oper → ASt → Option (AExit × ASt)
  | [], s => some (.normal, s)
  | o :: r, s =>
    if wantedA ops s.tm o then
      match evOp X fn s.tm o s.h with
      | some (.ret v, h) => evOps X fn ops r ⟨putA s.tm o.dst v, s.df, h⟩
      | some (.pan v, h) => some (.pan v, ⟨s.tm, s.df, h⟩)
      | none => none
    else evOps X fn ops r ⟨putA s.tm o.dst undefA, s.df, s.h⟩
def iter (f : ASt → Option (AExit × ASt)) : Nat → ASt → Option (AExit × ASt)
  | 0, _ => none
  | n + 1, s =>
    match f s with
    | some (.normal, s') => iter f n s'
    | r => r
def thenA (r : Option (AExit × ASt)) (f : ASt → Option (AExit × ASt)) : Option (AExit × ASt) :=
  match r with
  | some (.normal, s) => f s
  | r => r
def outBlock (id : Nat) (r : Option (AExit × ASt)) : Option (AExit × ASt) :=
  match r with
  | some (.exit i, s) => if i = id then some (.normal, s) else some (.exit i, s)
  | r => r
def aEnterLoop (fn : FuncId) (rd : Option Id) (ps : Array Tmp) (assign body : Code) (s : ASt) : Option (Id × ASt) :=
  match rd with
  | some l =>
    match s.h.get l with
    | some (.loop _ _ _ _ _ _ _ d) => some (s.h.next, ⟨s.tm, s.df, s.h.alloc (.loop .ready none fn s.tm ps assign body d)⟩)
    | _ => none
  | none =>
    let h1 := s.h.alloc (.defs true)
    some (h1.next, ⟨s.tm, s.h.next :: s.df, h1.alloc (.loop .ready none fn s.tm ps assign body s.h.next)⟩)
def aLeaveLoop (l : Id) (s : ASt) : Option (AExit × ASt) :=
  match s.h.get l with
  | some (.loop st pend fn tm ps assign body d) =>
    match st with
    | .busy => none
    | _ =>
      let s' : ASt := ⟨s.tm, s.df, s.h.set l (.loop .exhausted pend fn tm ps assign body d)⟩
      match pend with
      | none => some (.normal, s')
      | some .ret => some (.ret, s')
      | some (.exit id) => some (.exit id, s')
      | _ => none
  | _ => none
def evRangeFunc (X : Cx) (fn : FuncId) (rd : Option Id) (f : Operand) (ps : Array Tmp) (assign body : Code) (s : ASt) : Option (AExit × ASt) :=
  match aEnterLoop fn rd ps assign body s with
  | none => none
  | some (l, s1) =>
    match aEval s.tm f with
    | some (.fn (.func k) first captured) =>
      match X.call (.func k) (first ++ [.fn (.yield l) [] []] ++ captured) s1.h with
      | some (.ret _, h2) => aLeaveLoop l ⟨s1.tm, s1.df, h2⟩
      | some (.pan v, h2) => some (.pan v, ⟨s1.tm, s1.df, h2⟩)
      | none => none
    | _ => none
def evCode (X : Cx) (rgn : Nat → Array Oper → ASt → Option (AExit × ASt)) (fn : FuncId) (rd : Option Id) (n : Nat) : Code → ASt → Option (AExit × ASt)
  | .skip, s => some (.normal, s)
  | .label _, s => some (.normal, s)
  | .region id ops draw, s => if draw then rgn id ops s else evOps X fn ops ops.toList s
  | .seq a b, s => thenA (evCode X rgn fn rd n a s) (evCode X rgn fn rd n b)
  | .cond c t e, s =>
    match aEval s.tm c with
    | some (.bool true) => evCode X rgn fn rd n t s
    | some (.bool false) => evCode X rgn fn rd n e s
    | _ => none
  | .block id b, s => outBlock id (evCode X rgn fn rd n b s)
  | .loop b, s => iter (evCode X rgn fn rd n b) n s
  | .scope b, s => evCode X rgn fn rd n b s
  | .exit id, s => some (.exit id, s)
  | .ret, s => some (.ret, s)
  | .rangeFunc f ps assign body, s => evRangeFunc X fn rd f ps assign body s
  | .goto _, _ => none
  | .refuse _, _ => none
def aResult (P : Program) (tm : List AV) (h : AH) : ResultVar → Option AV
  | .tmp t => some (tm.getD t undefA)
  | .cell a t => aLoad P t (tm.getD a undefA) h
def aResults (P : Program) (tm : List AV) (h : AH) : List ResultVar → Option (List AV)
  | [] => some []
  | r :: rs => match aResult P tm h r, aResults P tm h rs with | some v, some l => some (v :: l) | _, _ => none
def oneOrTup : List AV → AV
  | [v] => v
  | l => .tup l
def takeDefs : List Id → AH → Option AH
  | [], h => some h
  | d :: ds, h =>
    match h.get d with
    | some (.defs true) => takeDefs ds (h.set d (.defs false))
    | _ => none
def leaveA (P : Program) (fn : Func) (r : Option (AExit × ASt)) : Option (AOut × AH) :=
  match r with
  | some (.normal, s) | some (.ret, s) =>
    match takeDefs s.df s.h with
    | some h => match aResults P s.tm h fn.results.toList with | some l => some (.ret (oneOrTup l), h) | none => none
    | none => none
  | some (.pan v, s) => match takeDefs s.df s.h with | some h => some (.pan v, h) | none => none
  | _ => none
def setTmps (tm : List AV) : List Tmp → List AV → List AV
  | t :: ts, v :: vs => setTmps (tm.set t v) ts vs
  | _, _ => tm
def aSetLoop (l : Id) (f : LoopState → Option Code → Option (LoopState × Option Code)) (h : AH) : Option AH :=
  match h.get l with
  | some (.loop st pd fn tm ps assign body d) =>
    match f st pd with
    | some (st', p) => some (h.set l (.loop st' p fn tm ps assign body d))
    | none => none
  | _ => none
def endRoundA (l : Id) (r : Option (AExit × ASt)) : Option (AOut × AH) :=
  match r with
  | some (.normal, s) => match aSetLoop l (fun _ _ => some (.ready, none)) s.h with | some h => some (.ret (.bool true), h) | none => none
  | some (.ret, s) => match aSetLoop l (fun _ _ => some (.done, some .ret)) s.h with | some h => some (.ret (.bool false), h) | none => none
  | some (.exit id, s) => match aSetLoop l (fun _ _ => some (.done, some (.exit id))) s.h with | some h => some (.ret (.bool false), h) | none => none
  | _ => none
abbrev Hooks := FuncId → List AV → AH → Option (AV × AH)
structure Ev where
  P : Program
  mu : FuncId → Nat → Bool
  hk : Hooks
  rgn : Cx → FuncId → Nat → Array Oper → ASt → Option (AExit × ASt)
def evCall (E : Ev) : Nat → AFn → List AV → AH → Option (AOut × AH)
  | 0, _, _, _ => none
  | n + 1, .func f, args, h =>
    match E.hk f args h with
    | some r => some (.ret r.1, r.2)
    | none =>
      match E.P.funcs[f]? with
      | none => none
      | some fn =>
        match fn.body with
        | none => none
        | some c =>
          let X : Cx := ⟨E.P, E.mu, evCall E n⟩
          leaveA E.P fn (evCode X (E.rgn X f) f none n c ⟨args ++ List.replicate (fn.ntmps - args.length) undefA, [], h⟩)
  | n + 1, .yield l, args, h =>
    match h.get l with
    | some (.loop _ _ fn tm ps assign body _) =>
      if args.length ≠ ps.size then none else
      let X : Cx := ⟨E.P, E.mu, evCall E n⟩
      match evCode X (E.rgn X fn) fn (some l) n assign ⟨setTmps tm ps.toList args, [], h⟩ with
      | some (.normal, s) =>
        match aSetLoop l (fun st pd => match st with | .ready => some (.busy, pd) | _ => none) s.h with
        | some h2 => if s.df.isEmpty then endRoundA l (evCode X (E.rgn X fn) fn (some l) n body ⟨s.tm, [], h2⟩) else none
        | none => none
      | _ => none
    | _ => none
end Go.Sk

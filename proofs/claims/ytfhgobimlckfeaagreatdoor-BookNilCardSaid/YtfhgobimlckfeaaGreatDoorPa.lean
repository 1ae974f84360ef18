/- Signatures: the functions of the package sig, run. -/
import Derived.Test.YtfhgobimlckfeaaGreatDoorSkOpen
import Derived.Test.YtfhgobimlckfeaaGreatDoorSkX2
import Derived.Test.YtfhgobimlckfeaaGreatDoorProg
import Derived.KernelRfl
import Derived.Test.YtfhgobimlckfeaaGreatDoorSkX7
import Derived.Deep.Slices
import GoSem.ClaimJoined
import Derived.Shelf.Strings.Builder1
import Derived.Shelf.Strings.Builder2
import Derived.Shelf.Strings.OnBuilder
import Derived.Shelf.Small.Bits
import Derived.Shelf.Strings.BuilderF
import Derived.Shelf.Strings.BuilderK
import Derived.Shelf.Strings.Builder2Cap
import Derived.Shelf.Strconv.Itoa0
import Derived.Shelf.Strconv.Itoa1
import Derived.Shelf.LaysM
import Derived.Shelf.Strconv.Itoa2
import Derived.Shelf.Strconv.Itoa3
import Derived.Shelf.Strings.BuilderCap
import Derived.Ground.Names2Prog
import Derived.Shelf.Slices.Clone
import Derived.Shelf.Slices.SearchI
import Derived.Ground.SlgnProg
import Derived.Shelf.SlicesE.Clone
import Derived.Test.YtfhgobimlckfeaaGreatDoorSkX9
import Derived.Test.YtfhgobimlckfeaaGreatDoorSkBu
import Derived.Test.YtfhgobimlckfeaaGreatDoorCards
import Derived.Test.YtfhgobimlckfeaaGreatDoorTie
import Derived.WalkKit
import Derived.ProofKit
import Derived.OpenShut
import Derived.Deep.DeepHandedRow
import Derived.Lib.LaidTab
set_option linter.unusedVariables false
set_option linter.unusedSimpArgs false
set_option maxRecDepth 10000
namespace Go.Proofs.Nt
open Go.Sk

abbrev RgnT := Nat → Array Oper → ASt → Option (AExit × ASt)
abbrev CallT := AFn → List AV → AH → Option (AOut × AH)
/-- Which slices are written in place: those of these functions. -/
def mu0 : FuncId → Nat → Bool := fun f n => Nat.beq f 31
/-- Lengths and places of elements are shut. -/
def shT : Nat → Option (List Nat) := fun id => match Nat.beq id 999999 with | true => some [] | false => none
noncomputable abbrev B (tab : Nat → Option (List Nat)) (call : CallT) (rgn : RgnT) (n : Nat) (f : FuncId) (fn : Func) (args : List AV) (h : AH) := cBodyS Tryz.prog mu0 call rgn tab n f fn (codeOf fn) args h
noncomputable abbrev LB (tab : Nat → Option (List Nat)) (call : CallT) (rgn : RgnT) (n : Nat) (f : FuncId) (fn : Func) (i : Nat) : CF (AOut × AH) := cCode ⟨Tryz.prog, mu0, call⟩ rgn f tab none n (loopAt (codeOf fn) i)

/-! ### Values -/

/-- A list as a value: nil, or its elements. -/
def IsL (x : AV) (xs : List AV) : Prop := (x = .nilsl ∧ xs = []) ∨ ∃ c, x = .vsl xs c

theorem len_L {X : Cx} {mu : Bool} {t e : TypeId} {x : AV} {xs : List AV} {h : AH} (ht : X.P.underlying t = some (.slice e)) (hx : IsL x xs) : aBuiltin X mu .len #[t] [x] h = some (.ret (.int .i64 xs.length), h) := by
  have : (#[t] : Array TypeId)[0]? = some t := rfl
  rcases hx with ⟨rfl, rfl⟩ | ⟨c, rfl⟩ <;> simp [aBuiltin, aLen, ht, vOf]

theorem idx_L {P : Program} {t e : TypeId} {x v : AV} {xs : List AV} {h : AH} {k : IntKind} {y : Int} {i n : Nat} (ht : P.underlying t = some (.slice e)) (hn : sizeT P e = some n) (hx : IsL x xs) (hy : y = i) (hv : xs[i]? = some v) (hc : v.cells.length = n) :
    vOf h (aIndexAddr P t x (.int k y)) = some (.ret (.ref v), h) := by
  have hlt : i < xs.length := (List.getElem?_eq_some_iff.1 hv).1
  rcases hx with ⟨rfl, rfl⟩ | ⟨c, rfl⟩
  · simp at hlt
  · subst hy
    have h2 : xs[i].cells.length = n := by rw [← hc, (List.getElem?_eq_some_iff.1 hv).2]
    have h3 : xs[i] = v := (List.getElem?_eq_some_iff.1 hv).2
    simp [aIndexAddr, ht, hn, hlt, h2, vOf]; exact h3

abbrev Ag := List UInt8 × Int
def agV (a : Ag) : AV := .agg [.str a.1, .int .i64 a.2]
abbrev IsSig (x : AV) (s : List Ag) : Prop := IsL x (s.map agV)

theorem wrap_succ {i : Nat} (h : i < 9223372036854775807) : IntKind.i64.wrap ((i : Int) + 1) = ((i + 1 : Nat) : Int) := by
  simp [IntKind.wrap, IntKind.bits, IntKind.signed]
  omega

theorem leave_plain {P : Program} {fn : Func} {x : AExit} {tm : List AV} {h : AH} {l : List AV} (hx : x = .ret ∨ x = .normal) (hr : aResults P tm h fn.results.toList = some l) : leaveA P fn (some (x, ⟨tm, [], h⟩)) = some (.ret (oneOrTup l), h) := by
  rcases hx with rfl | rfl <;> simp [leaveA, takeDefs, hr]

theorem leave_eq {P : Program} {fn : Func} {x : AExit} {tm : List AV} {h : AH} {l : List AV} {y : Option (AOut × AH)} (hx : x = .ret ∨ x = .normal) (hr : aResults P tm h fn.results.toList = some l) (hy : some (.ret (oneOrTup l), h) = y) : atLeave P fn x ⟨tm, [], h⟩ = y := by
  unfold atLeave; rw [leave_plain hx hr]; exact hy

/-- An object is made and written. -/
theorem st_new {P : Program} {T : TypeId} {n : Nat} {h : AH} {cs0 cs : List AV} {v : AV} (hn : sizeT P T = some n) (hcs : v.cells = cs) (hc : cs.length = n) (h0 : cs0.length = n) (hs : cs.all AV.scalar = true) :
    hOf (aStore P T (.ptr h.next 0) v (h.alloc (.cells cs0 T))) = some (.ret undefA, (h.alloc (.cells cs0 T)).set h.next (.cells cs T)) := by
  subst hcs
  rw [st_ptr (n := n) (cs := cs0) (T := T) (by rw [AH.get_alloc, if_pos rfl]) hn hc (by omega) hs]
  have : setCells cs0 0 v.cells = v.cells := by
    have key : ∀ (vs cs pre : List AV), vs.length = cs.length → setCells (pre ++ cs) pre.length vs = pre ++ vs := by
      intro vs
      induction vs with
      | nil => intro cs pre h; have : cs = [] := List.eq_nil_of_length_eq_zero h.symm; subst this; rfl
      | cons a r ih =>
        intro cs pre h
        cases cs with
        | nil => simp at h
        | cons b cs =>
          show setCells ((pre ++ b :: cs).set pre.length a) (pre.length + 1) r = _
          have e : (pre ++ b :: cs).set pre.length a = (pre ++ [a]) ++ cs := by simp
          rw [e, show pre.length + 1 = (pre ++ [a]).length by simp, ih cs (pre ++ [a]) (by simpa using h)]
          simp
    simpa using key v.cells cs0 [] (by omega)
  rw [this]; rfl

theorem new_obj (h : AH) (cs0 cs : List AV) (T : TypeId) :
    ((h.alloc (.cells cs0 T)).set h.next (.cells cs T)).get h.next = some (.cells cs T) ∧ h.next.nat + 1 = ((h.alloc (.cells cs0 T)).set h.next (.cells cs T)).next.nat ∧
    ∀ q o, h.get q = some o → q.nat < h.next.nat → ((h.alloc (.cells cs0 T)).set h.next (.cells cs T)).get q = some o := by
  refine ⟨by rw [AH.get_set, if_pos rfl], by rw [AH.next_set, AH.next_alloc, Id.nat_succ], fun q o hq hlt => ?_⟩
  have : q ≠ h.next := by rintro rfl; omega
  rw [AH.get_set, if_neg this, AH.get_alloc, if_neg this]; exact hq

/-! ### Ports -/

def portsN (s : List Ag) (a : Int) : Int :=
  if a < 0 then 0 else match s[a.toNat]? with
    | none => 0
    | some g => if g.2 < 0 then 0 else IntKind.i64.wrap (g.2 + 1)

/-! ### Names -/

def smallI (c : Int) : Bool := decide (c ≥ 97) && decide (c ≤ 122)
def greatI (c : Int) : Bool := decide (c ≥ 65) && decide (c ≤ 90)
def insideI (c : Int) : Bool := smallI c || greatI c || (decide (c ≥ 48) && decide (c ≤ 57)) || (c == 95)
def inB (b : UInt8) : Bool := insideI b.toNat

def beginsT (s : List UInt8) (lo hi : Int) : Bool := match s with | [] => false | c :: r => decide (s.length ≤ 16) && decide ((c.toNat : Int) ≥ lo) && decide ((c.toNat : Int) ≤ hi) && r.all inB

def wordT (s : List UInt8) : Bool := beginsT s 65 90
/-! ### The first of a name -/

/-- The same, counted. -/
def ofF : List Ag → List UInt8 → Nat → Int
  | [], _, _ => -1
  | a :: r, nm, i => if a.1 == nm then (i : Int) else ofF r nm (i + 1)
/-! ### Lists, read -/

def decAll {α : Type} (dec : AV → Option α) : List AV → Option (List α)
  | [] => some []
  | v :: r => match dec v, decAll dec r with | some a, some l => some (a :: l) | _, _ => none

def decL {α : Type} (dec : AV → Option α) (enc : α → AV) : AV → Option (List α)
  | .nilsl => some []
  | .vsl xs _ => match decAll dec xs with | some l => if AV.beqL xs (l.map enc) then some l else none | none => none
  | _ => none

theorem decL_inv {α : Type} {dec : AV → Option α} {enc : α → AV} {x : AV} {l : List α} (h : decL dec enc x = some l) : IsL x (l.map enc) := by
  unfold decL at h
  split at h
  · simp only [Option.some.injEq] at h; subst h; exact .inl ⟨rfl, rfl⟩
  · split at h
    · split at h
      · rename_i hb
        simp only [Option.some.injEq] at h; subst h
        exact .inr ⟨_, by rw [AV.beqL_eq hb]⟩
      · cases h
    · cases h
  · cases h

theorem decAll_enc {α : Type} {dec : AV → Option α} {enc : α → AV} (hd : ∀ a, dec (enc a) = some a) : ∀ l : List α, decAll dec (l.map enc) = some l
  | [] => rfl
  | a :: l => by simp only [List.map_cons, decAll, hd, decAll_enc hd l]

theorem weakL_enc {α : Type} {enc : α → AV} (hw : ∀ a, weakV (enc a) = enc a) : ∀ l : List α, weakL (l.map enc) = l.map enc
  | [] => rfl
  | a :: l => by simp only [List.map_cons, weakL, hw, weakL_enc hw l]

theorem freeL_enc {α : Type} {enc : α → AV} (hf : ∀ a, freeV (enc a) = true) : ∀ l : List α, freeL (l.map enc) = true
  | [] => rfl
  | a :: l => by simp only [List.map_cons, freeL, hf, freeL_enc hf l, Bool.and_self]

theorem decL_of {α : Type} {dec : AV → Option α} {enc : α → AV} (hd : ∀ a, dec (enc a) = some a) (hw : ∀ a, weakV (enc a) = enc a) {x : AV} {l : List α} (h : IsL x (l.map enc)) : decL dec enc (weakV x) = some l := by
  rcases h with ⟨rfl, h⟩ | ⟨c, rfl⟩
  · have : l = [] := by simpa using h
    subst this; rfl
  · show decL dec enc (.vsl (weakL (l.map enc)) (weakC c)) = _
    simp only [weakL_enc hw, decL, decAll_enc hd, AV.beqL_refl, if_true]

theorem freeL_of {α : Type} {enc : α → AV} (hf : ∀ a, freeV (enc a) = true) {x : AV} {l : List α} (h : IsL x (l.map enc)) : freeV x = true := by
  rcases h with ⟨rfl, h⟩ | ⟨c, rfl⟩
  · rfl
  · exact freeL_enc hf l

def decAg : AV → Option Ag
  | .agg [.str n, .int .i64 a] => some (n, a)
  | _ => none
def sigOf : AV → Option (List Ag) := decL decAg agV
theorem sigOf_of {x : AV} {s : List Ag} (h : IsSig x s) : sigOf (weakV x) = some s := decL_of (dec := decAg) (enc := agV) (fun _ => rfl) (fun _ => rfl) h
theorem sig_free {x : AV} {s : List Ag} (h : IsSig x s) : freeV x = true := freeL_of (enc := agV) (fun _ => rfl) h

/-! ### Check -/

def sigF (all : List Ag) : List Ag → Nat → Int × Int
  | [], _ => (0, 0)
  | a :: r, i => if wordT a.1 = false then (12, i) else if ofF (all.take i) a.1 0 ≥ 0 then (21, i) else if a.2 < 0 ∨ a.2 > 6 then (22, i) else sigF all r (i + 1)
def sigChk (s : List Ag) : Int × Int := if s.length = 0 then (20, 0) else if s.length > 32 then (15, 32) else sigF s s 0

/-! ### Contracts -/

/-- An answer of a function on a heap that does not matter. -/
theorem E0 : EvOK (mkEv Tryz.prog mu0 noHooks) := mkEv_ok (by kernel_rfl) (by kernel_rfl)

def s31 : List AV → Option AV | [x, .int .i64 a] => (match sigOf x with | some s => some (.int .i64 (portsN s a)) | none => none) | _ => none
def s36 : List AV → Option AV | [.str s, .int .u8 lo, .int .u8 hi] => some (.bool (beginsT s lo hi)) | _ => none
def s28 : List AV → Option AV | [.str s] => some (.bool (wordT s)) | _ => none
def s29 : List AV → Option AV | [x, .str nm] => (match sigOf x with | some s => if s.length ≤ 3000000000 then some (.int .i64 (ofF s nm 0)) else none | none => none) | _ => none
def s14 : List AV → Option AV | [x] => (match sigOf x with | some s => some (.tup [.int .i64 (sigChk s).1, .int .i64 (sigChk s).2]) | none => none) | _ => none
def hk31 := addHk noHooks 103 s31
def hk36 := addHk hk31 151 s36
def hk28 := addHk hk36 100 s28
def hk29 := addHk hk28 101 s29
def hk14 := addHk hk29 50 s14

/-- A contract that stands first. -/
theorem hk_top {hk : Hooks} {f : FuncId} {sp : List AV → Option AV} {args : List AV} {h : AH} {v : AV} (hf : freeL args = true) (hs : sp (weakL args) = some v) : addHk hk f sp f args h = some (v, h) := by
  rw [addHk_same hk f sp hf, hs]
structure Nt where
  cells : List Int
  free : Int
  wires : List (Int × Int × Int × Int)

def intV (a : Int) : AV := .int .i64 a
def portV (p : Int × Int) : AV := .agg [.int .i64 p.1, .int .i64 p.2]
def wireV (w : Int × Int × Int × Int) : AV := .agg [.int .i64 w.1, .int .i64 w.2.1, .int .i64 w.2.2.1, .int .i64 w.2.2.2]

/-- The ports of a cell. -/
def cellPorts (s : List Ag) (c : Nat) (a : Int) : List (Int × Int) := (List.range' 0 (portsN s a).toNat).map fun (k : Nat) => ((c : Int), (k : Int))
def cellsPorts (s : List Ag) : List Int → Nat → List (Int × Int)
  | [], _ => []
  | a :: r, c => cellPorts s c a ++ cellsPorts s r (c + 1)
def freePorts (f : Int) : List (Int × Int) := (List.range' 0 f.toNat).map fun (k : Nat) => ((-1 : Int), (k : Int))
def portsL (s : List Ag) (n : Nt) : List (Int × Int) := freePorts n.free ++ cellsPorts s n.cells 0

/-- Rounds of a range over ports. -/
inductive YRun (call : CallT) (l : Sk.Id) (G : AH → Prop) : Nat → List (Int × Int) → AH → AH → Prop
  | nil (i : Nat) (h : AH) : YRun call l G i [] h h
  | cons {i : Nat} {p : Int × Int} {ps : List (Int × Int)} {h h1 h2 : AH} (hc : call (.yield l) [.int .i64 i, portV p] h = some (.ret (.bool true), h1)) (hg : G h1) (hr : YRun call l G (i + 1) ps h1 h2) : YRun call l G i (p :: ps) h h2
  | stop {i : Nat} {p : Int × Int} {ps : List (Int × Int)} {h h1 : AH} (hc : call (.yield l) [.int .i64 i, portV p] h = some (.ret (.bool false), h1)) : YRun call l G i (p :: ps) h h1

structure PortsG (b2 b3 : Sk.Id) (x c w : AV) (f : Int) (h : AH) : Prop where
  g2 : h.get b2 = some (.cells [x] 35)
  g3 : h.get b3 = some (.cells [c, .int .i64 f, w] 25)

/-- The free ones. -/
theorem l37a (call rgn n) (l b2 b3 : Sk.Id) (x c w : AV) (f : Int) (hf : f ≤ 1000000) (h' : AH) (rest : List (Int × Int)) {K : KC (AOut × AH)} {y : Option (AOut × AH)}
    (hR : ∀ {g0 g1 g2 g3 g4 g5 g6 g7 g8 g9 aA aB aC aD aE aF aG aH aI aJ aK aL aM aN aO aP aQ aR aS aT aU aV aW aX aY aZ bA bB bC bD bE bF bG bH bI bJ bK bL : AV}, K .ret ⟨[g0,g1,g2,g3,g4,g5,g6,g7,g8,g9,aA,aB,aC,aD,aE,aF,aG,aH,aI,aJ,aK,aL,aM,aN,aO,aP,aQ,aR,aS,aT,aU,aV,aW,aX,aY,aZ,bA,bB,bC,bD,bE,bF,bG,bH,bI,bJ,bK,bL], [], h'⟩ = y)
    (hK : ∀ {h : AH} {g3 g5 g6 g7 g8 g9 aA aB aC aD aE aF aG aH aI aJ aK aL aM aN aO aP aQ aR aS aT aU aV aW aX aY aZ bA bB bC bD bE bF bG bH bI bJ bK bL : AV}, PortsG b2 b3 x c w f h → YRun call l (PortsG b2 b3 x c w f) f.toNat rest h h' → K (.exit 0) ⟨[.fn (.yield l) [] [],.ptr b3 0,.ptr b2 0,g3,.int .i64 (f.toNat : Int),g5,g6,g7,g8,g9,aA,aB,aC,aD,aE,aF,aG,aH,aI,aJ,aK,aL,aM,aN,aO,aP,aQ,aR,aS,aT,aU,aV,aW,aX,aY,aZ,bA,bB,bC,bD,bE,bF,bG,bH,bI,bJ,bK,bL], [], h⟩ = y) :
    ∀ (m i : Nat) {z a : Int} {h : AH} {g3 g5 g6 g7 g8 g9 aC aD aE aF aG aH aI aJ aK aL aM aN aO aP aQ aR aS aT aU aV aW aX aY aZ bA bB bC bD bE bF bG bH bI bJ bK bL : AV}, z = i → a = i → i ≤ f.toNat → f.toNat - i < m → PortsG b2 b3 x c w f h → YRun call l (PortsG b2 b3 x c w f) i ((List.range' i (f.toNat - i)).map (fun (k : Nat) => ((-1 : Int), (k : Int))) ++ rest) h h' →
    cIter (LB shT call rgn n 152 Tryz.f152 0) m ⟨[.fn (.yield l) [] [],.ptr b3 0,.ptr b2 0,g3,.int .i64 a,g5,g6,g7,g8,g9,.int .i64 f,.int .i64 z,aC,aD,aE,aF,aG,aH,aI,aJ,aK,aL,aM,aN,aO,aP,aQ,aR,aS,aT,aU,aV,aW,aX,aY,aZ,bA,bB,bC,bD,bE,bF,bG,bH,bI,bJ,bK,bL], [], h⟩ K = y := by
  intro m
  induction m with
  | zero => intros; omega
  | succ m ih =>
    intro i z a h g3 g5 g6 g7 g8 g9 aC aD aE aF aG aH aI aJ aK aL aM aN aO aP aQ aR aS aT aU aV aW aX aY aZ bA bB bC bD bE bF bG bH bI bJ bK bL hz ha hi hm hG hY
    rw [cIter_succ]
    conv => lhs; whnf
    split
    · rename_i hd
      have hlt : i < f.toNat := by simp at hd; omega
      have hr : List.range' i (f.toNat - i) = i :: List.range' (i + 1) (f.toNat - (i + 1)) := by
        rw [show f.toNat - i = (f.toNat - (i + 1)) + 1 by omega, List.range'_succ]
      rw [hr, List.map_cons, List.cons_append] at hY
      rw [hz, ha]
      conv => lhs; whnf
      cases hY with
      | cons hc hg hr' =>
        refine atCall_ret hc ?_
        conv => lhs; whnf
        exact ih (i + 1) (wrap_succ (by omega)) (wrap_succ (by omega)) (by omega) (by omega) hg hr'
      | stop hc =>
        refine atCall_ret hc ?_
        conv => lhs; whnf
        exact hR
    · rename_i hd
      have hlt : ¬ i < f.toNat := by simp at hd; omega
      have he : i = f.toNat := by omega
      rw [show f.toNat - i = 0 by omega] at hY
      subst ha
      rw [he] at hY ⊢
      exact hK hG hY

/-- Those of a cell. -/
theorem l37c (call rgn n) (l b2 b3 : Sk.Id) (x c w : AV) (f : Int) (cc : Nat) (M j0 : Nat) (hj : j0 + M ≤ 1000000000) {v24 v25 v26 : AV} (h' : AH) (rest : List (Int × Int)) {K : KC (AOut × AH)} {y : Option (AOut × AH)}
    (hR : ∀ {g0 g1 g2 g3 g4 g5 g6 g7 g8 g9 aA aB aC aD aE aF aG aH aI aJ aK aL aM aN aO aP aQ aR aS aT aU aV aW aX aY aZ bA bB bC bD bE bF bG bH bI bJ bK bL : AV}, K .ret ⟨[g0,g1,g2,g3,g4,g5,g6,g7,g8,g9,aA,aB,aC,aD,aE,aF,aG,aH,aI,aJ,aK,aL,aM,aN,aO,aP,aQ,aR,aS,aT,aU,aV,aW,aX,aY,aZ,bA,bB,bC,bD,bE,bF,bG,bH,bI,bJ,bK,bL], [], h'⟩ = y)
    (hK : ∀ {h : AH} {z : Int} {g3 g5 g7 g8 g9 aA aB aC aD aE aF aG aH aI aJ aK aL aM aN aR aS aT aU aV aW aX aY aZ bA bB bC bD bE bF bG bH bI bJ bK bL : AV}, z = ((j0 + M : Nat) : Int) → PortsG b2 b3 x c w f h → YRun call l (PortsG b2 b3 x c w f) (j0 + M) rest h h' → K (.exit 4) ⟨[.fn (.yield l) [] [],.ptr b3 0,.ptr b2 0,g3,.int .i64 z,g5,.int .i64 cc,g7,g8,g9,aA,aB,aC,aD,aE,aF,aG,aH,aI,aJ,aK,aL,aM,aN,v24,v25,v26,aR,aS,aT,aU,aV,aW,aX,aY,aZ,bA,bB,bC,bD,bE,bF,bG,bH,bI,bJ,bK,bL], [], h⟩ = y) :
    ∀ (m i : Nat) {z a : Int} {h : AH} {g3 g5 g7 g8 g9 aA aB aC aD aE aF aG aH aI aJ aK aL aM aN aR aS aT aU aV aW aZ bA bB bC bD bE bF bG bH bI bJ bK bL : AV}, z = i → a = ((j0 + i : Nat) : Int) → i ≤ M → M - i < m → PortsG b2 b3 x c w f h → YRun call l (PortsG b2 b3 x c w f) (j0 + i) ((List.range' i (M - i)).map (fun (k : Nat) => ((cc : Int), (k : Int))) ++ rest) h h' →
    cIter (LB shT call rgn n 152 Tryz.f152 2) m ⟨[.fn (.yield l) [] [],.ptr b3 0,.ptr b2 0,g3,.int .i64 a,g5,.int .i64 cc,g7,g8,g9,aA,aB,aC,aD,aE,aF,aG,aH,aI,aJ,aK,aL,aM,aN,v24,v25,v26,aR,aS,aT,aU,aV,aW,.int .i64 (M : Int),.int .i64 z,aZ,bA,bB,bC,bD,bE,bF,bG,bH,bI,bJ,bK,bL], [], h⟩ K = y := by
  intro m
  induction m with
  | zero => intros; omega
  | succ m ih =>
    intro i z a h g3 g5 g7 g8 g9 aA aB aC aD aE aF aG aH aI aJ aK aL aM aN aR aS aT aU aV aW aZ bA bB bC bD bE bF bG bH bI bJ bK bL hz ha hi hm hG hY
    rw [cIter_succ]
    conv => lhs; whnf
    split
    · rename_i hd
      have hlt : i < M := by simp at hd; omega
      have hr : List.range' i (M - i) = i :: List.range' (i + 1) (M - (i + 1)) := by
        rw [show M - i = (M - (i + 1)) + 1 by omega, List.range'_succ]
      rw [hr, List.map_cons, List.cons_append] at hY
      rw [hz, ha]
      conv => lhs; whnf
      cases hY with
      | cons hc hg hr' =>
        refine atCall_ret hc ?_
        conv => lhs; whnf
        exact ih (i + 1) (wrap_succ (by omega)) (wrap_succ (by omega)) (by omega) (by omega) hg hr'
      | stop hc =>
        refine atCall_ret hc ?_
        conv => lhs; whnf
        exact hR
    · rename_i hd
      have hlt : ¬ i < M := by simp at hd; omega
      have he : i = M := by omega
      rw [show M - i = 0 by omega] at hY
      subst he
      exact hK ha hG hY

def h31 (call : CallT) : Prop := ∀ x s a h, IsSig x s → call (.func 103) [x, .int .i64 a] h = some (.ret (.int .i64 (portsN s a)), h)

/-- All cells. -/
theorem l37b (call rgn n) (l b2 b3 : Sk.Id) (x c w : AV) (f : Int) (s : List Ag) (cells : List Int) (hx : IsSig x s) (hc : IsL c (cells.map intV)) (hP : ∀ a, 0 ≤ portsN s a ∧ portsN s a ≤ 7) (hn : 7 < n) (hlen : cells.length ≤ 10000000) (h31 : h31 call) (h' : AH) {K : KC (AOut × AH)} {y : Option (AOut × AH)}
    (hR : ∀ {g0 g1 g2 g3 g4 g5 g6 g7 g8 g9 aA aB aC aD aE aF aG aH aI aJ aK aL aM aN aO aP aQ aR aS aT aU aV aW aX aY aZ bA bB bC bD bE bF bG bH bI bJ bK bL : AV}, K .ret ⟨[g0,g1,g2,g3,g4,g5,g6,g7,g8,g9,aA,aB,aC,aD,aE,aF,aG,aH,aI,aJ,aK,aL,aM,aN,aO,aP,aQ,aR,aS,aT,aU,aV,aW,aX,aY,aZ,bA,bB,bC,bD,bE,bF,bG,bH,bI,bJ,bK,bL], [], h'⟩ = y)
    (hK : ∀ {g0 g1 g2 g3 g4 g5 g6 g7 g8 g9 aA aB aC aD aE aF aG aH aI aJ aK aL aM aN aO aP aQ aR aS aT aU aV aW aX aY aZ bA bB bC bD bE bF bG bH bI bJ bK bL : AV}, K (.exit 2) ⟨[g0,g1,g2,g3,g4,g5,g6,g7,g8,g9,aA,aB,aC,aD,aE,aF,aG,aH,aI,aJ,aK,aL,aM,aN,aO,aP,aQ,aR,aS,aT,aU,aV,aW,aX,aY,aZ,bA,bB,bC,bD,bE,bF,bG,bH,bI,bJ,bK,bL], [], h'⟩ = y) :
    ∀ (m i j : Nat) {z a : Int} {h : AH} {g3 g5 g6 g7 g8 g9 aA aB aC aD aE aF aG aH aI aJ aK aL aM aN aR aS aT aU aV aW aX aY aZ bA bB bC bD bE bF bG bH bI bJ bK bL : AV}, z = i → a = j → i ≤ cells.length → cells.length - i < m → j ≤ 1000000 + 7 * i → PortsG b2 b3 x c w f h → YRun call l (PortsG b2 b3 x c w f) j (cellsPorts s (cells.drop i) i) h h' →
    cIter (LB shT call rgn n 152 Tryz.f152 1) m ⟨[.fn (.yield l) [] [],.ptr b3 0,.ptr b2 0,g3,.int .i64 a,g5,g6,g7,g8,g9,aA,aB,aC,aD,aE,aF,aG,aH,aI,aJ,aK,aL,aM,aN,c,.int .i64 cells.length,.int .i64 z,aR,aS,aT,aU,aV,aW,aX,aY,aZ,bA,bB,bC,bD,bE,bF,bG,bH,bI,bJ,bK,bL], [], h⟩ K = y := by
  have u : Tryz.prog.underlying 22 = some (.slice 3) := by kernel_rfl
  intro m
  induction m with
  | zero => intros; omega
  | succ m ih =>
    intro i j z a h g3 g5 g6 g7 g8 g9 aA aB aC aD aE aF aG aH aI aJ aK aL aM aN aR aS aT aU aV aW aX aY aZ bA bB bC bD bE bF bG bH bI bJ bK bL hz ha hi hm hj hG hY
    rw [cIter_succ]
    conv => lhs; whnf
    split
    · rename_i hd
      have hlt : i < cells.length := by simp at hd; omega
      have hdrop : cells.drop i = cells[i] :: cells.drop (i + 1) := List.drop_eq_getElem_cons hlt
      have hg : (cells.map intV)[i]? = some (intV cells[i]) := by rw [List.getElem?_map, List.getElem?_eq_getElem hlt]; rfl
      have hidx := fun h => idx_L (P := Tryz.prog) (t := 22) (e := 3) (n := 1) (h := h) (k := .i64) u (by kernel_rfl) hc hz hg rfl
      rw [hdrop] at hY
      generalize cells[i] = g at hidx hY
      simp only [cellsPorts, cellPorts] at hY
      have ld2 : vOf h (aLoad Tryz.prog 35 (.ptr b2 0) h) = some (.ret x, h) := ld_ptr (n := 1) hG.g2 (by kernel_rfl) (by kernel_rfl) rfl
      conv => lhs; whnf
      refine atCall_ret (hidx _) ?_
      conv => lhs; whnf
      refine atCall_ret ld2 ?_
      conv => lhs; whnf
      refine atCall_ret (h31 x s g h hx) ?_
      obtain ⟨p0, p7⟩ := hP g
      generalize portsN s g = M at hY p0 p7
      obtain ⟨M, rfl⟩ : ∃ M' : Nat, M = M' := ⟨M.toNat, by omega⟩
      simp only [Int.toNat_natCast] at hY
      conv => lhs; whnf
      rw [hz]
      refine l37c call rgn n l b2 b3 x c w f i M j (by omega) h' (cellsPorts s (cells.drop (i + 1)) (i + 1)) ?_ ?_ n 0 (z := 0) rfl ha (Nat.zero_le _) (by omega) hG hY
      · intros
        exact hR
      intro h1 z1
      intros
      rename_i hz1 hG1 hY1
      conv => lhs; whnf
      exact ih (i + 1) (j + M) (wrap_succ (by omega)) hz1 (by omega) (by omega) (by omega) hG1 hY1
    · rename_i hd
      have hlt : ¬ i < cells.length := by simp at hd; omega
      rw [List.drop_eq_nil_of_le (by omega)] at hY
      cases hY
      exact hK

/-- The iterator's rounds. -/
theorem b37 (call rgn n) (l b2 b3 : Sk.Id) (x c w : AV) (f : Int) (s : List Ag) (cells : List Int) (hx : IsSig x s) (hc : IsL c (cells.map intV)) (hP : ∀ a, 0 ≤ portsN s a ∧ portsN s a ≤ 7) (hn : 7 < n) (hn2 : cells.length < n) (hn3 : f.toNat < n) (hlen : cells.length ≤ 10000000) (hf : f ≤ 1000000) (h31 : h31 call) (h h' : AH)
    (hG : PortsG b2 b3 x c w f h) (hY : YRun call l (PortsG b2 b3 x c w f) 0 (freePorts f ++ cellsPorts s cells 0) h h') :
    B shT call rgn n 152 Tryz.f152 [.fn (.yield l) [] [], .ptr b3 0, .ptr b2 0] h = some (.ret (.tup []), h') := by
  have u : Tryz.prog.underlying 22 = some (.slice 3) := by kernel_rfl
  have hl := fun h => len_L (X := ⟨Tryz.prog, mu0, call⟩) (mu := false) (h := h) u hc
  rw [List.length_map] at hl
  have ldf : vOf h (aLoad Tryz.prog 3 (.ptr b3 1) h) = some (.ret (.int .i64 f), h) := ld_ptr (n := 1) hG.g3 (by kernel_rfl) (by kernel_rfl) rfl
  conv => lhs; whnf
  refine atCall_ret ldf ?_
  conv => lhs; whnf
  have hR : ∀ {g0 g1 g2 g3 g4 g5 g6 g7 g8 g9 aA aB aC aD aE aF aG aH aI aJ aK aL aM aN aO aP aQ aR aS aT aU aV aW aX aY aZ bA bB bC bD bE bF bG bH bI bJ bK bL : AV}, atLeave Tryz.prog Tryz.f152 .ret ⟨[g0,g1,g2,g3,g4,g5,g6,g7,g8,g9,aA,aB,aC,aD,aE,aF,aG,aH,aI,aJ,aK,aL,aM,aN,aO,aP,aQ,aR,aS,aT,aU,aV,aW,aX,aY,aZ,bA,bB,bC,bD,bE,bF,bG,bH,bI,bJ,bK,bL], [], h'⟩ = some (.ret (.tup []), h') := by
    intros
    exact leave_eq (.inl rfl) rfl rfl
  refine l37a call rgn n l b2 b3 x c w f hf h' (cellsPorts s cells 0) ?_ ?_ n 0 (z := 0) (a := 0) rfl rfl (Nat.zero_le _) (by omega) hG hY
  · intros
    exact hR
  intro h1
  intros
  rename_i hG1 hY1
  have ldc : vOf h1 (aLoad Tryz.prog 22 (.ptr b3 0) h1) = some (.ret c, h1) := ld_ptr (n := 1) hG1.g3 (by kernel_rfl) (by kernel_rfl) rfl
  conv => lhs; whnf
  refine atCall_ret ldc ?_
  conv => lhs; whnf
  refine atCall_ret (hl _) ?_
  conv => lhs; whnf
  refine l37b call rgn n l b2 b3 x c w f s cells hx hc hP hn hlen h31 h' ?_ ?_ n 0 f.toNat (z := 0) rfl rfl (Nat.zero_le _) (by omega) (by omega) hG1 hY1
  · intros
    exact hR
  intros
  conv => lhs; whnf
  exact leave_eq (.inr rfl) rfl rfl
def isPort (s : List Ag) (cells : List Int) (f : Int) (p : Int × Int) : Bool :=
  if p.1 == -1 then decide (p.2 ≥ 0) && decide (p.2 < f)
  else decide (p.1 ≥ 0) && decide (p.1 < cells.length) && decide (p.2 ≥ 0) && (match cells[p.1.toNat]? with | some a => decide (p.2 < portsN s a) | none => false)

theorem kept_alloc {h : AH} {q : Sk.Id} {o o' : AO} (hq : h.get q = some o) (hlt : q.nat < h.next.nat) : (h.alloc o').get q = some o := by
  rw [AH.get_alloc, if_neg (by rintro rfl; omega)]; exact hq
theorem eqIn_int {d : Nat} {t : TypeId} {k : IntKind} (ht : Tryz.prog.underlying t = some (.int k)) (a b : Int) : aEqIn Tryz.prog (d + 1) t (.int .i64 a) (.int .i64 b) = some (a == b) := by
  simp [aEqIn, ht]

theorem eq_port (p q : Int × Int) : aEq Tryz.prog 113 (portV p) (portV q) = some (p.1 == q.1 && p.2 == q.2) := by
  obtain ⟨a, b⟩ := p
  obtain ⟨c, d⟩ := q
  have e : aEq Tryz.prog 113 (portV (a, b)) (portV (c, d)) = (match aEqIn Tryz.prog 9999 3 (.int .i64 a) (.int .i64 c) with
    | some true => (match aEqIn Tryz.prog 9999 3 (.int .i64 b) (.int .i64 d) with | some true => some true | some false => some false | none => none)
    | some false => some false
    | none => none) := by kernel_rfl
  rw [e, eqIn_int (d := 9998) (k := .i64) (by kernel_rfl), eqIn_int (d := 9998) (k := .i64) (by kernel_rfl)]
  cases a == c <;> cases b == d <;> rfl

theorem key_port (p : Int × Int) : aKeyOk Tryz.prog 10000 113 (portV p) = true := by
  obtain ⟨a, b⟩ := p
  kernel_rfl

theorem beq_port (p : Int × Int) : plainBeq (portV p) (portV p) = true := by
  obtain ⟨a, b⟩ := p
  simp [plainBeq, portV, plainCellsEq, plainCellEq]

/-- A map's entries, their keys being ports. -/
abbrev Ent := (Int × Int) × AV × Nat
def entV (e : Ent) : AV × AV × Nat := (portV e.1, e.2.1, e.2.2)

def findE (p : Int × Int) : List Ent → Nat → Option (Nat × AV × Nat)
  | [], _ => none
  | e :: r, i => if p = e.1 then some (i, e.2.1, e.2.2) else findE p r (i + 1)

theorem find_port (p : Int × Int) : ∀ (L : List Ent) (i : Nat), aFind (fun e => aEq Tryz.prog 113 (portV p) e) (portV p) (L.map entV) i = some (findE p L i)
  | [], i => rfl
  | e :: r, i => by
    simp only [List.map_cons, entV, aFind, eq_port, findE]
    by_cases h : p = e.1
    · have : (p.1 == e.1.1 && p.2 == e.1.2) = true := by rw [h]; simp
      rw [this, if_pos h]
      simp only [h, beq_port, if_true]
    · have : (p.1 == e.1.1 && p.2 == e.1.2) = false := by
        cases hh : (p.1 == e.1.1 && p.2 == e.1.2) with
        | false => rfl
        | true =>
          simp only [Bool.and_eq_true, beq_iff_eq] at hh
          exact absurd (Prod.ext hh.1 hh.2) h
      rw [this, if_neg h]
      exact find_port p r (i + 1)

theorem findKey_port (p : Int × Int) (L : List Ent) : aFindKey Tryz.prog 113 (portV p) (L.map entV) = some (findE p L 0) := by
  simp only [aFindKey, key_port, if_true, find_port]

/-- What a map holds for a port. -/
def valE (p : Int × Int) (L : List Ent) : Option AV := (findE p L 0).map (·.2.1)

/-- A map in the heap. -/
def MapAt (h : AH) (r : Sk.Id) (M : Int × Int → Option AV) : Prop := ∃ (L : List Ent) (clock : Nat), h.get r = some (.map (L.map entV) clock) ∧ ∀ p, valE p L = M p

theorem lookup_M {t et : TypeId} {h : AH} {r : Sk.Id} {M : Int × Int → Option AV} {z : AV} (ht : Tryz.prog.underlying t = some (.map 113 et)) (hz : zeroT Tryz.prog et = some z) (hM : MapAt h r M) (p : Int × Int) :
    vOf h (aLookup Tryz.prog t (.map r) (portV p) false h) = some (.ret ((M p).getD z), h) := by
  obtain ⟨L, clock, hg, hv⟩ := hM
  have := hv p
  unfold valE at this
  simp only [aLookup, ht, aEntries, hg, findKey_port]
  cases hf : findE p L 0 with
  | none => rw [hf] at this; rw [← this]; simp [hz, vOf]
  | some e => obtain ⟨k, v, b⟩ := e; rw [hf] at this; rw [← this]; simp [vOf]
abbrev Wr := Int × Int × Int × Int
def wA (w : Wr) : Int × Int := (w.1, w.2.1)
def wB (w : Wr) : Int × Int := (w.2.2.1, w.2.2.2)

abbrev Mp := Int × Int → Option AV
/-- Nothing that was there is lost. -/
def Kept (n0 : Nat) (g : AH) (h : AH) : Prop := (∀ q o, g.get q = some o → q.nat < n0 → h.get q = some o) ∧ n0 ≤ h.next.nat

theorem Kept.alloc {n0 : Nat} {g h : AH} (hk : Kept n0 g h) (o : AO) : Kept n0 g (h.alloc o) :=
  ⟨fun q o' hq hlt => kept_alloc (hk.1 q o' hq hlt) (Nat.lt_of_lt_of_le hlt hk.2), by rw [AH.next_alloc, Id.nat_succ]; have := hk.2; omega⟩
theorem Kept.set {n0 : Nat} {g h : AH} (hk : Kept n0 g h) {r : Sk.Id} (o : AO) (hr : n0 ≤ r.nat) : Kept n0 g (h.set r o) :=
  ⟨fun q o' hq hlt => by rw [AH.get_set, if_neg (by rintro rfl; omega)]; exact hk.1 q o' hq hlt, by rw [AH.next_set]; exact hk.2⟩
theorem Kept.refl (h : AH) : Kept h.next.nat h h := ⟨fun q o hq _ => hq, Nat.le_refl _⟩
theorem MapAt.keep {h h' : AH} {r : Sk.Id} {M : Mp} (hM : MapAt h r M) (hk : ∀ o, h.get r = some o → h'.get r = some o) : MapAt h' r M := by
  obtain ⟨L, c, h1, h2⟩ := hM
  exact ⟨L, c, hk _ h1, h2⟩
/-- The first cell that is none. -/
def badCell (len : Nat) : List Int → Nat → Option Nat
  | [], _ => none
  | a :: r, i => if a < 0 ∨ a ≥ len then some i else badCell len r (i + 1)

abbrev Sn := Int × Int → Bool
def addS (S : Sn) (p : Int × Int) : Sn := fun q => if q = p then true else S q
def wiresF (s : List Ag) (cells : List Int) (f : Int) : List Wr → Nat → Sn → (Int × Int) ⊕ Sn
  | [], _, S => .inr S
  | w :: r, i, S =>
    cond (!isPort s cells f (wA w) || !isPort s cells f (wB w)) (.inl (30, i))
      (cond (S (wA w) || S (wB w) || (wA w == wB w)) (.inl (31, i)) (wiresF s cells f r (i + 1) (addS (addS S (wA w)) (wB w))))
def openF (S : Sn) : List (Int × Int) → Nat → Int × Int
  | [], _ => (0, 0)
  | p :: r, i => if S p = false then (32, i) else openF S r (i + 1)

def netChk (s : List Ag) (n : Nt) : Int × Int :=
  if (sigChk s).1 ≠ 0 then sigChk s
  else if n.cells.length > 4096 ∨ n.free > 64 then (15, 0)
  else if n.free < 0 then (1, 0)
  else match badCell s.length n.cells 0 with
    | some i => (20, i)
    | none => match wiresF s n.cells n.free n.wires 0 fun _ => false with
      | .inl e => e
      | .inr S => openF S (portsL s n) 0

/-- The seen ones, as a map. -/
def SM (S : Sn) : Mp := fun p => if S p then some (.bool true) else none
structure Env (i2 i3 i4 i5 : Sk.Id) (x c w : AV) (f : Int) (h : AH) : Prop where
  g2 : h.get i2 = some (.cells [x] 35)
  g3 : h.get i3 = some (.cells [c, .int .i64 f, w] 25)
  g4 : ∃ v, h.get i4 = some (.cells [v] 40)
  g5 : ∃ v, h.get i5 = some (.cells [v] 3)
  l2 : i2.nat < h.next.nat
  l3 : i3.nat < h.next.nat
  l4 : i4.nat < h.next.nat
  l5 : i5.nat < h.next.nat

theorem Env.keep {i2 i3 i4 i5 : Sk.Id} {x c w : AV} {f : Int} {h h' : AH} (E : Env i2 i3 i4 i5 x c w f h) (hk : Kept h.next.nat h h') : Env i2 i3 i4 i5 x c w f h' := by
  obtain ⟨v4, g4⟩ := E.g4
  obtain ⟨v5, g5⟩ := E.g5
  have := hk.2
  exact ⟨hk.1 _ _ E.g2 E.l2, hk.1 _ _ E.g3 E.l3, ⟨v4, hk.1 _ _ g4 E.l4⟩, ⟨v5, hk.1 _ _ g5 E.l5⟩, Nat.lt_of_lt_of_le E.l2 this, Nat.lt_of_lt_of_le E.l3 this, Nat.lt_of_lt_of_le E.l4 this, Nat.lt_of_lt_of_le E.l5 this⟩

/-- The answer is written. -/
theorem Env.fin {i2 i3 i4 i5 : Sk.Id} {x c w : AV} {f : Int} {h : AH} (E : Env i2 i3 i4 i5 x c w f h) (hne : i4 ≠ i5) (e a : Int) : ∃ h', 
    hOf (aStore Tryz.prog 40 (.ptr i4 0) (.int .i64 e) h) = some (.ret undefA, h.set i4 (.cells [.int .i64 e] 40)) ∧
    hOf (aStore Tryz.prog 3 (.ptr i5 0) (.int .i64 a) (h.set i4 (.cells [.int .i64 e] 40))) = some (.ret undefA, h') ∧
    h'.get i4 = some (.cells [.int .i64 e] 40) ∧ h'.get i5 = some (.cells [.int .i64 a] 3) := by
  obtain ⟨v4, g4⟩ := E.g4
  obtain ⟨v5, g5⟩ := E.g5
  have g5' : (h.set i4 (.cells [.int .i64 e] 40)).get i5 = some (.cells [v5] 3) := by rw [AH.get_set, if_neg hne.symm]; exact g5
  refine ⟨(h.set i4 (.cells [.int .i64 e] 40)).set i5 (.cells [.int .i64 a] 3), st_ptr (n := 1) g4 (by kernel_rfl) rfl (by simp) rfl, st_ptr (n := 1) g5' (by kernel_rfl) rfl (by simp) rfl, ?_, ?_⟩
  · rw [AH.get_set, if_neg hne, AH.get_set, if_pos rfl]
  · rw [AH.get_set, if_pos rfl]

section
variable {i2 i3 i4 i5 : Sk.Id} {x c w : AV} {f : Int}

end
section
variable {i2 i3 i4 i5 i11 r : Sk.Id} {x c w : AV} {f : Int}

structure Seen (i11 r : Sk.Id) (S : Sn) (h : AH) : Prop where
  aB : h.get i11 = some (.cells [.map r] 176)
  l11 : i11.nat < h.next.nat
  gm : MapAt h r (SM S)
  lr : r.nat < h.next.nat

theorem Seen.keep {S : Sn} {h h' : AH} (E : Seen i11 r S h) (hk : Kept h.next.nat h h') : Seen i11 r S h' :=
  ⟨hk.1 _ _ E.aB E.l11, Nat.lt_of_lt_of_le E.l11 hk.2, E.gm.keep fun o ho => hk.1 _ _ ho E.lr, Nat.lt_of_lt_of_le E.lr hk.2⟩

end
theorem drawn_df {X : Cx} {fn : FuncId} {ops : Array Oper} {s : ASt} {r : AExit × ASt} (h : drawn X fn ops s = some r) : r.2.df = s.df := by
  unfold drawn at h
  split at h
  · cases h
  · split at h
    · cases h
    · split at h
      · simp only [Option.some.injEq] at h; subst h; rfl
      · cases h

/-- Code without ranges over functions leaves the deferred rows alone. -/
theorem evCode_df {X : Cx} {rgn : Nat → Array Oper → ASt → Option (AExit × ASt)} {fn : FuncId} {rd : Option Sk.Id} {n : Nat} (hr : ∀ id ops s r, rgn id ops s = some r → r.2.df = s.df) :
    ∀ (c : Code) (s : ASt) (r : AExit × ASt), noDefs c = true → evCode X rgn fn rd n c s = some r → r.2.df = s.df := by
  intro c
  induction c with
  | skip => intro s r _ h; simp only [evCode, Option.some.injEq] at h; subst h; rfl
  | label l => intro s r _ h; simp only [evCode, Option.some.injEq] at h; subst h; rfl
  | exit i => intro s r _ h; simp only [evCode, Option.some.injEq] at h; subst h; rfl
  | ret => intro s r _ h; simp only [evCode, Option.some.injEq] at h; subst h; rfl
  | goto l => intro s r _ h; simp only [evCode] at h; cases h
  | refuse l => intro s r _ h; simp only [evCode] at h; cases h
  | rangeFunc f ps a b _ _ => intro s r hn; cases hn
  | region id ops draw =>
    intro s r _ h
    simp only [evCode] at h
    split at h
    · exact hr _ _ _ _ h
    · exact (evOps_exit h).2
  | seq a b iha ihb =>
    intro s r hn h
    simp only [noDefs, Bool.and_eq_true] at hn
    simp only [evCode, thenA] at h
    split at h
    · rename_i s' he
      rw [ihb _ _ hn.2 h, iha _ _ hn.1 he]
    · exact iha _ _ hn.1 h
  | cond c t e iht ihe =>
    intro s r hn h
    simp only [noDefs, Bool.and_eq_true] at hn
    simp only [evCode] at h
    split at h
    · exact iht _ _ hn.1 h
    · exact ihe _ _ hn.2 h
    · cases h
  | block id b ih =>
    intro s r hn h
    simp only [evCode, outBlock] at h
    split at h
    · rename_i i s' he
      have := ih _ _ hn he
      split at h
      · simp only [Option.some.injEq] at h; subst h; exact this
      · simp only [Option.some.injEq] at h; subst h; exact this
    · exact ih _ _ hn h
  | loop b ih =>
    intro s r hn h
    simp only [evCode] at h
    have key : ∀ m s r, iter (evCode X rgn fn rd n b) m s = some r → r.2.df = s.df := by
      intro m
      induction m with
      | zero => intro s r h; cases h
      | succ m im =>
        intro s r h
        simp only [iter] at h
        split at h
        · rename_i s' he
          rw [im _ _ h, ih _ _ hn he]
        · exact ih _ _ hn h
    exact key n s r h
  | scope b ih => intro s r hn h; exact ih s r hn h

/-- The ranges over functions of a code. -/
def ranges : Code → List (Code × Code)
  | .seq a b => ranges a ++ ranges b
  | .cond _ a b => ranges a ++ ranges b
  | .block _ b => ranges b
  | .loop b => ranges b
  | .scope b => ranges b
  | .rangeFunc _ _ a b => [(a, b)]
  | _ => []
def rngA (c : Code) (i : Nat) : Code := ((ranges c).getD i (.skip, .skip)).1
def rngB (c : Code) (i : Nat) : Code := ((ranges c).getD i (.skip, .skip)).2

/-- A round, its slots set. -/
noncomputable def cR (P : Program) (mu : FuncId → Nat → Bool) (call : CallT) (rgn : RgnT) (tab : Nat → Option (List Nat)) (n : Nat) (l : Sk.Id) (fn : FuncId) (a b : Code) (tm : List AV) (h : AH) : Option (AOut × AH) :=
  cCode ⟨P, mu, call⟩ rgn fn tab (some l) n a ⟨tm, [], h⟩ fun x s =>
    match x with
    | .normal => (match s with | ⟨tm, _, h⟩ => atBusy l h fun h2 => cCode ⟨P, mu, call⟩ rgn fn tab (some l) n b ⟨tm, [], h2⟩ fun x s => atRound l x s)
    | _ => none

theorem ev_yield {hk : Hooks} (tab : Nat → Option (List Nat)) {n : Nat} {l : Sk.Id} {st : LoopState} {pd : Option Code} {fn : FuncId} {tm tm1 : List AV} {ps : Array Tmp} {a b : Code} {d : Sk.Id} {args : List AV} {h : AH} {y : AOut × AH}
    (hg : h.get l = some (.loop st pd fn tm ps a b d)) (hl : args.length = ps.size) (hta : tabFits Tryz.prog (mu0 fn) tab a = true) (htb : tabFits Tryz.prog (mu0 fn) tab b = true) (hna : noDefs a = true) (hset : setTmps tm ps.toList args = tm1)
    (hv : cR Tryz.prog mu0 (evCall (mkEv Tryz.prog mu0 hk) n) (rg Tryz.prog mu0 hk n fn) tab n l fn a b tm1 h = some y) : evCall (mkEv Tryz.prog mu0 hk) (n + 1) (.yield l) args h = some y :=
  ev_of_cYield tab hg hl hta htb (fun x s he => evCode_df (fun _ _ _ _ h => drawn_df h) a _ _ hna he) (by
    subst hset
    unfold cYield
    rw [forceL_eq]
    exact hv)

section
variable {i2 i3 i4 i5 i11 r b2 b3 l d : Sk.Id} {x c w : AV} {f : Int}

theorem setLoop {l : Sk.Id} {st st' : LoopState} {pd pd' : Option Code} {fn : FuncId} {tm : List AV} {ps : Array Tmp} {a b : Code} {d : Sk.Id} {h : AH} {g : LoopState → Option Code → Option (LoopState × Option Code)}
    (hg : h.get l = some (.loop st pd fn tm ps a b d)) (hf : g st pd = some (st', pd')) : aSetLoop l g h = some (h.set l (.loop st' pd' fn tm ps a b d)) := by
  simp only [aSetLoop, hg, hf]

end
section
variable {i2 i3 i4 i5 i11 r b2 b3 l d : Sk.Id} {x c w : AV} {f : Int}

end
theorem b32 (call rgn n) (x c w : AV) (f : Int) (h : AH) (hxs : x.scalar = true) (hcs : c.scalar = true) (hws : w.scalar = true) :
    B shT call rgn n 104 Tryz.f104 [x, .agg [c, .int .i64 f, w]] h = some (.ret (.fn (.func 152) [] [.ptr (h.alloc (.cells [x] 35)).next 0, .ptr h.next 0]), (h.alloc (.cells [x] 35)).alloc (.cells [c, .int .i64 f, w] 25)) := by
  conv => lhs; whnf
  refine atCall_ret (box_new (cs := [x]) (by cases x <;> first | rfl | (simp [AV.scalar] at hxs)) (by simp only [List.all_cons, hxs, List.all_nil]; rfl)) ?_
  conv => lhs; whnf
  refine atCall_ret (box_new (cs := [c, .int .i64 f, w]) rfl (by simp only [List.all_cons, hcs, hws, List.all_nil]; rfl)) ?_
  conv => lhs; whnf
  exact leave_eq (.inl rfl) rfl rfl

theorem isL_scalar {x : AV} {xs : List AV} (h : IsL x xs) : x.scalar = true := by
  rcases h with ⟨rfl, _⟩ | ⟨c, rfl⟩ <;> rfl
theorem isL_cells {x : AV} {xs : List AV} (h : IsL x xs) : x.cells = [x] := by
  rcases h with ⟨rfl, _⟩ | ⟨c, rfl⟩ <;> rfl
def decInt : AV → Option Int
  | .int .i64 a => some a
  | _ => none
def decWire : AV → Option Wr
  | .agg [.int .i64 a, .int .i64 b, .int .i64 c, .int .i64 d] => some (a, b, c, d)
  | _ => none
def netOf : AV → Option Nt
  | .agg [c, .int .i64 f, w] => match decL decInt intV c, decL decWire wireV w with | some cs, some ws => some ⟨cs, f, ws⟩ | _, _ => none
  | _ => none

theorem h31_of {hk : Hooks} {n : Nat} (hk31' : ∀ args h, hk 103 args h = hk31 103 args h) (hn : 0 < n) : h31 (evCall (mkEv Tryz.prog mu0 hk) n) := fun x s a h hx => ev_hk (by
  rw [hk31']
  refine hk_top (by simp [freeL, freeV, sig_free hx]) ?_
  show (match sigOf (weakV x) with | some s => some (AV.int .i64 (portsN s a)) | none => none) = _
  rw [sigOf_of hx]) hn

def s16 : List AV → Option AV
  | [x, v] => match sigOf x, netOf v with
    | some s, some n => if n.wires.length ≤ 1000000000 then some (.tup [.int .i64 (netChk s n).1, .int .i64 (netChk s n).2]) else none
    | _, _ => none
  | _ => none
def hk16 := addHk hk14 53 s16
def before (p q : Int × Int) : Bool := decide (p.1 < q.1) || ((p.1 == q.1) && decide (p.2 < q.2))

def decPort : AV → Option (Int × Int)
  | .agg [.int .i64 a, .int .i64 b] => some (a, b)
  | _ => none
def s35 : List AV → Option AV
  | [a, b] => match decPort a, decPort b with | some p, some q => some (.bool (before p q)) | _, _ => none
  | _ => none
def s25 : List AV → Option AV
  | [x, v] => match sigOf x, netOf v with
    | some s, some n => if n.wires.length ≤ 1000000000 then some (.int .i64 (netChk s n).1) else none
    | _, _ => none
  | _ => none
def hk35 := addHk hk16 110 s35
def hk25 := addHk hk35 56 s25
theorem grow_alloc {h : AH} {l : AV} {xs : List AV} (hg : Grow h l xs) (o : AO) : Grow (h.alloc o) l xs := by
  rcases hg with h1 | ⟨g, e1, e2, e3, e4⟩
  · exact .inl h1
  · refine .inr ⟨g, e1, e2, kept_alloc e3 e4, ?_⟩
    rw [AH.next_alloc, Id.nat_succ]; omega

/-- What a list's group is not. -/
def NotGrp (h : AH) (q : Sk.Id) : Prop := ∀ n, h.get q ≠ some (.grp n)

theorem grow_set {h : AH} {l : AV} {xs : List AV} (hg : Grow h l xs) {q : Sk.Id} (o : AO) (hq : NotGrp h q) : Grow (h.set q o) l xs := by
  rcases hg with h1 | ⟨g, e1, e2, e3, e4⟩
  · exact .inl h1
  · refine .inr ⟨g, e1, e2, ?_, by rw [AH.next_set]; exact e4⟩
    rw [AH.get_set, if_neg (by rintro rfl; exact hq _ e3)]; exact e3

theorem grow_own {h : AH} {l : AV} {xs : List AV} (hg : Grow h l xs) {q : Sk.Id} (hq : NotGrp h q) : ownOf l ≠ some q := by
  rcases hg with ⟨rfl, _⟩ | ⟨g, rfl, e2, e3, e4⟩
  · simp [ownOf]
  · simp only [ownOf, ne_eq, Option.some.injEq]; rintro rfl; exact hq _ e3

theorem grow_isL {h : AH} {l : AV} {xs : List AV} (hg : Grow h l xs) : IsL l xs := by
  rcases hg with ⟨rfl, rfl⟩ | ⟨g, rfl, _⟩
  · exact .inl ⟨rfl, rfl⟩
  · exact .inr ⟨_, rfl⟩

theorem wires_append {call : CallT} {W : List Wr} {t : Wr} {h : AH} {l : AV} {c : Cap} (hl : Grow h l (W.map wireV)) (hb : W.length ≤ 1000000000) :
    ∃ l' h', aBuiltin ⟨Tryz.prog, mu0, call⟩ false .append #[23, 23] [l, .vsl [wireV t] c] h = some (.ret l', h') ∧ Grow h' l' ((W ++ [t]).map wireV) ∧ h.next.nat ≤ h'.next.nat ∧ (∀ q o, h.get q = some o → NotGrp h q → q.nat < h.next.nat → h'.get q = some o) := by
  have hhw : headOk 4 (W.map wireV) = true := by cases W <;> rfl
  obtain ⟨l', h', h1, h2, h3, h4⟩ := append_grow (P := Tryz.prog) (types := #[23, 23]) (t := 23) (tx := 23) (elem := 115) (d := .slice 115) (n := 4) (z := .agg [.int .i64 0, .int .i64 0, .int .i64 0, .int .i64 0]) (x := .vsl [wireV t] c) (ys := [wireV t]) rfl rfl (by kernel_rfl) (by kernel_rfl)
    (by intro k h; cases h) rfl (by kernel_rfl) (by kernel_rfl) (by omega) rfl rfl (by simp) rfl hhw hl
    (by rw [show Tryz.prog.bytesOf 115 = 32 by kernel_rfl]; simp; omega) (by simp; omega)
  refine ⟨l', h', ?_, by rw [List.map_append]; exact h2, h3, fun q o hq hn hlt => h4 q o hq (grow_own hl hn) hlt⟩
  show vhOf (aAppend Tryz.prog false #[23, 23] _ _ h) = _
  rw [h1]; rfl

section
variable {n0 : Nat} {gg : AH} {i7 i8 i9 r b2 b3 l d : Sk.Id} {x c : AV} {f : Int}

/-- Nothing that was there is lost, lists that grow left aside. -/
def KeptC (n0 : Nat) (g : AH) (h : AH) : Prop := (∀ q o, g.get q = some o → (∀ n, o ≠ .grp n) → q.nat < n0 → h.get q = some o) ∧ n0 ≤ h.next.nat
theorem KeptC.alloc {n0 : Nat} {g h : AH} (hk : KeptC n0 g h) (o : AO) : KeptC n0 g (h.alloc o) :=
  ⟨fun q o' hq hn hlt => kept_alloc (hk.1 q o' hq hn hlt) (Nat.lt_of_lt_of_le hlt hk.2), by rw [AH.next_alloc, Id.nat_succ]; have := hk.2; omega⟩
theorem KeptC.set {n0 : Nat} {g h : AH} (hk : KeptC n0 g h) {r : Sk.Id} (o : AO) (hr : n0 ≤ r.nat) : KeptC n0 g (h.set r o) :=
  ⟨fun q o' hq hn hlt => by rw [AH.get_set, if_neg (by rintro rfl; omega)]; exact hk.1 q o' hq hn hlt, by rw [AH.next_set]; exact hk.2⟩

structure Rnd26 (n0 : Nat) (g0 : AH) (i7 i8 i9 r b2 b3 l d : Sk.Id) (x c : AV) (f : Int) (N : Int × Int → Option (Int × Int)) (tm : List AV) (W : List Wr) (h : AH) : Prop where
  kp : KeptC n0 g0 h
  g7 : h.get i7 = some (.cells [.map r] 124)
  g8 : ∃ cs, h.get i8 = some (.cells cs 25) ∧ cs.length = 3
  g9 : ∃ wl, h.get i9 = some (.cells [c, .int .i64 f, wl] 25) ∧ Grow h wl (W.map wireV)
  gm : MapAt h r fun p => (N p).map portV
  pg : PortsG b2 b3 x c .nilsl f h
  gl : h.get l = some (.loop .ready none 57 tm #[21, 22] (rngA (codeOf Tryz.f57) 0) (rngB (codeOf Tryz.f57) 0) d)
  gd : h.get d = some (.defs true)
  lr : l.nat < h.next.nat

/-- What a port's wire is. -/
def valN (N : Int × Int → Option (Int × Int)) (p : Int × Int) : Int × Int := (N p).getD (0, 0)
def addW (N : Int × Int → Option (Int × Int)) (W : List Wr) (p : Int × Int) : List Wr := if before p (valN N p) then W ++ [(p.1, p.2, (valN N p).1, (valN N p).2)] else W

def h35 (call : CallT) : Prop := ∀ a b p q h, a = portV p → b = portV q → call (.func 110) [a, b] h = some (.ret (.bool (before p q)), h)

theorem y26 (call rgn n) (N : Int × Int → Option (Int × Int)) (W : List Wr) (hWl : W.length ≤ 100000000) (p : Int × Int) (pv : AV) (hpv : pv = portV p) (i : AV) (h : AH) (tm0 : List AV) (h35 : h35 call) {g0 g1 g2 g3 g4 g5 g6 g8 aA aB aC aD aE aF aG aH aI aJ aK aN aO aP aQ aR aS aT aU aV aW aX aY aZ bA bB : AV} (hR : Rnd26 n0 gg i7 i8 i9 r b2 b3 l d x c f N tm0 W h)
    (o0 : n0 ≤ i7.nat) (o1 : r.nat < i7.nat) (o2 : i7.nat < i8.nat) (o3 : i8.nat < i9.nat) (o4 : i9.nat < b2.nat) (o5 : b2.nat < b3.nat) (o6 : b3.nat < d.nat) (o7 : d.nat < l.nat) :
    ∃ h', cR Tryz.prog mu0 call rgn shT n l 57 (rngA (codeOf Tryz.f57) 0) (rngB (codeOf Tryz.f57) 0) [g0,g1,g2,g3,g4,g5,g6,.ptr i7 0,g8,.ptr i9 0,aA,aB,aC,aD,aE,aF,aG,aH,aI,aJ,aK,i,pv,aN,aO,aP,aQ,aR,aS,aT,aU,aV,aW,aX,aY,aZ,bA,bB] h = some (.ret (.bool true), h') ∧ Rnd26 n0 gg i7 i8 i9 r b2 b3 l d x c f N tm0 (addW N W p) h' := by
  have um : Tryz.prog.underlying 124 = some (.map 113 113) := by kernel_rfl
  suffices hq : ∀ Q : Option (AOut × AH) → Prop, (∀ h', Rnd26 n0 gg i7 i8 i9 r b2 b3 l d x c f N tm0 (addW N W p) h' → Q (some (.ret (.bool true), h'))) → Q (cR Tryz.prog mu0 call rgn shT n l 57 (rngA (codeOf Tryz.f57) 0) (rngB (codeOf Tryz.f57) 0) [g0,g1,g2,g3,g4,g5,g6,.ptr i7 0,g8,.ptr i9 0,aA,aB,aC,aD,aE,aF,aG,aH,aI,aJ,aK,i,pv,aN,aO,aP,aQ,aR,aS,aT,aU,aV,aW,aX,aY,aZ,bA,bB] h) from
    hq (fun y => ∃ h', y = some (.ret (.bool true), h') ∧ Rnd26 n0 gg i7 i8 i9 r b2 b3 l d x c f N tm0 (addW N W p) h') fun h' h1 => ⟨h', rfl, h1⟩
  intro Q hT
  conv => arg 1; whnf
  refine atCall_P (alloc_new (z := .agg [.int .i64 0, .int .i64 0]) (cs := [.int .i64 0, .int .i64 0]) (by kernel_rfl) rfl rfl) ?_
  conv => arg 1; whnf
  have hst := st_new (h := h) (cs0 := [.int .i64 0, .int .i64 0]) (v := pv) (cs := [.int .i64 p.1, .int .i64 p.2]) (T := 113) (n := 2) (P := Tryz.prog) (by kernel_rfl) (by rw [hpv]; rfl) rfl rfl rfl
  refine atCall_P hst ?_
  obtain ⟨hget, hnx, hkeep⟩ := new_obj h [.int .i64 0, .int .i64 0] [.int .i64 p.1, .int .i64 p.2] 113
  obtain ⟨cs8, g8, l8⟩ := hR.g8
  obtain ⟨wl, g9, gw⟩ := hR.g9
  obtain ⟨Lm, ck, gmr, gmv⟩ := hR.gm
  have lr := hR.lr
  have kp := hR.kp
  have kp2 := (kp.alloc (.cells [.int .i64 0, .int .i64 0] 113)).set (r := h.next) (.cells [.int .i64 p.1, .int .i64 p.2] 113) kp.2
  have hqn0 := kp.2
  have hk2 : Kept h.next.nat h ((h.alloc (.cells [.int .i64 0, .int .i64 0] 113)).set h.next (.cells [.int .i64 p.1, .int .i64 p.2] 113)) := ((Kept.refl h).alloc _).set _ (Nat.le_refl _)
  have ngp : NotGrp (h.alloc (.cells [.int .i64 0, .int .i64 0] 113)) h.next := fun n => by rw [AH.get_alloc, if_pos rfl]; simp
  have gw2 := grow_set (grow_alloc gw (.cells [.int .i64 0, .int .i64 0] 113)) (.cells [.int .i64 p.1, .int .i64 p.2] 113) ngp
  generalize ((h.alloc (.cells [.int .i64 0, .int .i64 0] 113)).set h.next (.cells [.int .i64 p.1, .int .i64 p.2] 113)) = h2 at hget hnx hk2 gw2 kp2 ⊢
  have a7 := hk2.1 _ _ hR.g7 (by omega)
  have a8 := hk2.1 _ _ g8 (by omega)
  have a9 := hk2.1 _ _ g9 (by omega)
  have ar := hk2.1 _ _ gmr (by omega)
  have ab2 := hk2.1 _ _ hR.pg.g2 (by omega)
  have ab3 := hk2.1 _ _ hR.pg.g3 (by omega)
  have al := hk2.1 _ _ hR.gl (by omega)
  have ad := hk2.1 _ _ hR.gd (by omega)
  have hql : l.nat < h.next.nat := lr
  clear hst hkeep hk2 ngp gw hR g8 g9 gmr kp
  generalize h.next = q at hget hnx hql hqn0 ⊢
  conv => arg 1; whnf
  refine atBusy_P (setLoop (st' := .busy) (pd' := none) al rfl) ?_
  have ngl : NotGrp h2 l := fun n => by rw [al]; simp
  have gw3 := grow_set gw2 (.loop .busy none 57 tm0 #[21, 22] (rngA (codeOf Tryz.f57) 0) (rngB (codeOf Tryz.f57) 0) d) ngl
  have k3 : ∀ q' o, h2.get q' = some o → q'.nat ≠ l.nat → (h2.set l (.loop .busy none 57 tm0 #[21, 22] (rngA (codeOf Tryz.f57) 0) (rngB (codeOf Tryz.f57) 0) d)).get q' = some o := fun q' o hq hne => by rw [AH.get_set, if_neg (by rintro rfl; exact hne rfl)]; exact hq
  have bl : (h2.set l (.loop .busy none 57 tm0 #[21, 22] (rngA (codeOf Tryz.f57) 0) (rngB (codeOf Tryz.f57) 0) d)).get l = some (.loop .busy none 57 tm0 #[21, 22] (rngA (codeOf Tryz.f57) 0) (rngB (codeOf Tryz.f57) 0) d) := by rw [AH.get_set, if_pos rfl]
  have kp3 := kp2.set (r := l) (.loop .busy none 57 tm0 #[21, 22] (rngA (codeOf Tryz.f57) 0) (rngB (codeOf Tryz.f57) 0) d) (by omega)
  have n3 : (h2.set l (.loop .busy none 57 tm0 #[21, 22] (rngA (codeOf Tryz.f57) 0) (rngB (codeOf Tryz.f57) 0) d)).next = h2.next := rfl
  generalize (h2.set l (.loop .busy none 57 tm0 #[21, 22] (rngA (codeOf Tryz.f57) 0) (rngB (codeOf Tryz.f57) 0) d)) = h3 at gw3 k3 bl n3 kp3 ⊢
  have b7 := k3 _ _ a7 (by omega)
  have b8 := k3 _ _ a8 (by omega)
  have b9 := k3 _ _ a9 (by omega)
  have br := k3 _ _ ar (by omega)
  have bb2 := k3 _ _ ab2 (by omega)
  have bb3 := k3 _ _ ab3 (by omega)
  have bd := k3 _ _ ad (by omega)
  have bq := k3 _ _ hget (by omega)
  clear gw2 k3 a7 a8 a9 ar ab2 ab3 al ad hget ngl
  have hn3 : q.nat + 1 = h3.next.nat := by rw [n3]; exact hnx
  clear hnx n3
  have lm : vOf h3 (aLoad Tryz.prog 124 (.ptr i7 0) h3) = some (.ret (.map r), h3) := ld_ptr (n := 1) b7 (by kernel_rfl) (by kernel_rfl) rfl
  have lp : vOf h3 (aLoad Tryz.prog 113 (.ptr q 0) h3) = some (.ret (portV p), h3) := ld_agg (n := 2) bq (by kernel_rfl) (by kernel_rfl) (by simp)
  have lk := lookup_M (h := h3) um (z := portV (0, 0)) (by kernel_rfl) ⟨Lm, ck, br, gmv⟩ p
  have hval : ((N p).map portV).getD (portV (0, 0)) = portV (valN N p) := by unfold valN; cases N p <;> rfl
  rw [hval] at lk
  generalize hvq : valN N p = vq at lk
  conv => arg 1; whnf
  refine atCall_P lm ?_
  conv => arg 1; whnf
  refine atCall_P lp ?_
  conv => arg 1; whnf
  refine atCall_P lk ?_
  generalize hpp : portV p = pp
  generalize hqq : portV vq = qq
  conv => arg 1; whnf
  refine atCall_P (alloc_new (z := .agg [.int .i64 0, .int .i64 0]) (cs := [.int .i64 0, .int .i64 0]) (by kernel_rfl) rfl rfl) ?_
  have hst := st_new (h := h3) (cs0 := [.int .i64 0, .int .i64 0]) (v := qq) (cs := [.int .i64 vq.1, .int .i64 vq.2]) (T := 113) (n := 2) (P := Tryz.prog) (by kernel_rfl) (by rw [← hqq]; rfl) rfl rfl rfl
  refine atCall_P hst ?_
  obtain ⟨hget, hnx, hkeep⟩ := new_obj h3 [.int .i64 0, .int .i64 0] [.int .i64 vq.1, .int .i64 vq.2] 113
  have hk2 : Kept h3.next.nat h3 ((h3.alloc (.cells [.int .i64 0, .int .i64 0] 113)).set h3.next (.cells [.int .i64 vq.1, .int .i64 vq.2] 113)) := ((Kept.refl h3).alloc _).set _ (Nat.le_refl _)
  have ngp : NotGrp (h3.alloc (.cells [.int .i64 0, .int .i64 0] 113)) h3.next := fun n => by rw [AH.get_alloc, if_pos rfl]; simp
  have kp4 := (kp3.alloc (.cells [.int .i64 0, .int .i64 0] 113)).set (r := h3.next) (.cells [.int .i64 vq.1, .int .i64 vq.2] 113) kp3.2
  have gw4 := grow_set (grow_alloc gw3 (.cells [.int .i64 0, .int .i64 0] 113)) (.cells [.int .i64 vq.1, .int .i64 vq.2] 113) ngp
  generalize ((h3.alloc (.cells [.int .i64 0, .int .i64 0] 113)).set h3.next (.cells [.int .i64 vq.1, .int .i64 vq.2] 113)) = h4 at hget hnx hk2 gw4 kp4 ⊢
  have c7 := hk2.1 _ _ b7 (by omega)
  have c8 := hk2.1 _ _ b8 (by omega)
  have c9 := hk2.1 _ _ b9 (by omega)
  have cr := hk2.1 _ _ br (by omega)
  have cb2 := hk2.1 _ _ bb2 (by omega)
  have cb3 := hk2.1 _ _ bb3 (by omega)
  have cd := hk2.1 _ _ bd (by omega)
  have cl := hk2.1 _ _ bl (by omega)
  have cq := hk2.1 _ _ bq (by omega)
  clear hst hkeep hk2 ngp gw3 b7 b8 b9 br bb2 bb3 bd bl bq lm lp lk
  generalize hq2 : h3.next = q2 at hget hnx hn3 ⊢
  clear hq2
  have lp : vOf h4 (aLoad Tryz.prog 113 (.ptr q 0) h4) = some (.ret pp, h4) := by rw [← hpp]; exact ld_agg (n := 2) cq (by kernel_rfl) (by kernel_rfl) (by simp)
  have lq : vOf h4 (aLoad Tryz.prog 113 (.ptr q2 0) h4) = some (.ret qq, h4) := by rw [← hqq]; exact ld_agg (n := 2) hget (by kernel_rfl) (by kernel_rfl) (by simp)
  have lw : vOf h4 (aLoad Tryz.prog 23 (.ptr i9 2) h4) = some (.ret wl, h4) := ld_ptr (n := 1) c9 (by kernel_rfl) (by kernel_rfl) rfl
  -- the end of a round
  have done : ∀ (h5 : AH) (wl' : AV) (W' : List Wr), KeptC n0 gg h5 → addW N W p = W' → h5.get i7 = some (.cells [.map r] 124) → (∃ cs, h5.get i8 = some (.cells cs 25) ∧ cs.length = 3) → h5.get i9 = some (.cells [c, .int .i64 f, wl'] 25) → Grow h5 wl' (W'.map wireV) → h5.get r = some (.map (Lm.map entV) ck) → h5.get b2 = some (.cells [x] 35) → h5.get b3 = some (.cells [c, .int .i64 f, .nilsl] 25) →
      h5.get d = some (.defs true) → h5.get l = some (.loop .busy none 57 tm0 #[21, 22] (rngA (codeOf Tryz.f57) 0) (rngB (codeOf Tryz.f57) 0) d) → l.nat < h5.next.nat → ∀ {tm : List AV}, Q (atRound l .normal ⟨tm, [], h5⟩) := by
    intro h5 wl' W' ek hW e7 e8 e9 eg er eb2 eb3 ed el en tm
    refine atRound_P (y := some (.ret (.bool true), h5.set l (.loop .ready none 57 tm0 #[21, 22] (rngA (codeOf Tryz.f57) 0) (rngB (codeOf Tryz.f57) 0) d))) ?_ ?_
    · simp only [endRoundA]
      rw [setLoop (st' := .ready) (pd' := none) el rfl]
    · have k : ∀ q' o, h5.get q' = some o → q'.nat ≠ l.nat → (h5.set l (.loop .ready none 57 tm0 #[21, 22] (rngA (codeOf Tryz.f57) 0) (rngB (codeOf Tryz.f57) 0) d)).get q' = some o := fun q' o hq hne => by rw [AH.get_set, if_neg (by rintro rfl; exact hne rfl)]; exact hq
      obtain ⟨cs, e8, e8l⟩ := e8
      refine hT _ ⟨ek.set _ (by omega), k _ _ e7 (by omega), ⟨cs, k _ _ e8 (by omega), e8l⟩, ⟨wl', k _ _ e9 (by omega), ?_⟩, ⟨Lm, ck, k _ _ er (by omega), gmv⟩, ⟨k _ _ eb2 (by omega), k _ _ eb3 (by omega)⟩, by rw [AH.get_set, if_pos rfl], k _ _ ed (by omega), en⟩
      rw [hW]
      exact grow_set eg _ (fun n => by rw [el]; simp)
  conv => arg 1; whnf
  refine atCall_P lp ?_
  conv => arg 1; whnf
  refine atCall_P lq ?_
  conv => arg 1; whnf
  refine atCall_P (h35 pp qq p vq h4 hpp.symm hqq.symm) ?_
  conv => arg 1; whnf
  cases e1 : before p vq
  · conv => arg 1; whnf
    exact done h4 wl W kp4 (by unfold addW; rw [hvq, e1]; rfl) c7 ⟨cs8, c8, l8⟩ c9 gw4 cr cb2 cb3 cd cl (by omega)
  · conv => arg 1; whnf
    refine atCall_P lw ?_
    conv => arg 1; whnf
    refine atCall_P lp ?_
    conv => arg 1; whnf
    refine atCall_P lq ?_
    subst hpp
    subst hqq
    obtain ⟨wl', h5, r1, r2, r3, r4⟩ := wires_append (call := call) (t := (p.1, p.2, vq.1, vq.2)) (c := .lit) gw4 (by omega)
    have ng : ∀ q' o, h4.get q' = some o → (∀ n, o ≠ .grp n) → NotGrp h4 q' := fun q' o hq hne n hg => by rw [hq] at hg; exact hne n (Option.some.inj hg)
    have f7 := r4 _ _ c7 (ng _ _ c7 (by simp)) (by omega)
    have f8 := r4 _ _ c8 (ng _ _ c8 (by simp)) (by omega)
    have f9 := r4 _ _ c9 (ng _ _ c9 (by simp)) (by omega)
    have fr := r4 _ _ cr (ng _ _ cr (by simp)) (by omega)
    have fb2 := r4 _ _ cb2 (ng _ _ cb2 (by simp)) (by omega)
    have fb3 := r4 _ _ cb3 (ng _ _ cb3 (by simp)) (by omega)
    have fd := r4 _ _ cd (ng _ _ cd (by simp)) (by omega)
    have fl := r4 _ _ cl (ng _ _ cl (by simp)) (by omega)
    have hws : wl'.scalar = true := isL_scalar (grow_isL r2)
    have hwc : wl'.cells = [wl'] := isL_cells (grow_isL r2)
    have s9 : hOf (aStore Tryz.prog 23 (.ptr i9 2) wl' h5) = some (.ret undefA, h5.set i9 (.cells [c, .int .i64 f, wl'] 25)) := by
      have := st_ptr (P := Tryz.prog) (t := 23) (n := 1) (off := 2) (v := wl') f9 (by kernel_rfl) (by rw [hwc]; rfl) (by simp) (by rw [hwc]; simp [hws])
      rw [this, hwc]; rfl
    conv => arg 1; whnf
    refine atCall_P r1 ?_
    conv => arg 1; whnf
    refine atCall_P s9 ?_
    conv => arg 1; whnf
    have k : ∀ q' o, h5.get q' = some o → q'.nat ≠ i9.nat → (h5.set i9 (.cells [c, .int .i64 f, wl'] 25)).get q' = some o := fun q' o hq hne => by rw [AH.get_set, if_neg (by rintro rfl; exact hne rfl)]; exact hq
    exact done (h5.set i9 (.cells [c, .int .i64 f, wl'] 25)) wl' (W ++ [(p.1, p.2, vq.1, vq.2)]) (KeptC.set ⟨fun q' o hq hn hlt => r4 _ _ (kp4.1 _ _ hq hn hlt) (ng _ _ (kp4.1 _ _ hq hn hlt) hn) (Nat.lt_of_lt_of_le hlt kp4.2), Nat.le_trans kp4.2 r3⟩ _ (by omega)) (by unfold addW; rw [hvq, e1]; rfl) (k _ _ f7 (by omega)) ⟨cs8, k _ _ f8 (by omega), l8⟩ (by rw [AH.get_set, if_pos rfl]) (grow_set r2 _ (fun n => by rw [f9]; simp)) (k _ _ fr (by omega)) (k _ _ fb2 (by omega)) (k _ _ fb3 (by omega)) (k _ _ fd (by omega)) (k _ _ fl (by omega)) (by rw [AH.next_set]; omega)
end
section
variable {n0 : Nat} {gg : AH} {i7 i8 i9 r b2 b3 l d : Sk.Id} {x c : AV} {f : Int}

def wiresN (N : Int × Int → Option (Int × Int)) : List (Int × Int) → List Wr → List Wr
  | [], W => W
  | p :: ps, W => wiresN N ps (addW N W p)

end
structure C26 (call callY : CallT) (x : AV) (s : List Ag) : Prop where
  c32 : ∀ {c w f} h, c.scalar = true → w.scalar = true → call (.func 104) [x, .agg [c, .int .i64 f, w]] h = some (.ret (.fn (.func 152) [] [.ptr (h.alloc (.cells [x] 35)).next 0, .ptr h.next 0]), (h.alloc (.cells [x] 35)).alloc (.cells [c, .int .i64 f, w] 25))
  c37 : ∀ {c f cells l b2 b3 h h'}, IsL c (cells.map intV) → f ≤ 64 → cells.length ≤ 4096 → PortsG b2 b3 x c .nilsl f h → YRun callY l (PortsG b2 b3 x c .nilsl f) 0 (freePorts f ++ cellsPorts s cells 0) h h' →
    call (.func 152) [.fn (.yield l) [] [], .ptr b3 0, .ptr b2 0] h = some (.ret (.tup []), h')
  cy : ∀ {n0 : Nat} {gg : AH} {i7 i8 i9 r b2 b3 l d : Sk.Id} {c : AV} {f : Int} {N : Int × Int → Option (Int × Int)} {g0 g1 g2 g3 g4 g5 g6 g8 aA aB aC aD aE aF aG aH aI aJ aK aL aM aN aO aP aQ aR aS aT aU aV aW aX aY aZ bA bB : AV}, n0 ≤ i7.nat → r.nat < i7.nat → i7.nat < i8.nat → i8.nat < i9.nat → i9.nat < b2.nat → b2.nat < b3.nat → b3.nat < d.nat → d.nat < l.nat →
    ∀ (p : Int × Int) (i : Nat) (W : List Wr) (h : AH), W.length ≤ 100000000 → Rnd26 n0 gg i7 i8 i9 r b2 b3 l d x c f N [g0,g1,g2,g3,g4,g5,g6,.ptr i7 0,g8,.ptr i9 0,aA,aB,aC,aD,aE,aF,aG,aH,aI,aJ,aK,aL,aM,aN,aO,aP,aQ,aR,aS,aT,aU,aV,aW,aX,aY,aZ,bA,bB] W h →
      ∃ h', callY (.yield l) [.int .i64 i, portV p] h = some (.ret (.bool true), h') ∧ Rnd26 n0 gg i7 i8 i9 r b2 b3 l d x c f N [g0,g1,g2,g3,g4,g5,g6,.ptr i7 0,g8,.ptr i9 0,aA,aB,aC,aD,aE,aF,aG,aH,aI,aJ,aK,aL,aM,aN,aO,aP,aQ,aR,aS,aT,aU,aV,aW,aX,aY,aZ,bA,bB] (addW N W p) h'
theorem fitsA26 : tabFits Tryz.prog (mu0 57) shT (rngA (codeOf Tryz.f57) 0) = true := by kernel_rfl
theorem fitsB26 : tabFits Tryz.prog (mu0 57) shT (rngB (codeOf Tryz.f57) 0) = true := by kernel_rfl
theorem nodA26 : noDefs (rngA (codeOf Tryz.f57) 0) = true := by kernel_rfl

theorem set26 {i7 i9 : Sk.Id} {i : Int} {p : Int × Int} {g0 g1 g2 g3 g4 g5 g6 g8 aA aB aC aD aE aF aG aH aI aJ aK aL aM aN aO aP aQ aR aS aT aU aV aW aX aY aZ bA bB : AV} : setTmps [g0,g1,g2,g3,g4,g5,g6,.ptr i7 0,g8,.ptr i9 0,aA,aB,aC,aD,aE,aF,aG,aH,aI,aJ,aK,aL,aM,aN,aO,aP,aQ,aR,aS,aT,aU,aV,aW,aX,aY,aZ,bA,bB] [21, 22] [.int .i64 i, portV p] = [g0,g1,g2,g3,g4,g5,g6,.ptr i7 0,g8,.ptr i9 0,aA,aB,aC,aD,aE,aF,aG,aH,aI,aJ,aK,.int .i64 i,portV p,aN,aO,aP,aQ,aR,aS,aT,aU,aV,aW,aX,aY,aZ,bA,bB] := by
  simp only [setTmps]
  rfl

theorem h35_of {hk : Hooks} {n : Nat} (hk35' : ∀ args h, hk 110 args h = hk35 110 args h) (hn : 0 < n) : h35 (evCall (mkEv Tryz.prog mu0 hk) n) := fun a b p q h ha hb => ev_hk (by
  rw [hk35', ha, hb]
  exact hk_top rfl rfl) hn

theorem c26 {m : Nat} (hm : 5000 < m) (x : AV) (s : List Ag) (hx : IsSig x s) (hP : ∀ a, 0 ≤ portsN s a ∧ portsN s a ≤ 7) :
    C26 (evCall (mkEv Tryz.prog mu0 hk25) (m + 1)) (evCall (mkEv Tryz.prog mu0 hk25) m) x s where
  c32 := fun {c w f} h hc hw => ev_of_cBodyS shT rfl Tryz.func104 rfl (by kernel_rfl) (b32 (evCall (mkEv Tryz.prog mu0 hk25) m) (rg Tryz.prog mu0 hk25 m 104) m x c w f h (isL_scalar hx) hc hw)
  c37 := fun {c f cells l b2 b3 h h'} hc hf hcl hG hY => ev_of_cBodyS shT rfl Tryz.func152 rfl (by kernel_rfl)
    (b37 (evCall (mkEv Tryz.prog mu0 hk25) m) (rg Tryz.prog mu0 hk25 m 152) m l b2 b3 x c .nilsl f s cells hx hc hP (by omega) (by omega) (by omega) (by omega) (by omega) (h31_of (fun _ _ => rfl) (by omega)) h h' hG hY)
  cy := by
    intro n0 gg i7 i8 i9 r b2 b3 l d c f N g0 g1 g2 g3 g4 g5 g6 g8 aA aB aC aD aE aF aG aH aI aJ aK aL aM aN aO aP aQ aR aS aT aU aV aW aX aY aZ bA bB o0 o1 o2 o3 o4 o5 o6 o7 p i W h hW hR
    obtain ⟨k, rfl⟩ : ∃ k, m = k + 1 := ⟨m - 1, by omega⟩
    obtain ⟨h', h1, h2⟩ := y26 (evCall (mkEv Tryz.prog mu0 hk25) k) (rg Tryz.prog mu0 hk25 k 57) k N W hW p (portV p) rfl (.int .i64 i) h _ (h35_of (fun _ _ => rfl) (by omega)) (g0 := g0) (g1 := g1) (g2 := g2) (g3 := g3) (g4 := g4) (g5 := g5) (g6 := g6) (g8 := g8) (aA := aA) (aB := aB) (aC := aC) (aD := aD) (aE := aE) (aF := aF) (aG := aG) (aH := aH) (aI := aI) (aJ := aJ) (aK := aK) (aN := aN) (aO := aO) (aP := aP) (aQ := aQ) (aR := aR) (aS := aS) (aT := aT) (aU := aU) (aV := aV) (aW := aW) (aX := aX) (aY := aY) (aZ := aZ) (bA := bA) (bB := bB) hR o0 o1 o2 o3 o4 o5 o6 o7
    exact ⟨h', ev_yield shT hR.gl rfl fitsA26 fitsB26 nodA26 set26 h1, h2⟩
theorem alloc_facts {h h1 : AH} {o : AO} (hh : h.alloc o = h1) : h1.get h.next = some o ∧ h1.next.nat = h.next.nat + 1 ∧ ∀ q o', h.get q = some o' → q.nat < h.next.nat → h1.get q = some o' := by
  subst hh
  exact ⟨by rw [AH.get_alloc, if_pos rfl], by rw [AH.next_alloc, Id.nat_succ], fun q o' hq hlt => kept_alloc hq hlt⟩

/-- What each port is linked to, ports alone. -/
abbrev Lk := Int × Int → Option (Int × Int)
def updP (M : Lk) (p q : Int × Int) : Lk := fun x => if x = p then some q else M x
def linkP : List Wr → Lk → Lk
  | [], M => M
  | w :: r, M => linkP r (updP (updP M (wA w) (wB w)) (wB w) (wA w))
def linksOf (W : List Wr) : Lk := linkP W fun _ => none
def tidyN (s : List Ag) (n : Nt) : Nt := ⟨n.cells, n.free, wiresN (linksOf n.wires) (portsL s n) []⟩
end Go.Proofs.Nt
namespace Go.Proofs.Nt
open Go.Sk
end Go.Proofs.Nt
namespace Go.Proofs.Nt
open Go.Sk

abbrev Pt := Int × Int
def mkW (p q : Pt) : Wr := (p.1, p.2, q.1, q.2)
theorem wB_mk (p q : Pt) : wB (mkW p q) = q := rfl
def ends : List Wr → List Pt
  | [] => []
  | w :: r => wA w :: wB w :: ends r

theorem wiresF_of {s : List Ag} {cells : List Int} {f : Int} : ∀ {W : List Wr} {i : Nat} {S : Sn}, (∀ p ∈ ends W, isPort s cells f p = true) → (ends W).Nodup → (∀ p ∈ ends W, S p = false) →
    ∃ S', wiresF s cells f W i S = .inr S' ∧ ∀ p, S' p = true ↔ S p = true ∨ p ∈ ends W
  | [], i, S, _, _, _ => ⟨S, rfl, by simp [ends]⟩
  | w :: r, i, S, h1, h2, h3 => by
    simp only [ends, List.nodup_cons, List.mem_cons, not_or] at h2
    obtain ⟨⟨n1, n2⟩, n3, n4⟩ := h2
    have a1 := h1 (wA w) (by simp [ends])
    have a2 := h1 (wB w) (by simp [ends])
    have b1 := h3 (wA w) (by simp [ends])
    have b2 := h3 (wB w) (by simp [ends])
    obtain ⟨S', e1, e2⟩ := wiresF_of (i := i + 1) (S := addS (addS S (wA w)) (wB w)) (fun p hp => h1 p (by simp [ends, hp])) n4 (fun p hp => by
      have hA : p ≠ wA w := by rintro rfl; exact n2 hp
      have hB : p ≠ wB w := by rintro rfl; exact n3 hp
      simp only [addS, if_neg hA, if_neg hB]
      exact h3 p (by simp [ends, hp]))
    refine ⟨S', ?_, fun p => ?_⟩
    · have : (wA w == wB w) = false := by simpa using n1
      simp only [wiresF, a1, a2, b1, b2, this, Bool.not_true, Bool.or_self, cond_false]
      exact e1
    · rw [e2]
      simp only [ends, List.mem_cons, addS]
      by_cases n1 : p = wB w
      · simp [n1]
      · by_cases n2 : p = wA w
        · simp [n1, n2]
        · simp [n1, n2]

theorem openF_of {S : Sn} : ∀ {ps : List Pt} {i : Nat}, (∀ p ∈ ps, S p = true) → openF S ps i = (0, 0)
  | [], _, _ => rfl
  | p :: r, i, h => by
    simp only [openF]
    rw [if_neg (by simp [h p])]
    exact openF_of fun q hq => h q (List.mem_cons_of_mem _ hq)

structure Good (s : List Ag) (n : Nt) : Prop where
  sg : (sigChk s).1 = 0
  cl : n.cells.length ≤ 4096
  f1 : n.free ≤ 64
  f0 : 0 ≤ n.free
  bc : badCell s.length n.cells 0 = none
  ip : ∀ p ∈ ends n.wires, isPort s n.cells n.free p = true
  nd : (ends n.wires).Nodup
  al : ∀ p ∈ portsL s n, p ∈ ends n.wires

theorem Good.chk {s : List Ag} {n : Nt} (g : Good s n) : netChk s n = (0, 0) := by
  unfold netChk
  rw [if_neg (by simpa using g.sg), if_neg (by have := g.cl; have := g.f1; omega), if_neg (by have := g.f0; omega), g.bc]
  obtain ⟨S', e1, e2⟩ := wiresF_of (i := 0) (S := fun _ => false) g.ip g.nd (fun _ _ => rfl)
  simp only [e1]
  exact openF_of fun p hp => (e2 p).2 (.inr (g.al p hp))

/-! ### The ports -/

theorem mem_free {f : Int} {p : Pt} : p ∈ freePorts f ↔ p.1 = -1 ∧ 0 ≤ p.2 ∧ p.2 < f := by
  unfold freePorts
  simp only [List.mem_map, List.mem_range'_1]
  constructor
  · rintro ⟨k, hk, rfl⟩
    refine ⟨rfl, ?_, ?_⟩ <;> simp only <;> omega
  · rintro ⟨h1, h2, h3⟩
    exact ⟨p.2.toNat, by omega, by ext <;> simp [h1] <;> omega⟩
theorem mem_cellPorts {s : List Ag} {c : Nat} {a : Int} {p : Pt} : p ∈ cellPorts s c a ↔ p.1 = c ∧ 0 ≤ p.2 ∧ p.2 < portsN s a := by
  unfold cellPorts
  simp only [List.mem_map, List.mem_range'_1]
  constructor
  · rintro ⟨k, hk, rfl⟩
    refine ⟨rfl, ?_, ?_⟩ <;> simp only <;> omega
  · rintro ⟨h1, h2, h3⟩
    exact ⟨p.2.toNat, by omega, by ext <;> simp [h1] <;> omega⟩
theorem mem_cells {s : List Ag} {p : Pt} : ∀ {cells : List Int} {c : Nat}, p ∈ cellsPorts s cells c ↔ ∃ i a, cells[i]? = some a ∧ p.1 = ((c + i : Nat) : Int) ∧ 0 ≤ p.2 ∧ p.2 < portsN s a
  | [], c => by simp [cellsPorts]
  | a :: r, c => by
    simp only [cellsPorts, List.mem_append, mem_cellPorts, mem_cells (cells := r) (c := c + 1)]
    constructor
    · rintro (⟨h1, h2⟩ | ⟨i, b, h1, h2, h3⟩)
      · exact ⟨0, a, rfl, by simpa using h1, h2⟩
      · exact ⟨i + 1, b, by simpa using h1, by rw [h2]; congr 1; omega, h3⟩
    · rintro ⟨i, b, h1, h2, h3⟩
      cases i with
      | zero =>
        simp only [List.getElem?_cons_zero, Option.some.injEq] at h1
        subst h1
        exact .inl ⟨by simpa using h2, h3⟩
      | succ i => exact .inr ⟨i, b, by simpa using h1, by rw [h2]; congr 1; omega, h3⟩
theorem isPort_iff {s : List Ag} {n : Nt} {p : Pt} : isPort s n.cells n.free p = true ↔ p ∈ portsL s n := by
  unfold portsL
  rw [List.mem_append, mem_free, mem_cells]
  unfold isPort
  by_cases h : p.1 = -1
  · simp only [h, beq_self_eq_true, if_true, Bool.and_eq_true, decide_eq_true_eq, true_and]
    constructor
    · intro h1; exact .inl ⟨by omega, h1.2⟩
    · rintro (h1 | ⟨i, a, _, h1, _⟩)
      · exact ⟨by omega, h1.2⟩
      · omega
  · have hb : (p.1 == -1) = false := by simpa using h
    simp only [hb, Bool.false_eq_true, if_false, Bool.and_eq_true, decide_eq_true_eq, h, false_and, false_or]
    constructor
    · rintro ⟨⟨⟨h1, h2⟩, h3⟩, h4⟩
      split at h4
      · rename_i a ha
        exact ⟨p.1.toNat, a, ha, by simp; omega, by omega, by simpa using h4⟩
      · cases h4
    · rintro ⟨i, a, h1, h2, h3, h4⟩
      have e : p.1.toNat = i := by rw [h2]; simp
      have hi := (List.getElem?_eq_some_iff.1 h1).1
      rw [e, h1]
      refine ⟨⟨⟨by omega, by rw [h2]; simp; omega⟩, by omega⟩, by simpa using h4⟩

theorem nodup_map {α β : Type} {f : α → β} (hf : ∀ a b, f a = f b → a = b) : ∀ {l : List α}, l.Nodup → (l.map f).Nodup
  | [], _ => by simp
  | a :: r, h => by
    simp only [List.nodup_cons, List.map_cons] at h ⊢
    refine ⟨fun hm => ?_, nodup_map hf h.2⟩
    obtain ⟨b, hb, he⟩ := List.mem_map.1 hm
    exact h.1 (hf _ _ he ▸ hb)
theorem nodup_ports (s : List Ag) (n : Nt) : (portsL s n).Nodup := by
  have r : ∀ m : Nat, (List.range' 0 m).Nodup := fun m => List.nodup_range'
  have hc : ∀ (cells : List Int) (c : Nat), (cellsPorts s cells c).Nodup := by
    intro cells
    induction cells with
    | nil => intro c; simp [cellsPorts]
    | cons a t ih =>
      intro c
      simp only [cellsPorts]
      rw [List.nodup_append]
      refine ⟨nodup_map (fun a b h => by have h2 := congrArg Prod.snd h; simp only at h2; omega) (r _), ih _, fun x hx y hy => ?_⟩
      obtain ⟨h1, _⟩ := mem_cellPorts.1 hx
      obtain ⟨i, b, _, h2, _⟩ := mem_cells.1 hy
      rintro rfl
      omega
  unfold portsL
  rw [List.nodup_append]
  refine ⟨nodup_map (fun a b h => by have h2 := congrArg Prod.snd h; simp only at h2; omega) (r _), hc _ _, fun x hx y hy => ?_⟩
  obtain ⟨h1, _⟩ := mem_free.1 hx
  obtain ⟨i, b, _, h2, _⟩ := mem_cells.1 hy
  rintro rfl
  omega
theorem linkP_other : ∀ {W : List Wr} {M : Lk} {p : Pt}, p ∉ ends W → linkP W M p = M p
  | [], M, p, _ => rfl
  | w :: r, M, p, h => by
    simp only [ends, List.mem_cons, not_or] at h
    simp only [linkP]
    rw [linkP_other h.2.2]
    unfold updP
    rw [if_neg h.2.1, if_neg h.1]
theorem linkP_mem : ∀ {W : List Wr} {M : Lk}, (ends W).Nodup → ∀ w ∈ W, linkP W M (wA w) = some (wB w) ∧ linkP W M (wB w) = some (wA w)
  | [], M, _, w, h => by cases h
  | v :: r, M, hn, w, h => by
    simp only [ends, List.nodup_cons, List.mem_cons, not_or] at hn
    obtain ⟨⟨n1, n2⟩, n3, n4⟩ := hn
    simp only [linkP]
    rcases List.mem_cons.1 h with rfl | h
    · rw [linkP_other n2, linkP_other n3]
      unfold updP
      exact ⟨by rw [if_neg n1, if_pos rfl], by rw [if_pos rfl]⟩
    · exact linkP_mem n4 w h

theorem ends_mem {W : List Wr} {p : Pt} (h : p ∈ ends W) : ∃ w ∈ W, p = wA w ∨ p = wB w := by
  induction W with
  | nil => cases h
  | cons v r ih =>
    simp only [ends, List.mem_cons] at h
    rcases h with rfl | rfl | h
    · exact ⟨v, by simp, .inl rfl⟩
    · exact ⟨v, by simp, .inr rfl⟩
    · obtain ⟨w, hw, hp⟩ := ih h
      exact ⟨w, by simp [hw], hp⟩
theorem mem_ends {W : List Wr} {w : Wr} (h : w ∈ W) : wA w ∈ ends W ∧ wB w ∈ ends W := by
  induction W with
  | nil => cases h
  | cons v r ih =>
    rcases List.mem_cons.1 h with rfl | h
    · simp [ends]
    · have := ih h
      simp [ends, this]

theorem wires_ne : ∀ {W : List Wr}, (ends W).Nodup → ∀ w ∈ W, wA w ≠ wB w
  | [], _, w, h => by cases h
  | v :: r, hn, w, h => by
    simp only [ends, List.nodup_cons, List.mem_cons, not_or] at hn
    rcases List.mem_cons.1 h with rfl | h
    · exact hn.1.1
    · exact wires_ne hn.2.2 w h

/-- A linking by pairs. -/
structure Inv (M : Lk) (ps : List Pt) : Prop where
  nd : ps.Nodup
  of : ∀ p ∈ ps, ∃ q ∈ ps, M p = some q ∧ M q = some p ∧ q ≠ p

theorem Good.inv {s : List Ag} {n : Nt} (g : Good s n) : Inv (linksOf n.wires) (portsL s n) where
  nd := nodup_ports s n
  of := fun p hp => by
    obtain ⟨w, hw, h⟩ := ends_mem (g.al p hp)
    obtain ⟨m1, m2⟩ := linkP_mem (M := fun _ => none) g.nd w hw
    obtain ⟨e1, e2⟩ := mem_ends hw
    have hne : wA w ≠ wB w := wires_ne g.nd w hw
    rcases h with rfl | rfl
    · exact ⟨wB w, isPort_iff.1 (g.ip _ e2), m1, m2, hne.symm⟩
    · exact ⟨wA w, isPort_iff.1 (g.ip _ e1), m2, m1, hne⟩

theorem before_or {p q : Pt} (h : q ≠ p) : before p q = true ∨ before q p = true := by
  unfold before
  simp only [Bool.or_eq_true, Bool.and_eq_true, decide_eq_true_eq, beq_iff_eq]
  have : ¬ (p.1 = q.1 ∧ p.2 = q.2) := fun ⟨a, b⟩ => h (Prod.ext a.symm b.symm)
  omega
theorem before_not {p q : Pt} (h : before p q = true) : before q p = false := by
  unfold before at h ⊢
  simp only [Bool.or_eq_true, Bool.and_eq_true, decide_eq_true_eq, beq_iff_eq] at h
  rw [Bool.eq_false_iff]
  simp only [ne_eq, Bool.or_eq_true, Bool.and_eq_true, decide_eq_true_eq, beq_iff_eq]
  omega

/-- The wires of a linking, the ports in order. -/
def tw (M : Lk) : List Pt → List Wr
  | [] => []
  | p :: r => if before p (valN M p) then mkW p (valN M p) :: tw M r else tw M r
theorem wiresN_tw (M : Lk) : ∀ (ps : List Pt) (W : List Wr), wiresN M ps W = W ++ tw M ps
  | [], W => by simp [wiresN, tw]
  | p :: r, W => by
    simp only [wiresN, tw, addW]
    rw [wiresN_tw M r]
    split
    · simp [mkW]
    · rfl
theorem tw_mem {M : Lk} {w : Wr} : ∀ {ps : List Pt}, w ∈ tw M ps ↔ ∃ p ∈ ps, before p (valN M p) = true ∧ w = mkW p (valN M p)
  | [] => by simp [tw]
  | p :: r => by
    simp only [tw]
    by_cases h : before p (valN M p) = true
    · rw [if_pos h, List.mem_cons, tw_mem (ps := r)]
      constructor
      · rintro (rfl | ⟨q, h1, h2⟩)
        · exact ⟨p, by simp, h, rfl⟩
        · exact ⟨q, by simp [h1], h2⟩
      · rintro ⟨q, h1, h2⟩
        rcases List.mem_cons.1 h1 with rfl | h1
        · exact .inl h2.2
        · exact .inr ⟨q, h1, h2⟩
    · rw [if_neg h, tw_mem (ps := r)]
      constructor
      · rintro ⟨q, h1, h2⟩; exact ⟨q, by simp [h1], h2⟩
      · rintro ⟨q, h1, h2⟩
        rcases List.mem_cons.1 h1 with rfl | h1
        · exact absurd h2.1 h
        · exact ⟨q, h1, h2⟩
theorem tw_congr {M N : Lk} : ∀ {ps : List Pt}, (∀ p ∈ ps, valN M p = valN N p) → tw M ps = tw N ps
  | [], _ => rfl
  | p :: r, h => by
    simp only [tw]
    rw [h p (by simp), tw_congr (ps := r) fun q hq => h q (by simp [hq])]

theorem Inv.val {M : Lk} {ps : List Pt} (i : Inv M ps) {p : Pt} (hp : p ∈ ps) : valN M p ∈ ps ∧ M p = some (valN M p) ∧ valN M (valN M p) = p ∧ valN M p ≠ p := by
  obtain ⟨q, h1, h2, h3, h4⟩ := i.of p hp
  have e : valN M p = q := by unfold valN; rw [h2]; rfl
  have e2 : valN M q = p := by unfold valN; rw [h3]; rfl
  rw [e]
  exact ⟨h1, h2, e2, h4⟩

theorem Inv.mem_ends {M : Lk} {ps : List Pt} (i : Inv M ps) (p : Pt) : p ∈ ends (tw M ps) ↔ p ∈ ps := by
  constructor
  · intro h
    obtain ⟨w, hw, hp⟩ := ends_mem h
    obtain ⟨q, hq, _, rfl⟩ := tw_mem.1 hw
    rcases hp with rfl | rfl
    · exact hq
    · exact (i.val hq).1
  · intro h
    obtain ⟨v1, v2, v3, v4⟩ := i.val h
    rcases before_or v4 with hb | hb
    · exact (Nt.mem_ends (tw_mem.2 ⟨p, h, hb, rfl⟩)).1
    · have := (Nt.mem_ends (tw_mem.2 ⟨valN M p, v1, by rw [v3]; exact hb, rfl⟩)).2
      rw [wB_mk, v3] at this; exact this

theorem Inv.nodup {M : Lk} {full : List Pt} (i : Inv M full) : ∀ {ps : List Pt}, (∀ p ∈ ps, p ∈ full) → ps.Nodup → (ends (tw M ps)).Nodup
  | [], _, _ => by simp [tw, ends]
  | p :: r, hs, hn => by
    simp only [List.nodup_cons] at hn
    have ih := i.nodup (ps := r) (fun q hq => hs q (by simp [hq])) hn.2
    simp only [tw]
    split
    · rename_i hb
      obtain ⟨v1, v2, v3, v4⟩ := i.val (hs p (by simp))
      have key : ∀ x ∈ ends (tw M r), x ≠ p ∧ x ≠ valN M p := fun x hx => by
        obtain ⟨w, hw, hx⟩ := ends_mem hx
        obtain ⟨q, hq, hqb, rfl⟩ := tw_mem.1 hw
        obtain ⟨u1, u2, u3, u4⟩ := i.val (hs q (by simp [hq]))
        have hqp : q ≠ p := by rintro rfl; exact hn.1 hq
        have n1 : valN M q ≠ p := fun e => by
          rw [e] at u3 hqb
          rw [u3] at hb
          have h1 := before_not hb
          rw [hqb] at h1; cases h1
        rcases hx with rfl | rfl
        · exact ⟨hqp, fun e => n1 (by have : q = valN M p := e; rw [this]; exact v3)⟩
        · refine ⟨n1, fun e => hqp ?_⟩
          have e : valN M q = valN M p := e
          rw [← u3, e, v3]
      simp only [ends, List.nodup_cons, List.mem_cons, not_or]
      exact ⟨⟨fun e => v4 e.symm, fun hm => (key _ hm).1 rfl⟩, fun hm => (key _ hm).2 rfl, ih⟩
    · exact ih

theorem Inv.links {M : Lk} {ps : List Pt} (i : Inv M ps) {p : Pt} (hp : p ∈ ps) : linksOf (tw M ps) p = M p := by
  have hn := i.nodup (fun _ h => h) i.nd
  obtain ⟨w, hw, h⟩ := ends_mem ((i.mem_ends p).2 hp)
  obtain ⟨m1, m2⟩ := linkP_mem (M := fun _ => none) hn w hw
  obtain ⟨q, hq, hqb, rfl⟩ := tw_mem.1 hw
  obtain ⟨u1, u2, u3, u4⟩ := i.val hq
  obtain ⟨v1, v2, v3, v4⟩ := i.val hp
  rcases h with rfl | rfl
  · rw [v2]; exact m1
  · rw [v2]
    have e : valN M (wB (mkW q (valN M q))) = q := u3
    rw [e]; exact m2

theorem tidyN_eq (s : List Ag) (n : Nt) : tidyN s n = ⟨n.cells, n.free, tw (linksOf n.wires) (portsL s n)⟩ := by
  unfold tidyN; rw [wiresN_tw]; rfl

/-- A net that is tidied. -/
theorem Good.tidy {s : List Ag} {n : Nt} (g : Good s n) : Good s (tidyN s n) ∧ (∀ p ∈ portsL s n, linksOf (tidyN s n).wires p = linksOf n.wires p) ∧ tidyN s (tidyN s n) = tidyN s n := by
  have i := g.inv
  have hl : ∀ p ∈ portsL s n, linksOf (tidyN s n).wires p = linksOf n.wires p := fun p hp => by
    rw [tidyN_eq]; exact i.links hp
  refine ⟨?_, hl, ?_⟩
  · rw [tidyN_eq]
    exact ⟨g.sg, g.cl, g.f1, g.f0, g.bc, fun p hp => isPort_iff (n := ⟨n.cells, n.free, _⟩).2 ((i.mem_ends p).1 hp), i.nodup (fun _ h => h) i.nd, fun p hp => (i.mem_ends p).2 hp⟩
  · rw [tidyN_eq s (tidyN s n)]
    have e1 : (tidyN s n).cells = n.cells := rfl
    have e2 : (tidyN s n).free = n.free := rfl
    have e3 : portsL s (tidyN s n) = portsL s n := rfl
    rw [e1, e2, e3, tw_congr (N := linksOf n.wires) (fun p hp => by unfold valN; rw [hl p hp]), ← tidyN_eq]
end Go.Proofs.Nt
namespace Go.Proofs.Nt
open Go.Sk
end Go.Proofs.Nt
namespace Go.Proofs.Nt
open Go.Sk

section
variable {α : Type} {enc : α → AV}
/-- A list as a contract answers it: nil if it is empty. -/
def listW (enc : α → AV) (W : List α) : AV := match W with | [] => .nilsl | w :: r => .vsl ((w :: r).map enc) .unk
/-- A list as it has come about: nil if it is empty. -/
def IsN (enc : α → AV) (l : AV) (W : List α) : Prop := (l = .nilsl ∧ W = []) ∨ ∃ c, l = .vsl (W.map enc) c ∧ W ≠ [] ∧ weakC c = .unk
theorem IsN.weak (hw : ∀ a, weakV (enc a) = enc a) (hf : ∀ a, freeV (enc a) = true) {l : AV} {W : List α} (h : IsN enc l W) : weakV l = listW enc W ∧ freeV l = true := by
  rcases h with ⟨rfl, rfl⟩ | ⟨c, rfl, hne, hc⟩
  · exact ⟨rfl, rfl⟩
  · cases W with
    | nil => exact absurd rfl hne
    | cons w r =>
      refine ⟨?_, freeL_enc hf (w :: r)⟩
      show AV.vsl (weakL ((w :: r).map enc)) (weakC c) = _
      rw [weakL_enc hw, hc]; rfl
theorem IsN.listW (W : List α) : IsN enc (listW enc W) W := by
  cases W with
  | nil => exact .inl ⟨rfl, rfl⟩
  | cons w r => exact .inr ⟨_, rfl, by simp, rfl⟩
end

/-! ### The signature of numbers -/

theorem retV_ex {x : Option (AOut × AH)} {v : AV} (h : retV x v = true) : ∃ h', x = some (.ret v, h') := retV_spec h
end Go.Proofs.Nt
namespace Go.Proofs.Nt
open Go.Sk Go.ChangeShapes Go.WideShapes

section
variable {H : Type} {enc : TypeId × Value → H} {w : World} {base : Nat} {sp : Nat → Bool} {held : Bool}

theorem addr_add (b off i : Nat) : (Addr.mk b off none).add i = ⟨b, off + i, none⟩ := by
  unfold Addr.add; split
  · rename_i h0; subst h0; rfl
  · rfl

theorem t3 {n : Nat} {cs : List Value} {x : DataW H × List MemPlace} (h : DataW.trod enc Tryz.prog w base sp held n 3 cs = some x) : ∃ a, cs = [.int .i64 a] := by
  obtain ⟨a, h1, _⟩ := DataW.trod_int (k := .i64) (by kernel_rfl) h
  exact ⟨a, h1⟩

theorem t45 {n : Nat} {cs : List Value} {x : DataW H × List MemPlace} (h : DataW.trod enc Tryz.prog w base sp held n 113 cs = some x) : ∃ a b, cs = [.int .i64 a, .int .i64 b] := by
  have hs : Tryz.prog.underlying 113 = some (.struct #[⟨ "Cell", 3, 0, false, "", "", 0⟩, ⟨ "Slot", 3, 1, false, "", "", 8⟩]) := by kernel_rfl
  obtain ⟨xs, m, _, _, hl, hlen, hf⟩ := DataW.trod_struct hs h
  have hc : Tryz.prog.cellsOf 113 = 2 := by kernel_rfl
  have c3 : Tryz.prog.cellsOf 3 = 1 := by kernel_rfl
  rw [hc] at hl
  match cs, hl with
  | [c0, c1], _ =>
    match xs, hlen with
    | [y0, y1], _ =>
      have f0 := hf 0 ⟨ "Cell", 3, 0, false, "", "", 0⟩ rfl
      have f1 := hf 1 ⟨ "Slot", 3, 1, false, "", "", 8⟩ rfl
      simp only [c3, List.drop_zero, List.take_succ_cons, List.take_zero, List.drop_succ_cons, List.getElem?_cons_zero, List.getElem?_cons_succ] at f0 f1
      obtain ⟨a, e0⟩ := t3 f0
      obtain ⟨b, e1⟩ := t3 f1
      simp only [List.cons.injEq, and_true] at e0 e1
      exact ⟨a, b, by rw [e0, e1]⟩

theorem t47 {n : Nat} {cs : List Value} {x : DataW H × List MemPlace} (h : DataW.trod enc Tryz.prog w base sp held n 115 cs = some x) : ∃ a : Wr, LRel (rho0 w) (wireV a).cells cs ∧ ∀ c ∈ cs, c.oneCell' = true := by
  have hs : Tryz.prog.underlying 115 = some (.struct #[⟨ "A", 113, 0, false, "", "", 0⟩, ⟨ "B", 113, 2, false, "", "", 16⟩]) := by kernel_rfl
  obtain ⟨xs, m, _, _, hl, hlen, hf⟩ := DataW.trod_struct hs h
  have hc : Tryz.prog.cellsOf 115 = 4 := by kernel_rfl
  have c45 : Tryz.prog.cellsOf 113 = 2 := by kernel_rfl
  rw [hc] at hl
  match cs, hl with
  | [c0, c1, c2, c3], _ =>
    match xs, hlen with
    | [y0, y1], _ =>
      have f0 := hf 0 ⟨ "A", 113, 0, false, "", "", 0⟩ rfl
      have f1 := hf 1 ⟨ "B", 113, 2, false, "", "", 16⟩ rfl
      simp only [c45, List.drop_zero, List.take_succ_cons, List.take_zero, List.drop_succ_cons, List.getElem?_cons_zero, List.getElem?_cons_succ] at f0 f1
      obtain ⟨a, b, e0⟩ := t45 f0
      obtain ⟨c, d, e1⟩ := t45 f1
      simp only [List.cons.injEq, and_true] at e0 e1
      obtain ⟨rfl, rfl⟩ := e0
      obtain ⟨rfl, rfl⟩ := e1
      refine ⟨(a, b, c, d), LRel.cons (.int _ _) (LRel.cons (.int _ _) (LRel.cons (.int _ _) (LRel.cons (.int _ _) (LRel.nil _)))), fun c hc => ?_⟩
      simp only [List.mem_cons, List.not_mem_nil, or_false] at hc
      rcases hc with rfl | rfl | rfl | rfl <;> rfl

theorem spot_of {r : Reach} {b0 : Nat} {t e : TypeId} {v : Value} (ht : Tryz.prog.underlying t = some (.slice e)) (h : Cell.okWide Tryz.prog w r b0 t v) : ∀ (a : Addr) l c, v = .slice (some a) l c → a.spot = none := by
  rintro a l c rfl
  simp only [Cell.okWide, ht, Cell.ok] at h
  exact h.2.2.2.1

end
end Go.Proofs.Nt
namespace Go.Proofs.Nt
open Go.Sk

structure Rl where
  a : Int
  b : Int
  right : Nt

/-- A rule as a value. -/
def IsRule (v : AV) (r : Rl) : Prop := ∃ c w, v = .agg [.int .i64 r.a, .int .i64 r.b, c, .int .i64 r.right.free, w] ∧ IsL c (r.right.cells.map intV) ∧ IsL w (r.right.wires.map wireV)

def arN (s : List Ag) (a : Int) : Int := match s[a.toNat]? with | some g => g.2 | none => 0
def ruleChk (s : List Ag) (r : Rl) : Int × Int :=
  if (sigChk s).1 ≠ 0 then sigChk s
  else if r.a < 0 ∨ r.a ≥ s.length then (20, 0)
  else if r.b < 0 ∨ r.b ≥ s.length then (20, 1)
  else if (netChk s r.right).1 ≠ 0 then netChk s r.right
  else if r.right.cells.length > 32 then (50, 32)
  else if arN s r.a + arN s r.b ≠ r.right.free then (51, arN s r.a + arN s r.b)
  else (0, 0)

def h12 (call : CallT) : Prop := ∀ x v s r h, IsSig x s → IsRule v r → r.right.wires.length ≤ 1000000000 → call (.func 25) [x, v] h = some (.ret (.tup [.int .i64 (ruleChk s r).1, .int .i64 (ruleChk s r).2]), h)
end Go.Proofs.Nt
namespace Go.Proofs.Nt
open Go.Sk Go.ChangeShapes Go.WideShapes

section
variable {H : Type} {enc : TypeId × Value → H} {w : World} {base : Nat} {sp : Nat → Bool} {held : Bool}

theorem weightsAll_mem {P : Program} {e : TypeId} : ∀ {l : List (DataW H)} {d : DataW H} {k : Nat}, d ∈ l → k ∈ d.weights P e → k ∈ DataW.weightsAll P e l
  | [], d, k, h, _ => by cases h
  | a :: r, d, k, h, hk => by
    simp only [DataW.weightsAll, List.mem_append]
    rcases List.mem_cons.1 h with rfl | h
    · exact .inl hk
    · exact .inr (weightsAll_mem h hk)

theorem open_listW {α : Type} [Inhabited α] {encA : α → AV} {p : α → Prop} {B : Nat} {sz : Nat} {t e : TypeId} {v : Value} {fuel : Nat} {x : DataW H × List MemPlace} (ht : Tryz.prog.underlying t = some (.slice e)) (hc : Tryz.prog.cellsOf e = sz) (hsz : ∀ a, (encA a).cells.length = sz)
    (hE : ∀ n cs x, DataW.trod enc Tryz.prog w base sp held n e cs = some x → (∀ k ∈ x.1.weights Tryz.prog e, k ≤ B) → ∃ a : α, (LRel (rho0 w) (encA a).cells cs ∧ ∀ c ∈ cs, c.oneCell' = true) ∧ p a)
    (hs : ∀ (a : Addr) l c, v = .slice (some a) l c → a.spot = none) (h : DataW.trod enc Tryz.prog w base sp held fuel t [v] = some x) (hB : ∀ k ∈ x.1.weights Tryz.prog t, k ≤ B) :
    ∃ (u : AV) (l : List α), VRel (rho0 w) u v ∧ IsL u (l.map encA) ∧ l.length * Tryz.prog.bytesOf e ≤ B ∧ ∀ a ∈ l, p a := by
  rcases Deep.open_slice ht h with ⟨h1, _⟩ | ⟨a, len, cap, m, n, D, Pl, h1, hb, hl, hm, hmm, hx, hel⟩
  · simp only [List.cons.injEq, and_true] at h1
    subst h1
    exact ⟨.nilsl, [], .nilsl, .inl ⟨rfl, rfl⟩, by simp, by simp⟩
  · simp only [List.cons.injEq, and_true] at h1
    have hspot := hs a len cap h1
    subst h1
    obtain ⟨b, off, spot⟩ := a
    simp only at hspot; subst hspot
    have hlm : len ≤ m := by rw [hmm]; split <;> omega
    subst hx
    have hBl : len * Tryz.prog.bytesOf e ≤ B := by
      have := hB _ (by simp only [DataW.weights, ht]; exact List.mem_cons_self ..)
      refine Nat.le_trans (Nat.mul_le_mul_right _ ?_) this
      simp
    have hBe : ∀ i, i < len → ∀ k ∈ (D i).weights Tryz.prog e, k ≤ B := fun i hi k hk => hB k (by
      simp only [DataW.weights, ht]
      refine List.mem_cons_of_mem _ (List.mem_append.2 (.inl ?_))
      exact weightsAll_mem (List.mem_map.2 ⟨i, List.mem_range.2 hi, rfl⟩) hk)
    obtain ⟨f, hf⟩ := Deep.choose_lt (α := α × List Value) (n := len) (p := fun i y => w.cells? base ((Addr.mk b off none).add (i * Tryz.prog.cellsOf e)) (Tryz.prog.cellsOf e) = some y.2 ∧ LRel (rho0 w) (encA y.1).cells y.2 ∧ (∀ c ∈ y.2, c.oneCell' = true) ∧ p y.1) (fun i hi => by
      obtain ⟨cs', q1, q2⟩ := hel i (by omega)
      obtain ⟨a, ⟨q3, q4⟩, q5⟩ := hE _ _ _ q2 (hBe i hi)
      exact ⟨(a, cs'), q1, q3, q4, q5⟩)
    have hlen : ((List.range len).map fun i => encA (f i).1).length = len := by simp
    have key : VRel (rho0 w) (.vsl ((List.range len).map fun i => encA (f i).1) .unk) (.slice (some ⟨b, off, none⟩) ((List.range len).map fun i => encA (f i).1).length cap) := by
      refine .vsl _ .unk b off cap sz (fun i j => (f i).2.getD j default) (fun i hi => by simp [hsz]) (fun i j hi hj => ?_) (fun i hi j hj => ?_) (by rw [hlen]; exact hl) trivial
      · rw [hlen] at hi
        obtain ⟨p1, p2, p3, _⟩ := hf i hi
        obtain ⟨_, r1, r2⟩ := World.cells?_some p1
        have := r2 j (by rw [hc]; exact hj)
        rw [hc, addr_add, addr_add] at this
        rw [rho0_imm, this]
        have hjl : j < (f i).2.length := by rw [r1, hc]; exact hj
        rw [List.getElem?_eq_getElem hjl]
        have hd : (f i).2.getD j default = (f i).2[j] := by rw [List.getD_eq_getElem?_getD, List.getElem?_eq_getElem hjl]; rfl
        rw [hd]
        exact ⟨rfl, p3 _ (List.getElem_mem _)⟩
      · rw [hlen] at hi
        obtain ⟨p1, p2, p3, _⟩ := hf i hi
        have hxi : ((List.range len).map fun i => encA (f i).1)[i] = encA (f i).1 := by simp
        have hj' : j < (encA (f i).1).cells.length := by rw [hxi] at hj; exact hj
        have hjl : j < (f i).2.length := by rw [p2.1]; exact hj'
        have hd : (f i).2.getD j default = (f i).2[j] := by rw [List.getD_eq_getElem?_getD, List.getElem?_eq_getElem hjl]; rfl
        have := p2.2 j hj' hjl
        rw [hd]
        simp only [hxi]
        exact this
    rw [hlen] at key
    exact ⟨_, (List.range len).map fun i => (f i).1, key, .inr ⟨.unk, by rw [List.map_map]; rfl⟩, by simpa using hBl, fun a ha => by
      obtain ⟨i, hi, rfl⟩ := List.mem_map.1 ha
      exact (hf i (List.mem_range.1 hi)).2.2.2⟩

theorem open_ruleW {B : Nat} {r : Reach} {b0 : Nat} {v : Value} {d : DataW H} {ps : List MemPlace} (hval : Value.okWide Tryz.prog w r b0 27 v) (hd : DataW.Trod enc Tryz.prog w base sp held 27 v d ps) (hB : ∀ k ∈ d.weights Tryz.prog 27, k ≤ B) : ∃ x r, VRel (rho0 w) x v ∧ IsRule x r ∧ r.right.cells.length * Tryz.prog.bytesOf 3 ≤ B ∧ r.right.wires.length * Tryz.prog.bytesOf 115 ≤ B := by
  have hs : Tryz.prog.underlying 27 = some (.struct #[⟨ "A", 3, 0, false, "", "", 0⟩, ⟨ "B", 3, 1, false, "", "", 8⟩, ⟨ "Right", 25, 2, false, "", "", 16⟩]) := by kernel_rfl
  have hs2 : Tryz.prog.underlying 25 = some (.struct #[⟨ "Cells", 22, 0, false, "", "", 0⟩, ⟨ "Free", 3, 1, false, "", "", 24⟩, ⟨ "Wires", 23, 2, false, "", "", 32⟩]) := by kernel_rfl
  have h23 : Tryz.prog.underlying 22 = some (.slice 3) := by kernel_rfl
  have h24 : Tryz.prog.underlying 23 = some (.slice 115) := by kernel_rfl
  have hct : Program.cellTypes Tryz.prog Tryz.prog.depth 27 = some [3, 3, 22, 3, 23] := by kernel_rfl
  have c28 : Tryz.prog.cellsOf 27 = 5 := by kernel_rfl
  have c26 : Tryz.prog.cellsOf 25 = 3 := by kernel_rfl
  have c23 : Tryz.prog.cellsOf 22 = 1 := by kernel_rfl
  have c24 : Tryz.prog.cellsOf 23 = 1 := by kernel_rfl
  have c3 : Tryz.prog.cellsOf 3 = 1 := by kernel_rfl
  unfold Value.okWide at hval
  rw [hs] at hval
  obtain ⟨cs, rfl, hsz, ts, hts, _, hcell⟩ := hval
  rw [hct] at hts
  simp only [Option.some.injEq] at hts
  subst hts
  rw [c28] at hsz
  obtain ⟨cl⟩ := cs
  match cl, hsz with
  | [v0, v1, v2, v3, v4], _ =>
    obtain ⟨u2, hu2, ok2⟩ := hcell 2 v2 rfl
    obtain ⟨u4, hu4, ok4⟩ := hcell 4 v4 rfl
    simp only [List.length_cons, List.length_nil] at hu2 hu4
    have e2 : u2 = 22 := by simpa using hu2.symm
    have e4 : u4 = 23 := by simpa using hu4.symm
    subst e2; subst e4
    obtain ⟨fuel, hf⟩ := hd
    obtain ⟨xs, m, _, hdy, hl, hlen, hfs⟩ := DataW.trod_struct hs hf
    have hd0 : d = .agg (xs.map (·.1)) := congrArg Prod.fst hdy
    subst hd0
    match xs, hlen with
    | [y0, y1, y2], _ =>
      have f0 := hfs 0 ⟨ "A", 3, 0, false, "", "", 0⟩ rfl
      have f1 := hfs 1 ⟨ "B", 3, 1, false, "", "", 8⟩ rfl
      have f2 := hfs 2 ⟨ "Right", 25, 2, false, "", "", 16⟩ rfl
      simp only [Value.cells, c3, c26, List.drop_zero, List.take_succ_cons, List.take_zero, List.drop_succ_cons, List.getElem?_cons_zero, List.getElem?_cons_succ] at f0 f1 f2
      obtain ⟨a, e0⟩ := t3 f0
      obtain ⟨b, e1⟩ := t3 f1
      simp only [List.cons.injEq, and_true] at e0 e1
      subst e0; subst e1
      obtain ⟨zs, m2, _, hdx, hl2, hlen2, hfs2⟩ := DataW.trod_struct hs2 f2
      have hd1 : y2.1 = .agg (zs.map (·.1)) := congrArg Prod.fst hdx
      have hBy : ∀ k ∈ y2.1.weights Tryz.prog 25, k ≤ B := fun k hk => hB k (by
        simp only [List.map_cons, List.map_nil, DataW.weights, hs, List.toList_toArray, DataW.weightsEach, List.mem_append]
        exact .inr (.inr (.inl hk)))
      rw [hd1] at hBy
      obtain ⟨z0, z1, z2, rfl⟩ : ∃ z0 z1 z2, zs = [z0, z1, z2] := by
        match zs, hlen2 with
        | [z0, z1, z2], _ => exact ⟨z0, z1, z2, rfl⟩
      · have g0 := hfs2 0 ⟨ "Cells", 22, 0, false, "", "", 0⟩ rfl
        have g1 := hfs2 1 ⟨ "Free", 3, 1, false, "", "", 24⟩ rfl
        have g2 := hfs2 2 ⟨ "Wires", 23, 2, false, "", "", 32⟩ rfl
        simp only [c23, c24, c3, List.drop_zero, List.take_succ_cons, List.take_zero, List.drop_succ_cons, List.getElem?_cons_zero, List.getElem?_cons_succ] at g0 g1 g2
        obtain ⟨f, e3⟩ := t3 g1
        simp only [List.cons.injEq, and_true] at e3
        subst e3
        have hw0 : ∀ k ∈ z0.1.weights Tryz.prog 22, k ≤ B := fun k hk => hBy k (by
          simp only [List.map_cons, List.map_nil, DataW.weights, hs2, List.toList_toArray, DataW.weightsEach, List.mem_append]
          exact .inl hk)
        have hw2 : ∀ k ∈ z2.1.weights Tryz.prog 23, k ≤ B := fun k hk => hBy k (by
          simp only [List.map_cons, List.map_nil, DataW.weights, hs2, List.toList_toArray, DataW.weightsEach, List.mem_append]
          exact .inr (.inr (.inl hk)))
        obtain ⟨uc, lc, hv2, hl2, bc, _⟩ := open_listW (encA := intV) (p := fun _ => True) (sz := 1) h23 c3 (fun _ => rfl) (fun n cs x h _ => by
          obtain ⟨a, rfl⟩ := t3 h
          refine ⟨a, ⟨LRel.cons (.int _ _) (LRel.nil _), fun c hc => ?_⟩, trivial⟩
          simp only [List.mem_cons, List.not_mem_nil, or_false] at hc
          subst hc; rfl) (spot_of h23 ok2) g0 hw0
        obtain ⟨uw, lw, hv4, hl4, bw, _⟩ := open_listW (encA := wireV) (p := fun _ => True) (sz := 4) h24 (by kernel_rfl) (fun _ => rfl) (fun n cs x h _ => by obtain ⟨a, ha⟩ := t47 h; exact ⟨a, ha, trivial⟩) (spot_of h24 ok4) g2 hw2
        refine ⟨.agg [.int .i64 a, .int .i64 b, uc, .int .i64 f, uw], ⟨a, b, lc, f, lw⟩, ?_, ⟨uc, uw, rfl, hl2, hl4⟩, bc, bw⟩
        have hL : LRel (rho0 w) [.int .i64 a, .int .i64 b, uc, .int .i64 f, uw] [.int .i64 a, .int .i64 b, v2, .int .i64 f, v4] := LRel.cons (.int _ _) (LRel.cons (.int _ _) (LRel.cons hv2 (LRel.cons (.int _ _) (LRel.cons hv4 (LRel.nil _)))))
        exact .agg _ _ hL.1 fun i hi hj => hL.2 i hi hj
end
end Go.Proofs.Nt
namespace Go.Proofs
open Go.Shelf
def Tryz.lays156_ren : Go.Shelf.Ren := ⟨fun | 156 => 63 | 165 => 114 | 166 => 31 | 169 => 32 | 240 => 65 | 241 => 157 | 276 => 115 | 277 => 198 | n => n, fun | 31 => 57 | 9 => 9 | 3 => 3 | 4 => 4 | 0 => 0 | 20 => 20 | 72 => 83 | 76 => 88 | 70 => 81 | 37 => 48 | 75 => 87 | 127 => 133 | 164 => 195 | 5 => 5 | 80 => 45 | n => n, fun | n => n⟩
theorem Tryz.lays156 : Go.Proofs.Lays.n156 Tryz.prog Tryz.lays156_ren := {
  mixed := by kernel_rfl
  f156 := Tryz.func63.trans (congrArg some (by kernel_rfl))
  f165 := Tryz.func114.trans (congrArg some (by kernel_rfl))
  f166 := Tryz.func31.trans (congrArg some (by kernel_rfl))
  f169 := Tryz.func32.trans (congrArg some (by kernel_rfl))
  f240 := Tryz.func65.trans (congrArg some (by kernel_rfl))
  f241 := Tryz.func157.trans (congrArg some (by kernel_rfl))
  f276 := Tryz.func115.trans (congrArg some (by kernel_rfl))
  f277 := Tryz.func198.trans (congrArg some (by kernel_rfl))
  t0 := Tryz.underlying0
  a0 := Tryz.isAgg0
  z0 := Tryz.sizeOf0
  v0 := Tryz.zeroValue0
  t3 := Tryz.underlying3
  a3 := Tryz.isAgg3
  z3 := Tryz.sizeOf3
  v3 := Tryz.zeroValue3
  t4 := Tryz.underlying4
  a4 := Tryz.isAgg4
  z4 := Tryz.sizeOf4
  v4 := Tryz.zeroValue4
  t9 := Tryz.underlying9
  a9 := Tryz.isAgg9
  z9 := Tryz.sizeOf9
  v9 := Tryz.zeroValue9
  t20 := Tryz.underlying20
  a20 := Tryz.isAgg20
  z20 := Tryz.sizeOf20
  v20 := Tryz.zeroValue20
  t31 := Tryz.underlying57
  a31 := Tryz.isAgg57
  z31 := Tryz.sizeOf57
  v31 := Tryz.zeroValue57
  t37 := Tryz.underlying48
  a37 := Tryz.isAgg48
  z37 := Tryz.sizeOf48
  v37 := Tryz.zeroValue48
  t70 := Tryz.underlying81
  a70 := Tryz.isAgg81
  z70 := Tryz.sizeOf81
  v70 := Tryz.zeroValue81
  t72 := Tryz.underlying83
  a72 := Tryz.isAgg83
  z72 := Tryz.sizeOf83
  v72 := Tryz.zeroValue83
  t75 := Tryz.underlying87
  a75 := Tryz.isAgg87
  z75 := Tryz.sizeOf87
  v75 := Tryz.zeroValue87
  t76 := Tryz.underlying88
  a76 := Tryz.isAgg88
  z76 := Tryz.sizeOf88
  v76 := Tryz.zeroValue88
  t127 := Tryz.underlying133
  a127 := Tryz.isAgg133
  z127 := Tryz.sizeOf133
  v127 := Tryz.zeroValue133
  t164 := Tryz.underlying195
  a164 := Tryz.isAgg195
  z164 := Tryz.sizeOf195
  v164 := Tryz.zeroValue195 }
theorem Tryz.Builder_Extra_156 : Builder.Extra Tryz.prog Tryz.lays156_ren := {
  sizeBuilder := by kernel_rfl
  liesBuilder := by kernel_rfl
  t5 := Tryz.underlying5
  a5 := Tryz.isAgg5
  z5 := Tryz.sizeOf5
  v5 := Tryz.zeroValue5
  infoByte := by kernel_rfl
  cellsByte := by kernel_rfl
  sizeByte := by kernel_rfl
  neB5 := by decide }
open Go.RowKit in
/-- No element: the empty string; the world is as it was. (Whatever the slice's address and capacity: a nil slice too.) (LAID: no walk: one application.) -/
theorem Tryz.strings_Join_none (a : Option Addr) (c : Nat) (sep : ByteArray) (w : World) :
    Calls Tryz.prog 63 #[.slice a 0 c, .string sep] w fun e w' => e = .returned (.string ⟨#[]⟩) ∧ w' = w := Any.strings_Join_none Tryz.lays156 Tryz.Builder_Extra_156 a c sep w
open Go.RowKit in
/-- strings.Join: "Join concatenates the elements of its first argument to create a single string. The separator string sep is placed between elements in the resulting string.": HOWEVER MANY ELEMENTS. Below the heap's end the world is as it was. (LAID: no walk: one application.) -/
theorem Tryz.strings_Join (bk o c : Nat) (xs : List ByteArray) (sep : ByteArray) (w : World) (hcells : ∀ (j : Nat) x, xs[j]? = some x → w.cell? ⟨bk, o + j, none⟩ = some (.string x)) (hbk : bk < w.heap.size) (hN : xs.length ≤ 140737488355328) (hcap : xs.length ≤ c) (hlen : (Lib.join (xs.map (·.data.toList)) sep.data.toList).length ≤ 140737488355328) :
    Calls Tryz.prog 63 #[.slice (some ⟨bk, o, none⟩) xs.length c, .string sep] w fun e w' => e = .returned (.string ⟨(Lib.join (xs.map (·.data.toList)) sep.data.toList).toArray⟩) ∧ Below w.heap.size w w' := Any.strings_Join Tryz.lays156 Tryz.Builder_Extra_156 bk o c xs sep w hcells hbk hN hcap hlen
def Tryz.laysM171_ren : Go.Shelf.Ren := ⟨fun | 171 => 111 | 243 => 156 | 246 => 197 | 283 => 230 | 284 => 231 | 285 => 232 | 286 => 233 | 129 => 251 | 317 => 250 | 318 => 252 | 319 => 253 | 320 => 254 | 337 => 275 | 338 => 276 | n => n, fun | 3 => 3 | 9 => 9 | 2 => 2 | 4 => 4 | 171 => 382 | 0 => 0 | 53 => 383 | 37 => 48 | 5 => 5 | 173 => 386 | 212 => 406 | 51 => 294 | 20 => 20 | 213 => 407 | 46 => 390 | 232 => 432 | 233 => 433 | n => n, fun | 17 => 1 | 18 => 2 | 19 => 3 | n => n⟩
theorem Tryz.laysM171 : Go.Proofs.LaysM.n171 Tryz.prog Tryz.laysM171_ren := {
  mixed := by kernel_rfl
  f129 := Tryz.func251.trans (congrArg some (by kernel_rfl))
  f171 := Tryz.func111.trans (congrArg some (by kernel_rfl))
  f243 := Tryz.func156.trans (congrArg some (by kernel_rfl))
  f246 := Tryz.func197.trans (congrArg some (by kernel_rfl))
  f283 := Tryz.func230.trans (congrArg some (by kernel_rfl))
  f284 := Tryz.func231.trans (congrArg some (by kernel_rfl))
  f285 := Tryz.func232.trans (congrArg some (by kernel_rfl))
  f286 := Tryz.func233.trans (congrArg some (by kernel_rfl))
  f317 := Tryz.func250.trans (congrArg some (by kernel_rfl))
  f318 := Tryz.func252.trans (congrArg some (by kernel_rfl))
  f319 := Tryz.func253.trans (congrArg some (by kernel_rfl))
  f320 := Tryz.func254.trans (congrArg some (by kernel_rfl))
  f337 := Tryz.func275.trans (congrArg some (by kernel_rfl))
  f338 := Tryz.func276.trans (congrArg some (by kernel_rfl))
  t0 := Tryz.underlying0
  a0 := Tryz.isAgg0
  z0 := Tryz.sizeOf0
  v0 := Tryz.zeroValue0
  t2 := Tryz.underlying2
  a2 := Tryz.isAgg2
  z2 := Tryz.sizeOf2
  v2 := Tryz.zeroValue2
  t3 := Tryz.underlying3
  a3 := Tryz.isAgg3
  z3 := Tryz.sizeOf3
  v3 := Tryz.zeroValue3
  t4 := Tryz.underlying4
  a4 := Tryz.isAgg4
  z4 := Tryz.sizeOf4
  v4 := Tryz.zeroValue4
  t5 := Tryz.underlying5
  a5 := Tryz.isAgg5
  z5 := Tryz.sizeOf5
  v5 := Tryz.zeroValue5
  t9 := Tryz.underlying9
  a9 := Tryz.isAgg9
  z9 := Tryz.sizeOf9
  v9 := Tryz.zeroValue9
  t20 := Tryz.underlying20
  a20 := Tryz.isAgg20
  z20 := Tryz.sizeOf20
  v20 := Tryz.zeroValue20
  t37 := Tryz.underlying48
  a37 := Tryz.isAgg48
  z37 := Tryz.sizeOf48
  v37 := Tryz.zeroValue48
  t46 := Tryz.underlying390
  a46 := Tryz.isAgg390
  z46 := Tryz.sizeOf390
  v46 := Tryz.zeroValue390
  t51 := Tryz.underlying294
  a51 := Tryz.isAgg294
  z51 := Tryz.sizeOf294
  v51 := Tryz.zeroValue294
  t53 := Tryz.underlying383
  a53 := Tryz.isAgg383
  z53 := Tryz.sizeOf383
  v53 := Tryz.zeroValue383
  t171 := Tryz.underlying382
  a171 := Tryz.isAgg382
  z171 := Tryz.sizeOf382
  v171 := Tryz.zeroValue382
  t173 := Tryz.underlying386
  a173 := Tryz.isAgg386
  z173 := Tryz.sizeOf386
  v173 := Tryz.zeroValue386
  t212 := Tryz.underlying406
  a212 := Tryz.isAgg406
  z212 := Tryz.sizeOf406
  v212 := Tryz.zeroValue406
  t213 := Tryz.underlying407
  a213 := Tryz.isAgg407
  z213 := Tryz.sizeOf407
  t232 := Tryz.underlying432
  a232 := Tryz.isAgg432
  z232 := Tryz.sizeOf432
  v232 := Tryz.zeroValue432
  t233 := Tryz.underlying433
  a233 := Tryz.isAgg433
  z233 := Tryz.sizeOf433
  v233 := Tryz.zeroValue433
  g17 := by kernel_rfl
  g18 := by kernel_rfl
  g19 := by kernel_rfl
  i0 := by kernel_rfl
  i2 := by kernel_rfl
  i3 := by kernel_rfl
  i4 := by kernel_rfl
  i5 := by kernel_rfl
  i9 := by kernel_rfl
  i20 := by kernel_rfl
  i37 := by kernel_rfl
  i46 := by kernel_rfl
  i51 := by kernel_rfl
  i53 := by kernel_rfl
  i171 := by kernel_rfl
  i173 := by kernel_rfl
  i212 := by kernel_rfl
  i232 := by kernel_rfl
  i233 := by kernel_rfl
  m17 := by kernel_rfl
  m18 := by kernel_rfl
  m19 := by kernel_rfl }
open Go.RowKit Go.Sort Go.Lib in
/-- strconv.Itoa: "Itoa is equivalent to FormatInt(int64(i), 10).": i's DECIMAL NUMERAL ('Lib.itoa': a '-' where i is negative, then the digits), FOR EVERY int. The world behind the call: the world before it, new blocks behind the heap (the library's 'var a [24]byte'), draws. (LAID: no walk: one application.) -/
theorem Tryz.strconv_Itoa (n : Int) (h0 : -9223372036854775808 ≤ n) (h1 : n ≤ 9223372036854775807) (w : World) (htab : Lib.TabIs Tryz.prog w "internal/strconv.uint64pow10" .u64 Lib.pow10Tab) :
    Calls Tryz.prog 111 #[.int .i64 n] w fun e w' => e = .returned (.string ⟨(Lib.itoa n).toArray⟩) ∧ ∃ k os, w' = grow (w.drewN k) os := Any.strconv_Itoa Tryz.laysM171 n h0 h1 w htab
end Go.Proofs
namespace Go.Proofs.Nt
open Go.Sk

/-! ### First -/

def okF (s : List Ag) (n : Nt) : Prop := (sigChk s).1 = 0 ∧ n.cells.length ≤ 100000 ∧ -1000 ≤ n.free ∧ n.free ≤ 1000 ∧ n.wires.length ≤ 1000000
instance (s : List Ag) (n : Nt) : Decidable (okF s n) := by unfold okF; infer_instance
/-! ### All -/

section
variable {i3 : Sk.Id} {c w : AV} {f : Int}

end
theorem hix {t e : TypeId} {r : Sk.Id} {m : Nat} {a : Int} {h : AH} (ht : Tryz.prog.underlying t = some (.slice e)) (hn : sizeT Tryz.prog e = some 1) (h0 : 0 ≤ a) (h1 : a < m) : vOf h (aIndexAddr Tryz.prog t (.hsl r 0 m (.known m)) (.int .i64 a)) = some (.ret (.ptr r (0 + a.toNat * 1)), h) := by
  simp only [aIndexAddr, ht, hn]
  rw [if_pos ⟨h0, h1⟩]
  rfl
theorem hst {e : TypeId} {r : Sk.Id} {a : Int} {h : AH} {cs : List AV} {v : AV} (hg : h.get r = some (.cells cs e)) (hn : sizeT Tryz.prog e = some 1) (hc : v.cells = [v]) (hs : v.scalar = true) (hl : a.toNat < cs.length) : hOf (aStore Tryz.prog e (.ptr r (0 + a.toNat * 1)) v h) = some (.ret undefA, h.set r (.cells (cs.set a.toNat v) e)) := by
  rw [st_ptr (n := 1) hg hn (by rw [hc]; rfl) (by omega) (by rw [hc]; simp [hs]), hc]
  rw [Nat.mul_one, Nat.zero_add]
  rfl

section
variable {i3 r : Sk.Id} {c w : AV} {f : Int}

end
/-! ### Contracts, for the signature of numbers -/
section
variable {i3 r : Sk.Id} {c w : AV} {f : Int}

end

/-! ### Read -/

theorem getD_some {α : Type} {l : List α} {i : Nat} {d v : α} (h : l[i]? = some v) : l.getD i d = v := by rw [List.getD_eq_getElem?_getD, h]; rfl
end Go.Proofs.Nt
namespace Go.Proofs.Nt
open Go.Sk
end Go.Proofs.Nt
namespace Go.Proofs.Nt
open Go.Sk

section
variable {s : List Ag} {n : Nt} (hP : ∀ a, 0 ≤ portsN s a) (hf : 0 ≤ n.free)
include hP hf

omit hP hf in
omit hf in
end

/-! ### Reading -/
end Go.Proofs.Nt
namespace Go.Proofs.Nt
open Go.Sk
end Go.Proofs.Nt
namespace Go.Proofs.Nt
open Go.Sk

section
variable {i7 i8 r b2 b3 l d : Sk.Id} {x c w : AV} {f : Int}

end
end Go.Proofs.Nt
namespace Go.Proofs.Nt
open Go.Sk
end Go.Proofs.Nt
namespace Go.Proofs.Nt
open Go.Sk

section
variable {i7 b2 b3 l d : Sk.Id} {x c w : AV} {f : Int}

end
end Go.Proofs.Nt
namespace Go.Proofs.Nt
open Go.Sk
end Go.Proofs.Nt
namespace Go.Proofs.Nt
open Go.Sk

/-! ### The map -/

section
variable {i1 r : Sk.Id} {c w ev pv : AV} {f : Int}

end
end Go.Proofs.Nt
namespace Go.Proofs.Nt
open Go.Sk Go.Proofs

/-! ### Numerals -/

def digF : Nat → Nat → List UInt8
  | 0, _ => []
  | f + 1, u => match Nat.blt u 10 with | true => [UInt8.ofNat (48 + u)] | false => digF f (u / 10) ++ [UInt8.ofNat (48 + u % 10)]
theorem digF_eq : ∀ (f u : Nat), 0 < f → u < 10 ^ f → digF f u = Lib.decDigits u
  | 0, u, h, _ => by omega
  | f + 1, u, _, h => by
    rw [Lib.decDigits]
    simp only [digF]
    by_cases hu : u < 10
    · have hb : Nat.blt u 10 = true := Nat.ble_eq_true_of_le hu
      rw [dif_pos hu, hb]
    · have hb : Nat.blt u 10 = false := by
        cases e : Nat.blt u 10 with
        | false => rfl
        | true => exact absurd (Nat.le_of_ble_eq_true e) hu
      rw [dif_neg hu, hb]
      simp only
      have hf : 0 < f := by
        rcases f with _ | f
        · simp at h; omega
        · omega
      rw [digF_eq f (u / 10) hf (by rw [Nat.div_lt_iff_lt_mul (by omega)]; rw [Nat.pow_succ] at h; exact h)]
/-- A number as strconv.Itoa writes it. -/
def numL (n : Int) : List UInt8 := digF 20 n.toNat
theorem numL_eq {n : Int} (h0 : 0 ≤ n) (h1 : n < 1000000) : numL n = Lib.itoa n := by
  unfold numL Lib.itoa
  rw [if_neg (by omega), digF_eq 20 _ (by omega) (by omega)]

def sIt : List AV → Option AV
  | [.int .i64 n] => if 0 ≤ n ∧ n < 1000000 then some (.str (numL n)) else none
  | _ => none
theorem ok_It : FnOK Tryz.prog 111 := ⟨_, Tryz.func111, by kernel_rfl, by kernel_rfl⟩
theorem EIt_of {hk : Hooks} (hE : EvOK (mkEv Tryz.prog mu0 hk)) {g : Nat} (hg : Tryz.prog.globalNamed "internal/strconv.uint64pow10" = some g) (h0 : im0 g = some (Lib.pow10Tab.map fun z => Value.int .u64 z).toArray) : EvOK (mkEv Tryz.prog mu0 (addHk hk 111 sIt)) :=
  mkEv_addC hE ok_It fun args v hs ρ h w cargs hR ha => by
    unfold sIt at hs; split at hs
    · rename_i n
      split at hs
      · rename_i hl
        cases hs
        refine ⟨.string ⟨⟨numL n⟩⟩, .str _, ?_⟩
        obtain ⟨c, rfl⟩ : ∃ c, cargs = [c] := by
          have := ha.1
          match cargs, this with
          | [c], _ => exact ⟨c, rfl⟩
        have hv := ha.2 0 (by simp) (by simp)
        simp only [List.getElem_cons_zero] at hv
        cases hv
        refine (Tryz.strconv_Itoa n (by omega) (by omega) w (hR.var hg h0)).mono fun e w' hp => ?_
        obtain ⟨rfl, k, os, rfl⟩ := hp
        refine ⟨by rw [numL_eq hl.1 hl.2], ?_⟩
        exact ⟨rfl, rfl, rfl, by simp [Go.Sort.grow, World.drewN], fun k hk => Go.Sort.heap_grow_old _ _ hk⟩
      · cases hs
    · cases hs
/-! ### Strings joined -/

def strV (l : List UInt8) : AV := .str l
def decStr : AV → Option (List UInt8) | .str l => some l | _ => none
def strsOf : AV → Option (List (List UInt8)) := decL decStr strV
abbrev IsStrs (x : AV) (l : List (List UInt8)) : Prop := IsL x (l.map strV)
def sJn : List AV → Option AV
  | [x, .str sep] => match strsOf x with | some l => if (Lib.join l sep).length ≤ 140737488355328 ∧ l.length ≤ 1000000000 then some (.str (Lib.join l sep)) else none | none => none
  | _ => none
theorem ok_Jn : FnOK Tryz.prog 63 := ⟨_, Tryz.func63, by kernel_rfl, by kernel_rfl⟩
theorem EJn_of {hk : Hooks} (hE : EvOK (mkEv Tryz.prog mu0 hk)) : EvOK (mkEv Tryz.prog mu0 (addHk hk 63 sJn)) :=
  mkEv_addC hE ok_Jn fun args v hs ρ h w cargs hR ha => by
    unfold sJn at hs; split at hs
    · rename_i x sep
      split at hs
      · rename_i l hx
        split at hs
        · rename_i hl
          cases hs
          refine ⟨.string ⟨⟨Lib.join l sep⟩⟩, .str _, ?_⟩
          obtain ⟨c, d, rfl⟩ : ∃ c d, cargs = [c, d] := by
            have := ha.1
            match cargs, this with
            | [c, d], _ => exact ⟨c, d, rfl⟩
          have hv := ha.2 0 (by simp) (by simp)
          have hd := ha.2 1 (by simp) (by simp)
          simp only [List.getElem_cons_zero, List.getElem_cons_succ] at hv hd
          cases hd
          have hI : IsStrs x l := decL_inv hx
          rcases hI with ⟨rfl, hn⟩ | ⟨cap, rfl⟩
          · have : l = [] := by simpa using hn
            subst this
            cases hv
            refine (Tryz.strings_Join_none none 0 ⟨⟨sep⟩⟩ w).mono fun e w' hp => ?_
            obtain ⟨rfl, rfl⟩ := hp
            exact ⟨rfl, RowKit.Below.refl _ _⟩
          · cases hv with
            | vsl _ _ b off n s cc hs' hc hv' hn hcap =>
              have hlm : (l.map strV).length = l.length := List.length_map ..
              rw [hlm] at hn
              cases hl0 : l with
              | nil =>
                subst hl0
                refine (Tryz.strings_Join_none (some ⟨b, off, none⟩) n ⟨⟨sep⟩⟩ w).mono fun e w' hp => ?_
                obtain ⟨rfl, rfl⟩ := hp
                exact ⟨rfl, RowKit.Below.refl _ _⟩
              | cons l0 lr =>
                rw [← hl0]
                have hpos : 0 < l.length := by rw [hl0]; simp
                have hsz : s = 1 := by
                  have := hs' 0 (by simpa using hpos)
                  rw [← this]; simp [strV, AV.cells]
                subst hsz
                have hcell : ∀ j (hj : j < l.length), w.cell? ⟨b, off + j, none⟩ = some (.string ⟨⟨l[j]⟩⟩) := fun j hj => by
                  have h1 := hc j 0 (by simpa using hj) (by omega)
                  have h2 := hv' j (by simpa using hj) 0 (by simp [strV, AV.cells])
                  have h3 := hR.imm _ _ _ h1
                  have h4 : cc j 0 = .string ⟨⟨l[j]⟩⟩ := by
                    have e : ((l.map strV)[j]'(by simpa using hj)).cells[0]'(by simp [strV, AV.cells]) = .str l[j] := by simp [strV, AV.cells]
                    rw [e] at h2
                    generalize cc j 0 = z at h2
                    cases h2; rfl
                  rw [h4, Nat.mul_one, Nat.add_zero] at h3
                  exact h3
                have hb : b < w.heap.size := by
                  have h3 := hcell 0 hpos
                  rcases Nat.lt_or_ge b w.heap.size with k | k
                  · exact k
                  · simp [World.cell?, Array.getElem?_eq_none k] at h3
                have hmap : (l.map fun x => (⟨⟨x⟩⟩ : ByteArray)).map (fun x => x.data.toList) = l := by rw [List.map_map]; simp [Function.comp_def]
                have := Tryz.strings_Join b off n (l.map fun x => (⟨⟨x⟩⟩ : ByteArray)) ⟨⟨sep⟩⟩ w (fun j x hj => by
                  rw [List.getElem?_map] at hj
                  cases hg : l[j]? with
                  | none => rw [hg] at hj; cases hj
                  | some y =>
                    rw [hg] at hj
                    simp only [Option.map_some, Option.some.injEq] at hj
                    subst hj
                    obtain ⟨hjl, rfl⟩ := List.getElem?_eq_some_iff.1 hg
                    exact hcell j hjl) hb (by simp; omega) (by simpa using hn) (by rw [hmap]; exact hl.1)
                rw [hmap, List.length_map] at this
                rw [hlm]
                exact this
        · cases hs
      · cases hs
    · cases hs
end Go.Proofs.Nt
namespace Go.Proofs.Nt
open Go.Sk Go.RowKit

theorem bu_size : (Tryz.prog.info? 83).map (·.size) = some 2 := by kernel_rfl
theorem lies_head {P : Program} {e : TypeId} (h0 : P.cellsOf e ≠ 0) (count : Nat) (hn : 1 ≤ count) : liesAt P P.depth e count 0 e 1 = true := by
  have hd : P.depth = (2 * (P.types.size + Made.depth) + 1) + 1 := rfl
  rw [hd]
  simp only [liesAt, Bool.or_eq_true]
  left
  rw [hd]
  simp [rowAt, hn, sameLayout]
  try omega

set_option maxHeartbeats 1000000 in
set_option maxRecDepth 100000 in
theorem bu_used (b : Nat) (w : World) (h0 : w.cell? ⟨b, 0, none⟩ = some (.pointer (some ⟨b, 0, none⟩))) : Calls Tryz.prog 65 #[.pointer (some ⟨b, 0, none⟩)] w fun e w' => e = .returned (.tuple #[]) ∧ w' = w := by
  obtain ⟨j, hj, _⟩ := Option.map_eq_some_iff.1 bu_size
  go_enter Tryz.func65, Tryz.ntmps65
  go_wp2
  rw [Lib.run_neq_ptr_same w _ Tryz.underlying81 hj]
  go_wp2
  go_end0
  exact ⟨rfl, rfl⟩

set_option maxHeartbeats 1000000 in
set_option maxRecDepth 100000 in
theorem bu_fresh (b n : Nat) (w : World) (h0 : w.cell? ⟨b, 0, none⟩ = some (.pointer none)) (hsh : w.shape? b = some (83, n)) (hn : 2 ≤ n) (hfz : w.frozen? ⟨b, 0, none⟩ = false) :
    Calls Tryz.prog 65 #[.pointer (some ⟨b, 0, none⟩)] w fun e w' => e = .returned (.tuple #[]) ∧ w' = w.setCell ⟨b, 0, none⟩ (.pointer (some ⟨b, 0, none⟩)) := by
  obtain ⟨j, hj, hjs⟩ := Option.map_eq_some_iff.1 bu_size
  have hc2 : Tryz.prog.cellsOf 83 = 2 := by kernel_rfl
  have hlies : liesAt Tryz.prog Tryz.prog.depth 83 (n / Tryz.prog.cellsOf 83) 0 83 1 = true := lies_head (by rw [hc2]; decide) _ (by rw [hc2]; omega)
  go_enter Tryz.func65, Tryz.ntmps65
  go_wp2
  rw [Lib.run_to_unsafe w ⟨b, 0, none⟩ Tryz.underlying81 Tryz.underlying195 hj (by rw [hjs]; decide) hsh (by show 0 < n; omega)]
  simp only [Result.andThen]
  rw [Oper.upon_value]
  go_wp2
  rw [run_callFunc_extern Tryz.func115 (by kernel_rfl) (by kernel_rfl) (by kernel_rfl) (e := Extern.AbiNoEscape.same) (by kernel_rfl)]
  rw [Lib.run_noEscape]
  simp only [Result.andThen]
  rw [Oper.upon_value]
  go_wp2
  rw [Lib.run_from_unsafe w ⟨b, 0, none⟩ Tryz.underlying195 Tryz.underlying81 hj hsh hlies]
  simp only [Result.andThen]
  rw [Oper.upon_value]
  go_wp2
  go_end0
  exact ⟨rfl, rfl⟩

set_option maxHeartbeats 2000000 in
set_option maxRecDepth 100000 in
theorem bu_nil (b : Nat) (w : World) (c0 : w.cell? ⟨b, 1, none⟩ = some (.slice none 0 0)) :
    Calls Tryz.prog 32 #[.pointer (some ⟨b, 0, none⟩)] w fun e w' => e = .returned (.string ⟨#[]⟩) ∧ Grew w w' := by
  have hUS : ∀ (W : World) (q : Option Addr), (Builtin.unsafeString_ #[133, 3] 9 #[.pointer q, .int .i64 0]).run Tryz.prog W = .ok (.string .empty) W := fun W q => Lib.run_unsafeString_none W _ _ _ q
  have c1 : w.drew.cell? ⟨b, 1, none⟩ = some (.slice none 0 0) := c0
  have hSD : (Builtin.unsafeSliceData_ #[48] 133 #[.slice none 0 0]).run Tryz.prog w.drew = .ok (.pointer none) w.drew := rfl
  go_enter Tryz.func32, Tryz.ntmps32
  go_wp2
  go_region
  all_goals (go_wp2; go_ret; exact ⟨rfl, Grew.drawn _ _⟩)

set_option maxHeartbeats 2000000 in
set_option maxRecDepth 100000 in
theorem bu_row (b g n cap : Nat) (l : List UInt8) (w : World) (c0 : w.cell? ⟨b, 1, none⟩ = some (.slice (some ⟨g, 0, none⟩) l.length cap)) (hsh : w.shape? g = some (5, n)) (hcell : ∀ j x, l[j]? = some x → w.cell? ⟨g, j, none⟩ = some (.int .u8 x.toNat))
    (h0 : l ≠ []) (hn : l.length ≤ n) (hm : l.length ≤ 140737488355328) (hcap : cap ≠ 0) :
    Calls Tryz.prog 32 #[.pointer (some ⟨b, 0, none⟩)] w fun e w' => e = .returned (.string ⟨l.toArray⟩) ∧ ∃ k, w' = { (w.freeze ⟨g, 0, none⟩ l.length) with drawn := k } := by
  have c1 : w.drew.cell? ⟨b, 1, none⟩ = some (.slice (some ⟨g, 0, none⟩) l.length cap) := c0
  have hSD : (Builtin.unsafeSliceData_ #[48] 133 #[.slice (some ⟨g, 0, none⟩) l.length cap]).run Tryz.prog w.drew = .ok (.pointer (some ⟨g, 0, none⟩)) w.drew :=
    Lib.run_unsafeSliceData_row _ _ _ _ _ _ hcap
  have hUS : (Builtin.unsafeString_ #[133, 3] 9 #[.pointer (some ⟨g, 0, none⟩), .int .i64 l.length]).run Tryz.prog w.drew = .ok (.string ⟨l.toArray⟩) (w.drew.freeze ⟨g, 0, none⟩ l.length) := by
    refine Lib.run_unsafeString_row w.drew 133 3 9 5 Tryz.underlying133 (by kernel_rfl) g n hsh l h0 hn (by omega) ?_
    intro j x hx
    have := hcell j x hx
    unfold Addr.add
    split
    · rename_i hz; subst hz; exact this
    · simpa using this
  go_enter Tryz.func32, Tryz.ntmps32
  go_wp2
  go_region
  all_goals (go_wp2; go_ret; exact ⟨rfl, w.drawn + 1, by unfold World.freeze; split <;> rfl⟩)

theorem buOK : BuOK Tryz.prog 65 32 83 5 where
  fcc := ⟨_, Tryz.func65, by kernel_rfl, by kernel_rfl⟩
  fst := ⟨_, Tryz.func32, by kernel_rfl, by kernel_rfl⟩
  fresh := fun b n w h0 h1 h2 h3 => bu_fresh b n w h0 h1 h2 h3
  used := fun b w h0 => bu_used b w h0
  nil := fun b w h0 => bu_nil b w h0
  row := fun b g n cap l w h0 h1 h2 h3 h4 h5 h6 => bu_row b g n cap l w h0 h1 h2 h3 h4 h5 h6
  size := bu_size
end Go.Proofs.Nt
namespace Go.Proofs.Nt
open Go.Sk

/-- No book: nil, or one that New did not make. -/
def NilB (h : AH) (v : AV) : Prop := v = .nilptr ∨ ∃ r, v = .ptr r 0 ∧ h.get r = some (.cells [.nilsl, .nilmap, .nilsl] 37)
def hNB (call : CallT) : Prop := ∀ v h, NilB h v → call (.func 22) [v] h = some (.ret (.bool true), h)
theorem bNB (call rgn n) (v : AV) (h : AH) (hv : NilB h v) : B shT call rgn n 22 Tryz.f22 [v] h = some (.ret (.bool true), h) := by
  suffices hq : ∀ Q : Option (AOut × AH) → Prop, Q (some (.ret (.bool true), h)) → Q (B shT call rgn n 22 Tryz.f22 [v] h) from hq (fun y => y = some (.ret (.bool true), h)) rfl
  intro Q hQ
  rcases hv with rfl | ⟨r, rfl, hg⟩
  · conv => arg 1; whnf
    exact atLeave_P (leave_plain (.inl rfl) rfl) hQ
  · have l1 : vOf h (aLoad Tryz.prog 35 (.ptr r 2) h) = some (.ret .nilsl, h) := ld_ptr (n := 1) hg (by kernel_rfl) (by kernel_rfl) rfl
    conv => arg 1; whnf
    refine atCall_P (l1) ?_
    conv => arg 1; whnf
    exact atLeave_P (leave_plain (.inl rfl) rfl) hQ
theorem hNB_of {hk : Hooks} {n : Nat} (hno : ∀ args h, hk 22 args h = none) (hn : 0 < n) : hNB (evCall (mkEv Tryz.prog mu0 hk) n) := fun v h hv => by
  obtain ⟨n, rfl⟩ : ∃ m, n = m + 1 := ⟨n - 1, by omega⟩
  exact ev_of_cBodyS shT (hno _ _) Tryz.func22 rfl (by kernel_rfl) (bNB _ _ _ v h hv)

/-- What a call that only makes things of its own leaves. -/
def Keep (h h' : AH) : Prop := (∀ q o, h.get q = some o → q.nat < h.next.nat → h'.get q = some o) ∧ h.next.nat ≤ h'.next.nat
theorem Keep.refl (h : AH) : Keep h h := ⟨fun _ _ a _ => a, Nat.le_refl _⟩
theorem Keep.trans {a b c : AH} (h : Keep a b) (k : Keep b c) : Keep a c := ⟨fun q o e l => k.1 q o (h.1 q o e l) (Nat.lt_of_lt_of_le l h.2), Nat.le_trans h.2 k.2⟩
theorem Keep.alloc (h : AH) (o : AO) : Keep h (h.alloc o) := ⟨fun q o' e l => by rw [AH.get_alloc, if_neg (by rintro rfl; omega)]; exact e, by simp [AH.next_alloc, Id.nat_succ]⟩
/-- Writing an object that is newer. -/
def Newer (g : AH) (i : Sk.Id) : Prop := g.next.nat ≤ i.nat
theorem Newer.self (g : AH) : Newer g g.next := Nat.le_refl _
theorem Newer.of {g h : AH} (k : Keep g h) : Newer g h.next := k.2
theorem Keep.set {g h : AH} {r : Sk.Id} (k : Keep g h) (hr : Newer g r) (o : AO) : Keep g (h.set r o) := ⟨fun q o' e l => by rw [AH.get_set, if_neg (by rintro rfl; unfold Newer at hr; omega)]; exact k.1 q o' e l, k.2⟩
theorem NilB.keep {h h' : AH} {v : AV} (hv : NilB h v) (hl : ∀ r, v = .ptr r 0 → r.nat < h.next.nat) (k : Keep h h') : NilB h' v := by
  rcases hv with rfl | ⟨r, rfl, hg⟩
  · exact .inl rfl
  · exact .inr ⟨r, rfl, k.1 _ _ hg (hl r rfl)⟩
theorem aResult_cell {P : Program} {tm : List AV} {h : AH} {a : Tmp} {T : TypeId} {p v : AV} (hp : tm.getD a undefA = p) (hl : aLoad P T p h = some v) : aResult P tm h (.cell a T) = some v := by
  simp only [aResult, hp]; exact hl
def zRule : AV := .agg [.int .i64 0, .int .i64 0, .nilsl, .int .i64 0, .nilsl]
def hNF (call : CallT) : Prop := ∀ v p q h, NilB h v → (∀ r, v = .ptr r 0 → r.nat < h.next.nat) → ∃ h', call (.func 7) [v, .int .i64 p, .int .i64 q] h = some (.ret (.tup [zRule, .bool false, .bool false]), h') ∧ Keep h h'
theorem bNF (call rgn n) (v : AV) (p q : Int) (h : AH) (hv : NilB h v) (hl : ∀ r, v = .ptr r 0 → r.nat < h.next.nat) (hN : hNB call) (hrg : ∀ id ops st, rgn id ops st = drawn ⟨Tryz.prog, mu0, call⟩ 7 ops st) :
    ∃ h', B shT call rgn n 7 Tryz.f7 [v, .int .i64 p, .int .i64 q] h = some (.ret (.tup [zRule, .bool false, .bool false]), h') ∧ Keep h h' := by
  suffices hq : ∀ Q : Option (AOut × AH) → Prop, ¬ Q none → (∀ h', Keep h h' → Q (some (.ret (.tup [zRule, .bool false, .bool false]), h'))) → Q (B shT call rgn n 7 Tryz.f7 [v, .int .i64 p, .int .i64 q] h) from
    hq (fun y => ∃ h', y = some (.ret (.tup [zRule, .bool false, .bool false]), h') ∧ Keep h h') (by rintro ⟨_, h, _⟩; cases h) (fun h' k => ⟨h', rfl, k⟩)
  intro Q hno hQ
  conv => arg 1; whnf
  refine atCall_P (alloc_new (z := .agg [.int .i64 0, .int .i64 0, .nilsl, .int .i64 0, .nilsl]) (cs := [.int .i64 0, .int .i64 0, .nilsl, .int .i64 0, .nilsl]) (by kernel_rfl) rfl rfl) ?_
  have k1 := Keep.alloc h (.cells [.int .i64 0, .int .i64 0, .nilsl, .int .i64 0, .nilsl] 27)
  have v1 := hv.keep hl k1
  have w6 := Newer.self h
  generalize hh_h1 : h.alloc (.cells [.int .i64 0, .int .i64 0, .nilsl, .int .i64 0, .nilsl] 27) = h1 at *
  obtain ⟨a_i6, n_i6, k_h1⟩ := alloc_facts hh_h1
  clear hh_h1 k_h1
  generalize hi_i6 : h.next = i6 at *
  clear hi_i6
  have pN := hN v h1 v1
  have st : hOf (aStore Tryz.prog 27 (.ptr i6 0) (.agg [.int .i64 0, .int .i64 0, .nilsl, .int .i64 0, .nilsl]) h1) = some (.ret undefA, h1.set i6 (.cells [.int .i64 0, .int .i64 0, .nilsl, .int .i64 0, .nilsl] 27)) := st_ptr (n := 5) a_i6 (by kernel_rfl) rfl (by simp) rfl
  have hv' : v = .nilptr ∨ ∃ r, v = .ptr r 0 := by
    rcases hv with h | ⟨r, h, _⟩
    · exact .inl h
    · exact .inr ⟨r, h⟩
  have k2 := k1.set (r := i6) w6 (.cells [.int .i64 0, .int .i64 0, .nilsl, .int .i64 0, .nilsl] 27)
  have g2 : (h1.set i6 (.cells [.int .i64 0, .int .i64 0, .nilsl, .int .i64 0, .nilsl] 27)).get i6 = some (.cells [.int .i64 0, .int .i64 0, .nilsl, .int .i64 0, .nilsl] 27) := by rw [AH.get_set, if_pos rfl]
  generalize h1.set i6 (.cells [.int .i64 0, .int .i64 0, .nilsl, .int .i64 0, .nilsl] 27) = h2 at st k2 g2
  have ln : vOf h2 (aLoad Tryz.prog 27 (.ptr i6 0) h2) = some (.ret (.agg [.int .i64 0, .int .i64 0, .nilsl, .int .i64 0, .nilsl]), h2) := ld_agg (n := 5) g2 (by kernel_rfl) (by kernel_rfl) (by simp)
  rcases hv' with rfl | ⟨r, rfl⟩
  all_goals
    conv => arg 1; whnf
    refine atRgn_N true (fun hh => True) (T := [0, 1, 3, 7, 15, 31, 63, 127, 7, 7, 775, 2047, 4095, 8191]) (ord := [0, 1, 2, 3, 4, 5, 6, 7, 8, 9, 10, 11, 12, 13]) (by kernel_rfl) (hrg _ _ _) hno ?_
    conv => arg 1; whnf
    refine atCall_P (pN) ?_
    conv => arg 1; whnf
    refine atP_P ⟨⟨trivial, trivial, trivial, trivial, trivial, trivial, trivial, fun hw => Bool.noConfusion (show false = true from hw), trivial, trivial, trivial, fun hw => Bool.noConfusion (show false = true from hw), trivial, trivial, trivial⟩, fun _ _ _ => trivial, (fun a ha => by cases ha), rfl⟩ ?_
    conv => arg 1; whnf
    conv => arg 1; whnf
    refine atCall_P (st) ?_
    conv => arg 1; whnf
    refine atLeave_P (leave_plain (.inl rfl) (l := [zRule, .bool false, .bool false]) ?_) (hQ _ k2)
    show aResults _ _ _ _ = _
    have lz : aLoad Tryz.prog 27 (.ptr i6 0) h2 = some zRule := by
      revert ln
      cases aLoad Tryz.prog 27 (.ptr i6 0) h2 with
      | none => intro ln; cases ln
      | some u => intro ln; simp only [vOf, Option.some.injEq, Prod.mk.injEq, AOut.ret.injEq] at ln; rw [ln.1]; rfl
    rw [show Tryz.f7.results.toList = [.cell 6 27, .tmp 7, .tmp 8] from rfl]
    simp only [aResults]
    rw [aResult_cell (p := .ptr i6 0) rfl lz]
    rfl
theorem hNF_of {hk : Hooks} {n : Nat} (hno : ∀ args h, hk 7 args h = none) (hN : ∀ n, 0 < n → hNB (evCall (mkEv Tryz.prog mu0 hk) n)) (hn : 1 < n) : hNF (evCall (mkEv Tryz.prog mu0 hk) n) := fun v p q h hv hl => by
  obtain ⟨n, rfl⟩ : ∃ m, n = m + 1 := ⟨n - 1, by omega⟩
  obtain ⟨h', a, b⟩ := bNF (evCall (mkEv Tryz.prog mu0 hk) n) (rg Tryz.prog mu0 hk n 7) n v p q h hv hl (hN n (by omega)) (fun _ _ _ => rfl)
  exact ⟨h', ev_of_cBodyS shT (hno _ _) Tryz.func7 rfl (by kernel_rfl) a, b⟩

/-! ### Add, Rules, Sig, Text -/

def hNA (call : CallT) : Prop := ∀ v r h, NilB h v → (∀ r, v = .ptr r 0 → r.nat < h.next.nat) → (∃ a b c f w, r = .agg [.int .i64 a, .int .i64 b, c, .int .i64 f, w] ∧ c.scalar = true ∧ w.scalar = true) → ∃ h', call (.func 8) [v, r] h = some (.ret (.int .i64 1), h') ∧ Keep h h'
theorem bNA (call rgn n) (v : AV) (a b : Int) (c : AV) (f : Int) (w : AV) (h : AH) (hv : NilB h v) (hl : ∀ r, v = .ptr r 0 → r.nat < h.next.nat) (hc : c.scalar = true) (hw : w.scalar = true) (hN : hNB call) :
    ∃ h', B shT call rgn n 8 Tryz.f8 [v, .agg [.int .i64 a, .int .i64 b, c, .int .i64 f, w]] h = some (.ret (.int .i64 1), h') ∧ Keep h h' := by
  suffices hq : ∀ Q : Option (AOut × AH) → Prop, (∀ h', Keep h h' → Q (some (.ret (.int .i64 1), h'))) → Q (B shT call rgn n 8 Tryz.f8 [v, .agg [.int .i64 a, .int .i64 b, c, .int .i64 f, w]] h) from
    hq (fun y => ∃ h', y = some (.ret (.int .i64 1), h') ∧ Keep h h') (fun h' k => ⟨h', rfl, k⟩)
  intro Q hQ
  have k1 := Keep.alloc h (.cells [.int .i64 a, .int .i64 b, c, .int .i64 f, w] 27)
  have v1 := hv.keep hl k1
  have pN := hN v _ v1
  have hv' : v = .nilptr ∨ ∃ r, v = .ptr r 0 := by
    rcases hv with h | ⟨r, h, _⟩
    · exact .inl h
    · exact .inr ⟨r, h⟩
  rcases hv' with rfl | ⟨r, rfl⟩
  all_goals
    conv => arg 1; whnf
    refine atCall_P (box_new (cs := [.int .i64 a, .int .i64 b, c, .int .i64 f, w]) rfl (by simp only [List.all_cons, hc, hw, List.all_nil]; rfl)) ?_
    generalize h.alloc (.cells [.int .i64 a, .int .i64 b, c, .int .i64 f, w] 27) = h1 at k1 pN
    conv => arg 1; whnf
    refine atCall_P (pN) ?_
    conv => arg 1; whnf
    exact atLeave_P (leave_plain (.inl rfl) rfl) (hQ _ k1)
theorem hNA_of {hk : Hooks} {n : Nat} (hno : ∀ args h, hk 8 args h = none) (hN : ∀ n, 0 < n → hNB (evCall (mkEv Tryz.prog mu0 hk) n)) (hn : 1 < n) : hNA (evCall (mkEv Tryz.prog mu0 hk) n) := fun v r h hv hl hr => by
  obtain ⟨n, rfl⟩ : ∃ m, n = m + 1 := ⟨n - 1, by omega⟩
  obtain ⟨a, b, c, f, w, rfl, hc, hw⟩ := hr
  obtain ⟨h', q, k⟩ := bNA (evCall (mkEv Tryz.prog mu0 hk) n) (rg Tryz.prog mu0 hk n 8) n v a b c f w h hv hl hc hw (hN n (by omega))
  exact ⟨h', ev_of_cBodyS shT (hno _ _) Tryz.func8 rfl (by kernel_rfl) q, k⟩

def hNR (call : CallT) : Prop := ∀ v h, NilB h v → call (.func 10) [v] h = some (.ret (.nilsl), h)
theorem bNR (call rgn n) (v : AV) (h : AH) (hv : NilB h v) (hN : hNB call) : B shT call rgn n 10 Tryz.f10 [v] h = some (.ret (.nilsl), h) := by
  suffices hq : ∀ Q : Option (AOut × AH) → Prop, Q (some (.ret (.nilsl), h)) → Q (B shT call rgn n 10 Tryz.f10 [v] h) from hq (fun y => y = some (.ret (.nilsl), h)) rfl
  intro Q hQ
  have pN := hN v h hv
  have hv' : v = .nilptr ∨ ∃ r, v = .ptr r 0 := by
    rcases hv with h | ⟨r, h, _⟩
    · exact .inl h
    · exact .inr ⟨r, h⟩
  rcases hv' with rfl | ⟨r, rfl⟩
  all_goals
    conv => arg 1; whnf
    refine atCall_P (pN) ?_
    conv => arg 1; whnf
    exact atLeave_P (leave_plain (.inl rfl) rfl) hQ
theorem hNR_of {hk : Hooks} {n : Nat} (hno : ∀ args h, hk 10 args h = none) (hN : ∀ n, 0 < n → hNB (evCall (mkEv Tryz.prog mu0 hk) n)) (hn : 1 < n) : hNR (evCall (mkEv Tryz.prog mu0 hk) n) := fun v h hv => by
  obtain ⟨n, rfl⟩ : ∃ m, n = m + 1 := ⟨n - 1, by omega⟩
  exact ev_of_cBodyS shT (hno _ _) Tryz.func10 rfl (by kernel_rfl) (bNR _ _ _ v h hv (hN n (by omega)))

def hNG (call : CallT) : Prop := ∀ v h, NilB h v → call (.func 11) [v] h = some (.ret (.nilsl), h)
theorem bNG (call rgn n) (v : AV) (h : AH) (hv : NilB h v) (hN : hNB call) : B shT call rgn n 11 Tryz.f11 [v] h = some (.ret (.nilsl), h) := by
  suffices hq : ∀ Q : Option (AOut × AH) → Prop, Q (some (.ret (.nilsl), h)) → Q (B shT call rgn n 11 Tryz.f11 [v] h) from hq (fun y => y = some (.ret (.nilsl), h)) rfl
  intro Q hQ
  have pN := hN v h hv
  have hv' : v = .nilptr ∨ ∃ r, v = .ptr r 0 := by
    rcases hv with h | ⟨r, h, _⟩
    · exact .inl h
    · exact .inr ⟨r, h⟩
  rcases hv' with rfl | ⟨r, rfl⟩
  all_goals
    conv => arg 1; whnf
    refine atCall_P (pN) ?_
    conv => arg 1; whnf
    exact atLeave_P (leave_plain (.inl rfl) rfl) hQ
theorem hNG_of {hk : Hooks} {n : Nat} (hno : ∀ args h, hk 11 args h = none) (hN : ∀ n, 0 < n → hNB (evCall (mkEv Tryz.prog mu0 hk) n)) (hn : 1 < n) : hNG (evCall (mkEv Tryz.prog mu0 hk) n) := fun v h hv => by
  obtain ⟨n, rfl⟩ : ∃ m, n = m + 1 := ⟨n - 1, by omega⟩
  exact ev_of_cBodyS shT (hno _ _) Tryz.func11 rfl (by kernel_rfl) (bNG _ _ _ v h hv (hN n (by omega)))

def hNX (call : CallT) : Prop := ∀ v h, NilB h v → call (.func 12) [v] h = some (.ret (.str []), h)
theorem bNX (call rgn n) (v : AV) (h : AH) (hv : NilB h v) (hN : hNB call) : B shT call rgn n 12 Tryz.f12 [v] h = some (.ret (.str []), h) := by
  suffices hq : ∀ Q : Option (AOut × AH) → Prop, Q (some (.ret (.str []), h)) → Q (B shT call rgn n 12 Tryz.f12 [v] h) from hq (fun y => y = some (.ret (.str []), h)) rfl
  intro Q hQ
  have pN := hN v h hv
  have hv' : v = .nilptr ∨ ∃ r, v = .ptr r 0 := by
    rcases hv with h | ⟨r, h, _⟩
    · exact .inl h
    · exact .inr ⟨r, h⟩
  rcases hv' with rfl | ⟨r, rfl⟩
  all_goals
    conv => arg 1; whnf
    refine atCall_P (pN) ?_
    conv => arg 1; whnf
    exact atLeave_P (leave_plain (.inl rfl) rfl) hQ
theorem hNX_of {hk : Hooks} {n : Nat} (hno : ∀ args h, hk 12 args h = none) (hN : ∀ n, 0 < n → hNB (evCall (mkEv Tryz.prog mu0 hk) n)) (hn : 1 < n) : hNX (evCall (mkEv Tryz.prog mu0 hk) n) := fun v h hv => by
  obtain ⟨n, rfl⟩ : ∃ m, n = m + 1 := ⟨n - 1, by omega⟩
  exact ev_of_cBodyS shT (hno _ _) Tryz.func12 rfl (by kernel_rfl) (bNX _ _ _ v h hv (hN n (by omega)))
theorem isL_sc {c : AV} {xs : List AV} (h : IsL c xs) : c.scalar = true := by rcases h with ⟨rfl, _⟩ | ⟨_, rfl⟩ <;> rfl

def hBz (call : CallT) : Prop := ∀ c f w xs ys h, IsL c xs → IsL w ys → ∃ z h', call (.func 49) [.agg [c, .int .i64 f, w]] h = some (.ret (.int .i64 z), h') ∧ Keep h h'
theorem bBz (call rgn n) (c w : AV) (f : Int) (xs ys : List AV) (h : AH) (hc : IsL c xs) (hw : IsL w ys) : ∃ z h', B shT call rgn n 49 Tryz.f49 [.agg [c, .int .i64 f, w]] h = some (.ret (.int .i64 z), h') ∧ Keep h h' := by
  suffices hq : ∀ Q : Option (AOut × AH) → Prop, (∀ z h', Keep h h' → Q (some (.ret (.int .i64 z), h'))) → Q (B shT call rgn n 49 Tryz.f49 [.agg [c, .int .i64 f, w]] h) from
    hq (fun y => ∃ z h', y = some (.ret (.int .i64 z), h') ∧ Keep h h') (fun z h' k => ⟨z, h', rfl, k⟩)
  intro Q hQ
  have hcs := isL_sc hc
  have hws := isL_sc hw
  have u1 : Tryz.prog.underlying 22 = some (.slice 3) := by kernel_rfl
  have u2 : Tryz.prog.underlying 23 = some (.slice 115) := by kernel_rfl
  have hlc := fun h => len_L (X := ⟨Tryz.prog, mu0, call⟩) (mu := false) (h := h) u1 hc
  have hlw := fun h => len_L (X := ⟨Tryz.prog, mu0, call⟩) (mu := false) (h := h) u2 hw
  have k1 := Keep.alloc h (.cells [c, .int .i64 f, w] 25)
  conv => arg 1; whnf
  refine atCall_P (box_new (cs := [c, .int .i64 f, w]) rfl (by simp only [List.all_cons, hcs, hws, List.all_nil]; rfl)) ?_
  generalize hh_h1 : h.alloc (.cells [c, .int .i64 f, w] 25) = h1 at *
  obtain ⟨a_i1, n_i1, k_h1⟩ := alloc_facts hh_h1
  clear hh_h1 k_h1
  generalize hi_i1 : h.next = i1 at *
  clear hi_i1
  have e1 : vOf h1 (aLoad Tryz.prog 22 (.ptr i1 0) h1) = some (.ret c, h1) := ld_ptr (n := 1) a_i1 (by kernel_rfl) (by kernel_rfl) rfl
  have e2 : vOf h1 (aLoad Tryz.prog 23 (.ptr i1 2) h1) = some (.ret w, h1) := ld_ptr (n := 1) a_i1 (by kernel_rfl) (by kernel_rfl) rfl
  conv => arg 1; whnf
  refine atCall_P (e1) ?_
  conv => arg 1; whnf
  refine atCall_P (hlc h1) ?_
  conv => arg 1; whnf
  refine atCall_P (e2) ?_
  conv => arg 1; whnf
  refine atCall_P (hlw h1) ?_
  conv => arg 1; whnf
  exact atLeave_P (leave_plain (.inl rfl) rfl) (hQ _ _ k1)
theorem hBz_of {hk : Hooks} {n : Nat} (hno : ∀ args h, hk 49 args h = none) (hn : 0 < n) : hBz (evCall (mkEv Tryz.prog mu0 hk) n) := fun c f w xs ys h hc hw => by
  obtain ⟨n, rfl⟩ : ∃ m, n = m + 1 := ⟨n - 1, by omega⟩
  obtain ⟨z, h', a, b⟩ := bBz (evCall (mkEv Tryz.prog mu0 hk) n) (rg Tryz.prog mu0 hk n 49) n c w f xs ys h hc hw
  exact ⟨z, h', ev_of_cBodyS shT (hno _ _) Tryz.func49 rfl (by kernel_rfl) a, b⟩

/-- A rule, as the law has it. -/
def RlA (r : AV) : Prop := ∃ a b c f w xs ys, r = .agg [.int .i64 a, .int .i64 b, c, .int .i64 f, w] ∧ IsL c xs ∧ IsL w ys
def hBr (call : CallT) : Prop := ∀ r h, RlA r → ∃ z h', call (.func 18) [.vsl [r] .lit] h = some (.ret (.int .i64 z), h') ∧ Keep h h'
theorem bBr (call rgn n) (r : AV) (h : AH) (hr : RlA r) (hz : hBz call) (hn : 5 < n) : ∃ z h', B shT call rgn n 18 Tryz.f18 [.vsl [r] .lit] h = some (.ret (.int .i64 z), h') ∧ Keep h h' := by
  suffices hq : ∀ Q : Option (AOut × AH) → Prop, (∀ z h', Keep h h' → Q (some (.ret (.int .i64 z), h'))) → Q (B shT call rgn n 18 Tryz.f18 [.vsl [r] .lit] h) from
    hq (fun y => ∃ z h', y = some (.ret (.int .i64 z), h') ∧ Keep h h') (fun z h' k => ⟨z, h', rfl, k⟩)
  intro Q hQ
  obtain ⟨a, b, c, f, w, xs, ys, rfl, hc, hw⟩ := hr
  obtain ⟨z, h1, e1, k1⟩ := hz c f w xs ys h hc hw
  obtain ⟨n, rfl⟩ : ∃ m, n = m + 2 := ⟨n - 2, by omega⟩
  have u1 : Tryz.prog.underlying 29 = some (.slice 27) := by kernel_rfl
  have hl := fun h => len_L (X := ⟨Tryz.prog, mu0, call⟩) (mu := false) (h := h) (x := .vsl [.agg [.int .i64 a, .int .i64 b, c, .int .i64 f, w]] .lit) u1 (.inr ⟨_, rfl⟩)
  have hidx := fun h => idx_L (P := Tryz.prog) (t := 29) (e := 27) (n := 5) (h := h) (k := .i64) (y := 0) (x := .vsl [.agg [.int .i64 a, .int .i64 b, c, .int .i64 f, w]] .lit) (i := 0) u1 (by kernel_rfl) (.inr ⟨_, rfl⟩) rfl rfl rfl
  conv => arg 1; whnf
  refine atCall_P (hl h) ?_
  conv => arg 1; whnf
  rw [cIter_succ]
  conv => arg 1; whnf
  refine atCall_P (hl h) ?_
  conv => arg 1; whnf
  conv => arg 1; whnf
  refine atCall_P (hidx h) ?_
  conv => arg 1; whnf
  refine atCall_P (e1) ?_
  conv => arg 1; whnf
  rw [cIter_succ]
  conv => arg 1; whnf
  refine atCall_P (hl h1) ?_
  conv => arg 1; whnf
  exact atLeave_P (leave_plain (.inl rfl) rfl) (hQ _ _ k1)
theorem hBr_of {hk : Hooks} {n : Nat} (hno : ∀ args h, hk 18 args h = none) (hz : ∀ n, 0 < n → hBz (evCall (mkEv Tryz.prog mu0 hk) n)) (hn : 6 < n) : hBr (evCall (mkEv Tryz.prog mu0 hk) n) := fun r h hr => by
  obtain ⟨n, rfl⟩ : ∃ m, n = m + 1 := ⟨n - 1, by omega⟩
  obtain ⟨z, h', a, b⟩ := bBr (evCall (mkEv Tryz.prog mu0 hk) n) (rg Tryz.prog mu0 hk n 18) n r h hr (hz n (by omega)) (by omega)
  exact ⟨z, h', ev_of_cBodyS shT (hno _ _) Tryz.func18 rfl (by kernel_rfl) a, b⟩

def hBg (call : CallT) : Prop := ∀ z h, ∃ b, call (.func 17) [.int .i64 z] h = some (.ret (.bool b), h)
theorem hBg_of {hk : Hooks} {n : Nat} (hno : ∀ args h, hk 17 args h = none) (hn : 0 < n) : hBg (evCall (mkEv Tryz.prog mu0 hk) n) := fun z h => by
  obtain ⟨n, rfl⟩ : ∃ m, n = m + 1 := ⟨n - 1, by omega⟩
  refine ⟨decide (z > 2147483647), ev_of_cBodyS shT (hno _ _) Tryz.func17 rfl (by kernel_rfl) ?_⟩
  suffices hq : ∀ Q : Option (AOut × AH) → Prop, Q (some (.ret (.bool (decide (z > 2147483647))), h)) → Q (B shT (evCall (mkEv Tryz.prog mu0 hk) n) (rg Tryz.prog mu0 hk n 17) n 17 Tryz.f17 [.int .i64 z] h) from hq (fun y => y = some (.ret (.bool (decide (z > 2147483647))), h)) rfl
  intro Q hQ
  conv => arg 1; whnf
  exact atLeave_P (leave_plain (.inl rfl) rfl) hQ

def hBh (call : CallT) : Prop := ∀ r h, RlA r → ∃ b h', call (.func 5) [.nilsl, .vsl [r] .lit] h = some (.ret (.bool b), h') ∧ Keep h h'
theorem bBh (call rgn n) (r : AV) (h : AH) (hr : RlA r) (h1 : hBr call) (h2 : hBg call) (h3 : ∀ h, call (.func 16) [.nilsl] h = some (.ret (.int .i64 0), h)) :
    ∃ b h', B shT call rgn n 5 Tryz.f5 [.nilsl, .vsl [r] .lit] h = some (.ret (.bool b), h') ∧ Keep h h' := by
  suffices hq : ∀ Q : Option (AOut × AH) → Prop, (∀ b h', Keep h h' → Q (some (.ret (.bool b), h'))) → Q (B shT call rgn n 5 Tryz.f5 [.nilsl, .vsl [r] .lit] h) from
    hq (fun y => ∃ b h', y = some (.ret (.bool b), h') ∧ Keep h h') (fun z h' k => ⟨z, h', rfl, k⟩)
  intro Q hQ
  obtain ⟨z, g1, e1, k1⟩ := h1 r h hr
  obtain ⟨b, e2⟩ := h2 z g1
  obtain ⟨y, g2, e3, k2⟩ := h1 r g1 hr
  conv => arg 1; whnf
  refine atCall_P (h3 h) ?_
  conv => arg 1; whnf
  conv => arg 1; whnf
  refine atCall_P (e1) ?_
  conv => arg 1; whnf
  refine atCall_P (e2) ?_
  conv => arg 1; whnf
  cases b
  · conv => arg 1; whnf
    conv => arg 1; whnf
    refine atCall_P (e3) ?_
    conv => arg 1; whnf
    exact atLeave_P (leave_plain (.inl rfl) rfl) (hQ _ _ (k1.trans k2))
  · conv => arg 1; whnf
    exact atLeave_P (leave_plain (.inl rfl) rfl) (hQ _ _ k1)
theorem hBh_of {hk : Hooks} {n : Nat} (hno : ∀ args h, hk 5 args h = none) (h1 : ∀ n, 6 < n → hBr (evCall (mkEv Tryz.prog mu0 hk) n)) (h2 : ∀ n, 0 < n → hBg (evCall (mkEv Tryz.prog mu0 hk) n)) (h3 : ∀ n h, 0 < n → evCall (mkEv Tryz.prog mu0 hk) n (.func 16) [.nilsl] h = some (.ret (.int .i64 0), h)) (hn : 7 < n) : hBh (evCall (mkEv Tryz.prog mu0 hk) n) := fun r h hr => by
  obtain ⟨n, rfl⟩ : ∃ m, n = m + 1 := ⟨n - 1, by omega⟩
  obtain ⟨z, h', a, b⟩ := bBh (evCall (mkEv Tryz.prog mu0 hk) n) (rg Tryz.prog mu0 hk n 5) n r h hr (h1 n (by omega)) (h2 n (by omega)) (fun h => h3 n h (by omega))
  exact ⟨z, h', ev_of_cBodyS shT (hno _ _) Tryz.func5 rfl (by kernel_rfl) a, b⟩

/-! ### The chain -/

theorem pow10_at : Tryz.prog.globalNamed "internal/strconv.uint64pow10" = some 1 := by kernel_rfl
theorem im0_at : im0 1 = some (Lib.pow10Tab.map fun z => Value.int .u64 z).toArray := if_pos rfl
def hkB1 := addHk noHooks 111 sIt
def hkB2 := addHk hkB1 63 sJn
def hkB3 := hkBu hkB2 65 32 83 5
theorem EB1 : EvOK (mkEv Tryz.prog mu0 hkB1) := EIt_of E0 pow10_at im0_at
theorem EB2 : EvOK (mkEv Tryz.prog mu0 hkB2) := EJn_of EB1
theorem EB3 : EvOK (mkEv Tryz.prog mu0 hkB3) := mkEv_bu EB2 buOK
theorem runLv17 : ∃ h', fCallH Tryz.prog mu0 hkB3 60 (.func 6) [] .empty = some (.ret (.bool true), h') := retV_ex (by kernel_rfl)
def sB4 : List AV → Option AV | [] => some (.bool true) | _ => none
def hkB4 := addHk hkB3 6 sB4
theorem EB4 : EvOK (mkEv Tryz.prog mu0 hkB4) := mkEv_add EB3 fun args v hs => by
  unfold sB4 at hs; split at hs
  · cases hs
    obtain ⟨h', he⟩ := runLv17
    exact ⟨rfl, 60, h', (fCallH_eq _ _ _ _ _ _ _).trans he⟩
  · cases hs
def sB5 : List AV → Option AV | [.nilsl] => some (.int .i64 0) | _ => none
def hkB5 := addHk hkB4 16 sB5
def retIs (x : Option (AOut × AH)) (v : AV) : Bool := match x with | some (.ret u, _) => AV.beq u v | _ => false
theorem ret_ex {x : Option (AOut × AH)} {v : AV} (h : retIs x v = true) : ∃ h', x = some (.ret v, h') := by
  unfold retIs at h
  split at h
  · rw [AV.beq_eq h]; exact ⟨_, rfl⟩
  · cases h
theorem runB5 : ∃ h', fCallH Tryz.prog mu0 hkB4 60 (.func 16) [.nilsl] .empty = some (.ret (.int .i64 0), h') := ret_ex (by kernel_rfl)
theorem EB5 : EvOK (mkEv Tryz.prog mu0 hkB5) := mkEv_add EB4 fun args v hs => by
  unfold sB5 at hs; split at hs
  · cases hs
    obtain ⟨h', he⟩ := runB5
    exact ⟨rfl, 60, h', (fCallH_eq _ _ _ _ _ _ _).trans he⟩
  · cases hs
def sB6 : List AV → Option AV | [.agg [.int .i64 0, .int .i64 0, .nilsl, .int .i64 0, .nilsl], .agg [.int .i64 0, .int .i64 0, .nilsl, .int .i64 0, .nilsl]] => some (.bool true) | _ => none
def hkB6 := addHk hkB5 9 sB6
theorem runB6 : ∃ h', fCallH Tryz.prog mu0 hkB5 60 (.func 9) [zRule, zRule] .empty = some (.ret (.bool true), h') := retV_ex (by kernel_rfl)
theorem EB6 : EvOK (mkEv Tryz.prog mu0 hkB6) := mkEv_add EB5 fun args v hs => by
  unfold sB6 at hs; split at hs
  · cases hs
    obtain ⟨h', he⟩ := runB6
    exact ⟨rfl, 60, h', (fCallH_eq _ _ _ _ _ _ _).trans he⟩
  · cases hs

theorem cat_nil (h : AH) {ox oy : Operand} : vOf h (aBinOp Tryz.prog .add 9 ox oy (.str []) (.str [])) = some (.ret (.str []), h) := by
  show vOf h (if ([] : List UInt8).length + ([] : List UInt8).length ≤ 9223372036854775807 then some (AV.str ([] ++ [])) else none) = _
  rw [if_pos (by simp)]; rfl
/-- An object there is. -/
def Obj (h : AH) (i : Sk.Id) (o : AO) : Prop := h.get i = some o ∧ i.nat < h.next.nat
theorem Obj.keep {h h' : AH} {i : Sk.Id} {o : AO} (x : Obj h i o) (k : Keep h h') : Obj h' i o := ⟨k.1 _ _ x.1 x.2, Nat.lt_of_lt_of_le x.2 k.2⟩
theorem Obj.new (h : AH) (o : AO) : Obj (h.alloc o) h.next o := ⟨by rw [AH.get_alloc, if_pos rfl], by simp [AH.next_alloc, Id.nat_succ]⟩
theorem Obj.set {h : AH} {i : Sk.Id} {o : AO} (x : Obj h i o) (o' : AO) : Obj (h.set i o') i o' := ⟨by rw [AH.get_set, if_pos rfl], x.2⟩
theorem Obj.other {h : AH} {i j : Sk.Id} {o : AO} (x : Obj h j o) (o' : AO) (hne : j ≠ i) : Obj (h.set i o') j o := ⟨by rw [AH.get_set, if_neg hne]; exact x.1, x.2⟩
theorem Obj.ne_new {h : AH} {j : Sk.Id} {o : AO} (x : Obj h j o) : j ≠ h.next := by rintro rfl; exact absurd x.2 (Nat.lt_irrefl _)

theorem bLB (call rgn n) (p q : Int) (r : AV) (h : AH) (hr : RlA r) (hH : hBh call) (hLv : ∀ h, call (.func 6) [] h = some (.ret (.bool true), h)) (hF : hNF call) (hA : hNA call) (hR : hNR call) (hG : hNG call) (hX : hNX call) (hE : ∀ h, call (.func 9) [zRule, zRule] h = some (.ret (.bool true), h)) :
    ∃ h', B shT call rgn n 3 Tryz.f3 [r, .int .i64 p, .int .i64 q] h = some (.ret (.bool true), h') := by
  suffices hq : ∀ Q : Option (AOut × AH) → Prop, (∀ h', Q (some (.ret (.bool true), h'))) → Q (B shT call rgn n 3 Tryz.f3 [r, .int .i64 p, .int .i64 q] h) from hq (fun y => ∃ h', y = some (.ret (.bool true), h')) (fun h' => ⟨h', rfl⟩)
  intro Q hQ
  have hr0 := hr
  obtain ⟨a, b, c, f, w, xs, ys, rfl, hc, hw⟩ := hr
  have hcs := isL_sc hc
  have hws := isL_sc hw
  conv => arg 1; whnf
  refine atCall_P (box_new (cs := [.int .i64 a, .int .i64 b, c, .int .i64 f, w]) rfl (by simp only [List.all_cons, hcs, hws, List.all_nil]; rfl)) ?_
  have o3 := Obj.new h (.cells [.int .i64 a, .int .i64 b, c, .int .i64 f, w] 27)
  generalize h.alloc (.cells [.int .i64 a, .int .i64 b, c, .int .i64 f, w] 27) = h1 at *
  generalize h.next = i3 at *
  have ln : ∀ hh, Obj hh i3 (.cells [.int .i64 a, .int .i64 b, c, .int .i64 f, w] 27) → vOf hh (aLoad Tryz.prog 27 (.ptr i3 0) hh) = some (.ret (.agg [.int .i64 a, .int .i64 b, c, .int .i64 f, w]), hh) := fun hh g => ld_agg (n := 5) g.1 (by kernel_rfl) (by kernel_rfl) (by simp)
  have lz : ∀ hh i, Obj hh i (.cells [.int .i64 0, .int .i64 0, .nilsl, .int .i64 0, .nilsl] 27) → vOf hh (aLoad Tryz.prog 27 (.ptr i 0) hh) = some (.ret zRule, hh) := fun hh i g => ld_agg (n := 5) g.1 (by kernel_rfl) (by kernel_rfl) (by simp)
  have st : ∀ hh i, Obj hh i (.cells [.int .i64 0, .int .i64 0, .nilsl, .int .i64 0, .nilsl] 27) → hOf (aStore Tryz.prog 27 (.ptr i 0) zRule hh) = some (.ret undefA, hh.set i (.cells [.int .i64 0, .int .i64 0, .nilsl, .int .i64 0, .nilsl] 27)) := fun hh i g => st_ptr (n := 5) g.1 (by kernel_rfl) rfl (by simp) rfl
  have u1 : Tryz.prog.underlying 29 = some (.slice 27) := by kernel_rfl
  have u2 : Tryz.prog.underlying 35 = some (.slice 80) := by kernel_rfl
  have z1 := fun h => len_L (X := ⟨Tryz.prog, mu0, call⟩) (mu := false) (h := h) (x := .nilsl) (xs := []) u1 (.inl ⟨rfl, rfl⟩)
  have z2 := fun h => len_L (X := ⟨Tryz.prog, mu0, call⟩) (mu := false) (h := h) (x := .nilsl) (xs := []) u2 (.inl ⟨rfl, rfl⟩)
  obtain ⟨hv, h2, e2, k2⟩ := hH _ h1 hr0
  have hrs : ∃ a' b' c' f' w', AV.agg [.int .i64 a, .int .i64 b, c, .int .i64 f, w] = .agg [.int .i64 a', .int .i64 b', c', .int .i64 f', w'] ∧ c'.scalar = true ∧ w'.scalar = true := ⟨a, b, c, f, w, rfl, hcs, hws⟩
  rcases hc with ⟨rfl, hxe⟩ | ⟨kc, rfl⟩ <;> rcases hw with ⟨rfl, hye⟩ | ⟨kw, rfl⟩
  all_goals
    conv => arg 1; whnf
    refine atCall_P (ln h1 o3) ?_
    replace o3 := o3.keep k2
    conv => arg 1; whnf
    refine atCall_P (e2) ?_
    conv => arg 1; whnf
    cases hv
    rotate_left
    · conv => arg 1; whnf
      conv => arg 1; whnf
      refine atCall_P (hLv h2) ?_
      conv => arg 1; whnf
      exact atLeave_P (leave_plain (.inl rfl) rfl) (hQ _)
    conv => arg 1; whnf
    conv => arg 1; whnf
    refine atCall_P (alloc_new (z := .agg [.nilsl, .nilmap, .nilsl]) (cs := [.nilsl, .nilmap, .nilsl]) (by kernel_rfl) rfl rfl) ?_
    have k3 := Keep.alloc h2 (.cells [.nilsl, .nilmap, .nilsl] 37)
    replace o3 := o3.keep k3
    have o8 := Obj.new h2 (.cells [.nilsl, .nilmap, .nilsl] 37)
    generalize h2.alloc (.cells [.nilsl, .nilmap, .nilsl] 37) = h3 at *
    generalize h2.next = i8 at *
    obtain ⟨h4, e4, k4⟩ := hF .nilptr p q h3 (.inl rfl) (fun r hr => by cases hr)
    replace o3 := o3.keep k4
    replace o8 := o8.keep k4
    conv => arg 1; whnf
    refine atCall_P (e4) ?_
    conv => arg 1; whnf
    refine atCall_P (alloc_new (z := .agg [.int .i64 0, .int .i64 0, .nilsl, .int .i64 0, .nilsl]) (cs := [.int .i64 0, .int .i64 0, .nilsl, .int .i64 0, .nilsl]) (by kernel_rfl) rfl rfl) ?_
    have k5 := Keep.alloc h4 (.cells [.int .i64 0, .int .i64 0, .nilsl, .int .i64 0, .nilsl] 27)
    have n3 := o3.ne_new
    have n8 := o8.ne_new
    replace o3 := o3.keep k5
    replace o8 := o8.keep k5
    have o9 := Obj.new h4 (.cells [.int .i64 0, .int .i64 0, .nilsl, .int .i64 0, .nilsl] 27)
    generalize h4.alloc (.cells [.int .i64 0, .int .i64 0, .nilsl, .int .i64 0, .nilsl] 27) = h5 at *
    generalize h4.next = i9 at *
    conv => arg 1; whnf
    refine atCall_P (st h5 i9 o9) ?_
    replace o3 := o3.other (i := i9) (.cells [.int .i64 0, .int .i64 0, .nilsl, .int .i64 0, .nilsl] 27) n3
    replace o8 := o8.other (i := i9) (.cells [.int .i64 0, .int .i64 0, .nilsl, .int .i64 0, .nilsl] 27) n8
    replace o9 := o9.set (.cells [.int .i64 0, .int .i64 0, .nilsl, .int .i64 0, .nilsl] 27)
    generalize h5.set i9 (.cells [.int .i64 0, .int .i64 0, .nilsl, .int .i64 0, .nilsl] 27) = h6 at *
    obtain ⟨h7, e7, k7⟩ := hF (.ptr i8 0) p q h6 (.inr ⟨i8, rfl, o8.1⟩) (fun r hr => by cases hr; exact o8.2)
    replace o3 := o3.keep k7
    replace o8 := o8.keep k7
    replace o9 := o9.keep k7
    conv => arg 1; whnf
    refine atCall_P (e7) ?_
    conv => arg 1; whnf
    refine atCall_P (alloc_new (z := .agg [.int .i64 0, .int .i64 0, .nilsl, .int .i64 0, .nilsl]) (cs := [.int .i64 0, .int .i64 0, .nilsl, .int .i64 0, .nilsl]) (by kernel_rfl) rfl rfl) ?_
    have k8 := Keep.alloc h7 (.cells [.int .i64 0, .int .i64 0, .nilsl, .int .i64 0, .nilsl] 27)
    have n3 := o3.ne_new
    have n8 := o8.ne_new
    have n9 := o9.ne_new
    replace o3 := o3.keep k8
    replace o8 := o8.keep k8
    replace o9 := o9.keep k8
    have o12 := Obj.new h7 (.cells [.int .i64 0, .int .i64 0, .nilsl, .int .i64 0, .nilsl] 27)
    generalize h7.alloc (.cells [.int .i64 0, .int .i64 0, .nilsl, .int .i64 0, .nilsl] 27) = h8 at *
    generalize h7.next = i12 at *
    conv => arg 1; whnf
    refine atCall_P (st h8 i12 o12) ?_
    replace o3 := o3.other (i := i12) (.cells [.int .i64 0, .int .i64 0, .nilsl, .int .i64 0, .nilsl] 27) n3
    replace o8 := o8.other (i := i12) (.cells [.int .i64 0, .int .i64 0, .nilsl, .int .i64 0, .nilsl] 27) n8
    replace o9 := o9.other (i := i12) (.cells [.int .i64 0, .int .i64 0, .nilsl, .int .i64 0, .nilsl] 27) n9
    replace o12 := o12.set (.cells [.int .i64 0, .int .i64 0, .nilsl, .int .i64 0, .nilsl] 27)
    generalize h8.set i12 (.cells [.int .i64 0, .int .i64 0, .nilsl, .int .i64 0, .nilsl] 27) = h9 at *
    conv => arg 1; whnf
    refine atCall_P (ln h9 o3) ?_
    obtain ⟨h10, e10, k10⟩ := hA .nilptr _ h9 (.inl rfl) (fun r hr => by cases hr) hrs
    conv => arg 1; whnf
    refine atCall_P (e10) ?_
    replace o3 := o3.keep k10
    replace o8 := o8.keep k10
    replace o9 := o9.keep k10
    replace o12 := o12.keep k10
    conv => arg 1; whnf
    refine atCall_P (ln h10 o3) ?_
    obtain ⟨h11, e11, k11⟩ := hA (.ptr i8 0) _ h10 (.inr ⟨i8, rfl, o8.1⟩) (fun r hr => by cases hr; exact o8.2) hrs
    conv => arg 1; whnf
    refine atCall_P (e11) ?_
    replace o8 := o8.keep k11
    replace o9 := o9.keep k11
    replace o12 := o12.keep k11
    have pB : NilB h11 (.ptr i8 0) := .inr ⟨i8, rfl, o8.1⟩
    conv => arg 1; whnf
    refine atCall_P (lz h11 i9 o9) ?_
    conv => arg 1; whnf
    refine atCall_P (hE h11) ?_
    conv => arg 1; whnf
    refine atCall_P (lz h11 i12 o12) ?_
    conv => arg 1; whnf
    refine atCall_P (hE h11) ?_
    conv => arg 1; whnf
    refine atCall_P (hR .nilptr h11 (.inl rfl)) ?_
    conv => arg 1; whnf
    refine atCall_P (z1 h11) ?_
    conv => arg 1; whnf
    refine atCall_P (hR (.ptr i8 0) h11 pB) ?_
    conv => arg 1; whnf
    refine atCall_P (z1 h11) ?_
    conv => arg 1; whnf
    refine atCall_P (hG .nilptr h11 (.inl rfl)) ?_
    conv => arg 1; whnf
    refine atCall_P (z2 h11) ?_
    conv => arg 1; whnf
    refine atCall_P (hG (.ptr i8 0) h11 pB) ?_
    conv => arg 1; whnf
    refine atCall_P (z2 h11) ?_
    conv => arg 1; whnf
    refine atCall_P (hX .nilptr h11 (.inl rfl)) ?_
    conv => arg 1; whnf
    refine atCall_P (hX (.ptr i8 0) h11 pB) ?_
    conv => arg 1; whnf
    refine atCall_P (cat_nil h11) ?_
    conv => arg 1; whnf
    refine atCall_P (hLv h11) ?_
    conv => arg 1; whnf
    exact atLeave_P (leave_plain (.inl rfl) rfl) (hQ _)
theorem runBN (p q : Int) (r : AV) (hr : RlA r) : ∃ n h', evCall (mkEv Tryz.prog mu0 hkB6) n (.func 3) [r, .int .i64 p, .int .i64 q] .empty = some (.ret (.bool true), h') := by
  have nB : ∀ n, 0 < n → hNB (evCall (mkEv Tryz.prog mu0 hkB6) n) := fun n hn => hNB_of (fun _ _ => rfl) hn
  obtain ⟨h', hb⟩ := bLB (evCall (mkEv Tryz.prog mu0 hkB6) 100) (rg Tryz.prog mu0 hkB6 100 3) 100 p q r .empty hr
    (hBh_of (fun _ _ => rfl) (fun n hn => hBr_of (fun _ _ => rfl) (fun n hn => hBz_of (fun _ _ => rfl) hn) hn) (fun n hn => hBg_of (fun _ _ => rfl) hn) (fun n h hn => ev_hk (by show addHk hkB4 16 sB5 16 [.nilsl] h = _; exact hk_top rfl rfl) hn) (by omega))
    (fun h => ev_hk (by show addHk hkB3 6 sB4 6 [] h = _; exact hk_top rfl rfl) (by omega))
    (hNF_of (fun _ _ => rfl) nB (by omega)) (hNA_of (fun _ _ => rfl) nB (by omega)) (hNR_of (fun _ _ => rfl) nB (by omega)) (hNG_of (fun _ _ => rfl) nB (by omega)) (hNX_of (fun _ _ => rfl) nB (by omega))
    (fun h => ev_hk (by show addHk hkB5 9 sB6 9 [zRule, zRule] h = _; exact hk_top rfl rfl) (by omega))
  exact ⟨101, h', ev_of_cBodyS shT rfl Tryz.func3 rfl (by kernel_rfl) hb⟩
end Go.Proofs.Nt
namespace Go.Proofs.YtfhgobimlckfeaaGreatDoor.bookNil
open Go.Sk Go.ChangeShapes Go.WideShapes Go.ChangeAt Go.RowKit Go.Proofs.Nt

theorem own : ownKnob Tryz.prog.godebug = none := by kernel_rfl
theorem laid : laidOutB Tryz.prog = true := by kernel_rfl

/-- Any table of the list, not the first alone. -/
theorem tabIs_mem {P : Program} {W : World} {name : String} {k : IntKind} {zs : List Int} {g : Nat} {t e : TypeId} {n : Nat}
    (hg : P.globalNamed name = some g) (hty : (P.globals[g]?).map (·.type) = some t) (ht : P.underlying t = some (.array n e)) (he : P.underlying e = some (.int k)) (hce : P.cellsOf e = 1) (hct : P.cellsOf t = n) :
    ∀ {l : List (String × DataW Unit)} {ps : List MemPlace}, (name, Lib.tabData k zs) ∈ l → DataW.LaidVars P W l ps → Lib.TabIs P W name k zs
  | [], _, h, _ => by cases h
  | (n', d) :: r, ps, h, hl => by
    obtain ⟨g', t', cs, fuel, p, q, hg', ht', hvar, hd, hr, _⟩ := hl
    rcases List.mem_cons.1 h with h | h
    · simp only [Prod.mk.injEq] at h
      obtain ⟨rfl, rfl⟩ := h
      obtain rfl := Option.some.inj (hg.symm.trans hg')
      obtain rfl := Option.some.inj (hty.symm.trans ht')
      unfold Lib.TabIs
      rw [hvar, ← Lib.cells_of_tab ht he hce hct hd]
    · exact tabIs_mem hg hty ht he hce hct h hr

theorem im0_of {W : World} (h : laidMetH Tryz.prog Rows.bookNilRow.laid W) : Im0 W := fun b cs q => by
  obtain ⟨ps, hv, _⟩ : laidMet Tryz.prog Rows.bookNilRow.laid W := h
  have ht : Lib.TabIs Tryz.prog W "internal/strconv.uint64pow10" .u64 Lib.pow10Tab := tabIs_mem (g := 1) (t := 406) (e := 383) (n := 20) (by kernel_rfl) (by kernel_rfl) (by kernel_rfl) (by kernel_rfl) (by kernel_rfl) (by kernel_rfl) (.tail _ (.tail _ (.head _))) hv
  simp only [im0] at q
  split at q
  · rename_i hb
    subst hb
    cases q
    unfold Lib.TabIs World.var? at ht
    rw [show Tryz.prog.globalNamed "internal/strconv.uint64pow10" = some 1 by kernel_rfl] at ht
    simp only [Option.bind_some] at ht
    split at ht
    · rename_i cs T fr hh
      cases ht
      exact ⟨T, fr, hh⟩
    · cases ht
  · cases q

theorem weights_mem {H : Type} {P : Program} {B : Nat} {t1 t2 t3 : TypeId} {d1 d2 d3 : DataW H} (h : (DataW.weightsEach P ([t1, t2, t3] ++ []) ([d1, d2, d3] ++ [])).all (· ≤ B) = true) : ∀ k ∈ d1.weights P t1, k ≤ B := by
  simp only [List.append_nil, DataW.weightsEach, List.all_append, Bool.and_eq_true, List.all_eq_true, decide_eq_true_eq] at h
  exact h.1

/-- What the walk gives, for every argument and every world that holds the tables. -/
theorem contract (H : Type) (enc : TypeId × Value → H) (W : World) (base : Nat) (args : Array Value) (ds gs : List (DataW H)) (before : List MemPlace)
    (hval0 : ∀ (j : Nat) t v, Tryz.f3.params[j]? = some t → args[j]? = some v → Value.okWide Tryz.prog W .any base t v)
    (hW : DataW.Whole enc Tryz.prog Tryz.f3.params.toList Rows.bookNilSpec.vars false W args.toList ds gs before)
    (hB : (DataW.weightsEach Tryz.prog (Tryz.f3.params.toList ++ (OpenSpec.ofChange Rows.bookNilSpec).bare.plain.varTypes Tryz.prog) (ds ++ gs)).all (· ≤ reachBytes) = true) (hL : laidMetH Tryz.prog Rows.bookNilRow.laid W) :
    Calls Tryz.prog 3 args W fun e W' => ∃ v, e = .returned v ∧ Rows.bookNilSpec.post enc Tryz.prog Tryz.f3 false true false false W args v W' := by
  have hval : ∀ (j : Nat) t v, Tryz.f3.params[j]? = some t → args[j]? = some v → Value.okWide Tryz.prog W .any base t v := hval0
  have hW' := hW
  obtain ⟨p, q, hA0, hV, rfl, hfz, hnd⟩ := hW
  have hA : DataW.TrodAll enc Tryz.prog W 0 (fun _ => true) true Tryz.f3.params.toList args.toList ds p := hA0
  rw [Tryz.params3] at hA hval hB
  obtain ⟨v0, vs0, d0, ds0, p0, q0, hargs, rfl, rfl, h0, r0⟩ := trodAll_cons hA
  obtain ⟨v1, vs1, d1, ds1, p1, q1, hargs1, rfl, rfl, h1, r1⟩ := trodAll_cons r0
  obtain ⟨v2, vs2, d2, ds2, p2, q2, hargs2, rfl, rfl, h2, r2⟩ := trodAll_cons r1
  obtain ⟨rfl, rfl, rfl⟩ := trodAll_nil r2
  obtain rfl : args = #[v0, v1, v2] := by cases args; simp_all
  obtain ⟨rfl, rfl⟩ := trodVars_none hV
  have b0 := weights_mem hB
  obtain ⟨x, r, hx0, ⟨c, w, rfl, hc, hw⟩, lc, lw⟩ := open_ruleW (hval 0 27 v0 rfl rfl) h0 b0
  obtain ⟨n1, rfl, _⟩ := open_int Tryz.underlying3 (hval 1 3 v1 rfl rfl) h1
  obtain ⟨n2, rfl, _⟩ := open_int Tryz.underlying3 (hval 2 3 v2 rfl rfl) h2
  clear hA0 hval0
  simp only [List.append_nil] at hW'
  obtain ⟨m, h', he⟩ := runBN n1 n2 _ ⟨r.a, r.b, c, r.right.free, w, _, _, rfl, hc, hw⟩
  have hc : Calls Tryz.prog 3 #[v0, .int .i64 n1, .int .i64 n2] W fun e w' => e = .returned (.bool true) ∧ Below W.heap.size W w' := ev_calls (cargs := [v0, .int .i64 n1, .int .i64 n2]) EB6 W (.cons hx0 (.cons (.int _ _) (.cons (.int _ _) (.nil _)))) he (im0_of hL)
  refine hc.mono fun e W' ⟨he, hg⟩ => ?_
  subst he
  exact ⟨_, rfl, law_post (T := 4) hW' rfl rfl (by kernel_rfl) Tryz.underlying4 laid (by kernel_rfl) hg⟩

/-! ### A witness -/

def litCells : List (DataW Unit) → List Value
  | [] => []
  | .lit (.int k z) :: r => .int k z :: litCells r
  | _ :: r => litCells r
def tabCells : DataW Unit → Array Value
  | .agg l => (litCells l).toArray
  | _ => #[]
noncomputable def lay (w : World) (b : Nat) (cs : Array Value) : World :=
  { w with heap := w.heap.modify b fun
      | .cells _ t frozen => .cells cs t frozen
      | o => o }
noncomputable def laidWorld (os : Os) : World := lay (lay (lay (World.holding Tryz.prog os ⟨#[], #[], []⟩) 2 (tabCells Rows.laid_math_bits_deBruijn32tab)) 3 (tabCells Rows.laid_math_bits_deBruijn64tab)) 1 (tabCells Rows.laid_internal_strconv_uint64pow10)
def wargs : Array Value := #[.agg #[.int .i64 0, .int .i64 0, .slice none 0 0, .int .i64 0, .slice none 0 0], .int .i64 0, .int .i64 0]
theorem laid_met (os : Os) : laidMet Tryz.prog Rows.bookNilRow.laid ((laidWorld os).forCall (fun _ _ => 0) ⟨#[], wargs, []⟩).memory :=
  laidMet_of_run' 8 (by kernel_rfl) (by kernel_rfl)
theorem reads (os : Os) {H : Type} (enc : TypeId × Value → H) : ∃ places, DataW.whole enc Tryz.prog ((laidWorld os).forCall (fun _ _ => 0) ⟨#[], wargs, []⟩).memory Tryz.f3.params.toList Rows.bookNilSpec.vars false wargs.toList 8 = some ([.agg [.lit (.int .i64 0), .lit (.int .i64 0), .agg [.nil, .lit (.int .i64 0), .nil]], .lit (.int .i64 0), .lit (.int .i64 0)], [], places) :=
  ⟨[], by kernel_rfl⟩

set_option maxRecDepth 100000 in
theorem lifted (os : Os) (started : os.Started) (H : Type) (enc : TypeId × Value → H) (F : Stop.Interp) :
    ReturnsInHanded {} Tryz.checked os 3 .any ((OpenSpec.ofChange Rows.bookNilSpec).preRow enc Tryz.prog Tryz.f3 Rows.bookNilRow.domain false Rows.bookNilRow.laid) (((OpenSpec.ofChange Rows.bookNilSpec).at F).post enc Tryz.prog Tryz.f3 false true false false) := by
  obtain ⟨places, hx⟩ := reads os enc
  refine returnsInHanded_of_row (C := Tryz.checked) (s := OpenSpec.ofChange Rows.bookNilSpec) own started (by kernel_rfl) Tryz.func3
    (witness_row_at (enc := enc) (C := Tryz.checked) false (laidWorld os) wargs rfl (by kernel_rfl) (by kernel_rfl) (by kernel_rfl)
      (OpenSpec.preRow_of_cond 8 hx (by kernel_rfl) (fun k hk => by cases hk) (by kernel_rfl) (laid_met os))) ?_
  intro W base args ds gs before hval hW _ _ hB hL _ _
  exact contract H enc W base args ds gs before hval hW hB hL

theorem said : Rows.BookNilSaid :=
  OpenClaim.holds_of_cond 3 Tryz.f3 rfl rfl rfl rfl rfl rfl rfl ⟨rfl, rfl, rfl, rfl, rfl⟩ rfl rfl rfl rfl rfl (by kernel_rfl) Tryz.func3 (by kernel_rfl)
    (of_decide_eq_true (by kernel_rfl)) (by unfold Func.isWrapper; first | (rw [if_pos (by decide +kernel)]; kernel_rfl) | (rw [if_neg (by decide +kernel)]; exact ⟨rfl, rfl⟩))
    (fun os started H enc _ F => by rw [OpenClaim.pre_eq_preRow]; exact lifted os started H enc F)

theorem plain (f : FuncId) (fn : Func) (hf : Tryz.pinned.checked.prog.funcNamed "skein/skeinlaw17.BookNil" = some f) (hfn : Tryz.pinned.checked.prog.funcs[f]? = some fn) :
    true = Tryz.pinned.checked.prog.looks [] ∧ ∀ (j : Nat) t, fn.params[j]? = some t → Tryz.pinned.checked.prog.wantsStandIn t = false := by
  obtain rfl : f = 3 := Option.some.inj ((show Tryz.prog.funcNamed "skein/skeinlaw17.BookNil" = some 3 by kernel_rfl).symm.trans hf) |>.symm
  obtain rfl : fn = Tryz.f3 := (Option.some.inj (Tryz.func3.symm.trans hfn)).symm
  refine ⟨by kernel_rfl, fun j t ht => ?_⟩
  rw [Tryz.params3] at ht
  have hm : t = 27 ∨ t = 3 := by simpa using Array.mem_of_getElem? ht
  rcases hm with rfl | rfl
  · exact (show Tryz.prog.wantsStandIn 27 = false by kernel_rfl)
  · exact (show Tryz.prog.wantsStandIn 3 = false by kernel_rfl)

theorem proved : Rows.BookNilCardSaid :=
  Claim7.holds_tied_plain_at .later [] _ _ _ _ said (fun _ h => by cases h) (by kernel_rfl) (fun _ h => by cases h) bookNil_row_tie rfl ⟨rfl, rfl⟩ (by kernel_rfl) rfl plain (by kernel_rfl)
#print axioms proved
end Go.Proofs.YtfhgobimlckfeaaGreatDoor.bookNil

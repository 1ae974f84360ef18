/-
  What an abstract value says of a value of the model; what an abstract heap says of a world; a step's frame.
-/
import Derived.Test.YtnhejnnpcnoeeaaGreatSkB
namespace Go.Sk
structure Rho where
  base : Nat
  obj : Id → Option Nat
  grp : Id → Nat → Option (Nat × Nat × Nat)
  imm : Nat → Nat → Option Value
  siz : Nat → Option Nat
structure Rho.le (a b : Rho) : Prop where
  base : b.base = a.base
  obj : ∀ r x, a.obj r = some x → b.obj r = some x
  grp : ∀ g e x, a.grp g e = some x → b.grp g e = some x
  imm : ∀ k o v, a.imm k o = some v → b.imm k o = some v
  siz : ∀ k z, a.siz k = some z → b.siz k = some z
theorem Rho.le_refl (a : Rho) : a.le a := ⟨rfl, fun _ _ h => h, fun _ _ _ h => h, fun _ _ _ h => h, fun _ _ h => h⟩
theorem Rho.le_trans {a b c : Rho} (h : a.le b) (k : b.le c) : a.le c :=
  ⟨k.base.trans h.base, fun r x e => k.obj r x (h.obj r x e), fun g e x q => k.grp g e x (h.grp g e x q), fun b o v q => k.imm b o v (h.imm b o v q), fun b z q => k.siz b z (h.siz b z q)⟩
def conc : AV → Value
  | .int k n => .int k n
  | .bool b => .bool b
  | .str l => .string ⟨⟨l⟩⟩
  | _ => Go.undef
def CapOK (ρ : Rho) (c : Cap) (b end_ s len n : Nat) : Prop :=
  match c with
  | .lit => n = len
  | .full => n = len
  | .own g e => n = len ∨ ∃ z, ρ.grp g e = some (b, end_, z) ∧ end_ + (n - len) * s ≤ z
  | .unk => True
  | .pat k m => n = len + m ∧ (m = 0 ∨ patN k = s) ∧ ∀ i j, i < m → j < s → ρ.imm b (end_ + i * s + j) = some (conc ((patA k (len + i)).cells.getD j undefA))
theorem CapOK.mono {ρ ρ' : Rho} (hl : ρ.le ρ') {c : Cap} {b x s len n : Nat} (h : CapOK ρ c b x s len n) : CapOK ρ' c b x s len n := by
  cases c with
  | lit => exact h
  | full => exact h
  | own g e => exact h.imp id (fun ⟨z, h1, h2⟩ => ⟨z, hl.grp g e _ h1, h2⟩)
  | unk => trivial
  | pat k m => exact ⟨h.1, h.2.1, fun i j hi hj => hl.imm _ _ _ (h.2.2 i j hi hj)⟩
def HCapOK (ρ : Rho) (c : HCap) (b off n : Nat) : Prop :=
  match c with
  | .known c => n = c
  | .room s => ∃ z, ρ.siz b = some z ∧ off + n * s ≤ z
  | .unk => True
theorem HCapOK.mono {ρ ρ' : Rho} (hl : ρ.le ρ') {c : HCap} {b off n : Nat} (h : HCapOK ρ c b off n) : HCapOK ρ' c b off n := by
  cases c with
  | known c => exact h
  | room s => exact let ⟨z, h1, h2⟩ := h; ⟨z, hl.siz _ _ h1, h2⟩
  | unk => trivial
def FnRel (ρ : Rho) : AFn → Fn → Prop
  | .func f, .func f' => f = f'
  | .yield l, .yield b => ρ.obj l = some b
  | _, _ => False
theorem FnRel.mono {ρ ρ' : Rho} (hl : ρ.le ρ') {f : AFn} {g : Fn} (h : FnRel ρ f g) : FnRel ρ' f g := by
  cases f <;> cases g <;> simp_all [FnRel]
  exact hl.obj _ _ h
inductive VRel (ρ : Rho) : AV → Value → Prop
  | bool (b : Bool) : VRel ρ (.bool b) (.bool b)
  | int (k : IntKind) (n : Int) : VRel ρ (.int k n) (.int k n)
  | str (l : List UInt8) : VRel ρ (.str l) (.string ⟨⟨l⟩⟩)
  | nilptr : VRel ρ .nilptr (.pointer none)
  | ptr (r : Id) (off b : Nat) (h : ρ.obj r = some b) : VRel ρ (.ptr r off) (.pointer (some ⟨b, off, none⟩))
  | ref (v : AV) (b off : Nat) (c : Nat → Value) (hc : ∀ j, j < v.cells.length → ρ.imm b (off + j) = some (c j))
      (hv : ∀ j (hj : j < v.cells.length), VRel ρ v.cells[j] (c j)) : VRel ρ (.ref v) (.pointer (some ⟨b, off, none⟩))
  | nilsl : VRel ρ .nilsl (.slice none 0 0)
  | vsl (xs : List AV) (cap : Cap) (b off n s : Nat) (c : Nat → Nat → Value)
      (hs : ∀ i (hi : i < xs.length), xs[i].cells.length = s)
      (hc : ∀ i j, i < xs.length → j < s → ρ.imm b (off + i * s + j) = some (c i j))
      (hv : ∀ i (hi : i < xs.length) j (hj : j < xs[i].cells.length), VRel ρ xs[i].cells[j] (c i j))
      (hn : xs.length ≤ n) (hcap : CapOK ρ cap b (off + xs.length * s) s xs.length n) :
      VRel ρ (.vsl xs cap) (.slice (some ⟨b, off, none⟩) xs.length n)
  | hsl (r : Id) (off len : Nat) (cap : HCap) (b n : Nat) (h : ρ.obj r = some b) (hn : len ≤ n) (hcap : HCapOK ρ cap b off n) :
      VRel ρ (.hsl r off len cap) (.slice (some ⟨b, off, none⟩) len n)
  | nilmap : VRel ρ .nilmap (.map none)
  | map (r : Id) (b : Nat) (h : ρ.obj r = some b) : VRel ρ (.map r) (.map (some b))
  | fn (f : AFn) (g : Fn) (first captured : List AV) (cfirst ccap : Array Value) (hf : FnRel ρ f g)
      (h1 : cfirst.size = first.length) (hv1 : ∀ i (hi : i < first.length) (hj : i < cfirst.size), VRel ρ first[i] cfirst[i])
      (h2 : ccap.size = captured.length) (hv2 : ∀ i (hi : i < captured.length) (hj : i < ccap.size), VRel ρ captured[i] ccap[i]) :
      VRel ρ (.fn f first captured) (.func g cfirst ccap)
  | nilfn : VRel ρ .nilfn .nilFunc
  | iface (t : TypeId) (v : AV) (cv : Value) (h : VRel ρ v cv) : VRel ρ (.iface t v) (.iface t cv)
  | niliface : VRel ρ .niliface .nilIface
  | agg (cs : List AV) (ccs : Array Value) (h1 : ccs.size = cs.length) (hv : ∀ i (hi : i < cs.length) (hj : i < ccs.size), VRel ρ cs[i] ccs[i]) :
      VRel ρ (.agg cs) (.agg ccs)
  | tup (cs : List AV) (ccs : Array Value) (h1 : ccs.size = cs.length) (hv : ∀ i (hi : i < cs.length) (hj : i < ccs.size), VRel ρ cs[i] ccs[i]) :
      VRel ρ (.tup cs) (.tuple ccs)
theorem VRel.mono {ρ ρ' : Rho} (hl : ρ.le ρ') {v : AV} {c : Value} (h : VRel ρ v c) : VRel ρ' v c := by
  induction h with
  | bool b => exact .bool b
  | int k n => exact .int k n
  | str l => exact .str l
  | nilptr => exact .nilptr
  | ptr r off b h => exact .ptr r off b (hl.obj _ _ h)
  | ref v b off c hc _ ih => exact .ref v b off c (fun j hj => hl.imm _ _ _ (hc j hj)) ih
  | nilsl => exact .nilsl
  | vsl xs cap b off n s c hs hc _ hn hcap ih => exact .vsl xs cap b off n s c hs (fun i j hi hj => hl.imm _ _ _ (hc i j hi hj)) ih hn (hcap.mono hl)
  | hsl r off len cap b n h hn hcap => exact .hsl r off len cap b n (hl.obj _ _ h) hn (hcap.mono hl)
  | nilmap => exact .nilmap
  | map r b h => exact .map r b (hl.obj _ _ h)
  | fn f g a b ca cb hf h1 _ h2 _ ih1 ih2 => exact .fn f g a b ca cb (hf.mono hl) h1 ih1 h2 ih2
  | nilfn => exact .nilfn
  | iface t v cv _ ih => exact .iface t v cv ih
  | niliface => exact .niliface
  | agg cs ccs h1 _ ih => exact .agg cs ccs h1 ih
  | tup cs ccs h1 _ ih => exact .tup cs ccs h1 ih
theorem conc_rel (ρ : Rho) (k i j : Nat) (hj : j < (patA k i).cells.length) : VRel ρ (patA k i).cells[j] (conc (patA k i).cells[j]) := by
  rw [patA_cells] at hj
  match k, hj with
  | 0, hj => obtain rfl : j = 0 := by simp [patN] at hj; omega
             exact .int ..
  | 1, hj => obtain rfl : j = 0 := by simp [patN] at hj; omega
             exact .int ..
  | 2, hj => match j, hj with
    | 0, _ => exact .str _
    | 1, _ => exact .int ..
  | 3, hj => match j, hj with
    | 0, _ => exact .int ..
    | 1, _ => exact .int ..
    | 2, _ => exact .int ..
    | 3, _ => exact .int ..
  | 4, hj => match j, hj with
    | 0, _ => exact .int ..
    | 1, _ => exact .int ..
  | 5, hj => match j, hj with
    | 0, _ => exact .int ..
    | 1, _ => exact .int ..
  | k + 6, hj => obtain rfl : j = 0 := by simp [patN] at hj; omega
                 exact .int ..
def LRel (ρ : Rho) (l : List AV) (c : List Value) : Prop := c.length = l.length ∧ ∀ i (hi : i < l.length) (hj : i < c.length), VRel ρ l[i] c[i]
theorem LRel.mono {ρ ρ' : Rho} (hl : ρ.le ρ') {l : List AV} {c : List Value} (h : LRel ρ l c) : LRel ρ' l c := ⟨h.1, fun i hi hj => (h.2 i hi hj).mono hl⟩
theorem LRel.nil (ρ : Rho) : LRel ρ [] [] := ⟨rfl, fun i hi => by simp at hi⟩
theorem LRel.cons {ρ : Rho} {v : AV} {c : Value} {l : List AV} {cl : List Value} (h : VRel ρ v c) (hl : LRel ρ l cl) : LRel ρ (v :: l) (c :: cl) := by
  refine ⟨by simp [hl.1], fun i hi hj => ?_⟩
  cases i with
  | zero => exact h
  | succ i => exact hl.2 i (by simpa using hi) (by simpa using hj)
theorem LRel.head {ρ : Rho} {v : AV} {c : Value} {l : List AV} {cl : List Value} (h : LRel ρ (v :: l) (c :: cl)) : VRel ρ v c := h.2 0 (by simp) (by simp)
theorem LRel.tail {ρ : Rho} {v : AV} {c : Value} {l : List AV} {cl : List Value} (h : LRel ρ (v :: l) (c :: cl)) : LRel ρ l cl :=
  ⟨by have := h.1; simpa using this, fun i hi hj => h.2 (i + 1) (by simpa using hi) (by simpa using hj)⟩
theorem LRel.append {ρ : Rho} : ∀ {a : List AV} {ca : List Value} {b : List AV} {cb : List Value}, LRel ρ a ca → LRel ρ b cb → LRel ρ (a ++ b) (ca ++ cb)
  | [], [], _, _, _, h => h
  | [], _ :: _, _, _, h, _ => by have := h.1; simp at this
  | _ :: _, [], _, _, h, _ => by have := h.1; simp at this
  | _ :: _, _ :: _, _, _, h, k => .cons h.head (LRel.append h.tail k)
theorem LRel.take {ρ : Rho} {l : List AV} {c : List Value} (n : Nat) (h : LRel ρ l c) : LRel ρ (l.take n) (c.take n) := by
  refine ⟨by simp [h.1], fun i hi hj => ?_⟩
  simp only [List.getElem_take]
  exact h.2 i _ _
theorem LRel.drop {ρ : Rho} {l : List AV} {c : List Value} (n : Nat) (h : LRel ρ l c) : LRel ρ (l.drop n) (c.drop n) := by
  refine ⟨by simp [h.1], fun i hi hj => ?_⟩
  simp only [List.getElem_drop]
  exact h.2 _ _ _
theorem LRel.set {ρ : Rho} {l : List AV} {c : List Value} {v : AV} {x : Value} (n : Nat) (h : LRel ρ l c) (hv : VRel ρ v x) : LRel ρ (l.set n v) (c.set n x) := by
  refine ⟨by simp [h.1], fun i hi hj => ?_⟩
  simp only [List.getElem_set]
  split
  · exact hv
  · exact h.2 _ _ _
theorem LRel.getD {ρ : Rho} {l : List AV} {c : List Value} {d : AV} {x : Value} (n : Nat) (h : LRel ρ l c) (hd : VRel ρ d x) : VRel ρ (l.getD n d) (c.getD n x) := by
  by_cases hn : n < l.length
  · have hn' : n < c.length := by rw [h.1]; exact hn
    simp only [List.getD, List.getElem?_eq_getElem hn, List.getElem?_eq_getElem hn', Option.getD_some]
    exact h.2 _ _ _
  · simp only [List.getD, List.getElem?_eq_none (Nat.not_lt.1 hn), List.getElem?_eq_none (by rw [h.1]; exact Nat.not_lt.1 hn), Option.getD_none]
    exact hd
theorem LRel.find {ρ : Rho} {l : List AV} {c : List Value} {v : AV} {n : Nat} (h : LRel ρ l c) (hv : l[n]? = some v) : ∃ x, c[n]? = some x ∧ VRel ρ v x := by
  obtain ⟨hn, rfl⟩ := List.getElem?_eq_some_iff.1 hv
  have hn' : n < c.length := by rw [h.1]; exact hn
  exact ⟨c[n], by simp [hn'], h.2 _ _ _⟩
theorem LRel.replicate {ρ : Rho} {v : AV} {x : Value} (n : Nat) (h : VRel ρ v x) : LRel ρ (List.replicate n v) (List.replicate n x) :=
  ⟨by simp, fun i hi hj => by simpa using h⟩
def LPre (ρ : Rho) (l : List AV) (c : List Value) : Prop := l.length ≤ c.length ∧ ∀ i (hi : i < l.length) (hj : i < c.length), VRel ρ l[i] c[i]
theorem LRel.pre {ρ : Rho} {l : List AV} {c : List Value} (h : LRel ρ l c) : LPre ρ l c := ⟨by rw [h.1]; exact Nat.le_refl _, h.2⟩
theorem LRel.pre_append {ρ : Rho} {l : List AV} {c : List Value} (h : LRel ρ l c) (d : List Value) : LPre ρ l (c ++ d) :=
  ⟨by rw [List.length_append, h.1]; omega, fun i hi hj => by rw [List.getElem_append_left (by rw [h.1]; exact hi)]; exact h.2 i hi _⟩
theorem LPre.mono {ρ ρ' : Rho} (hl : ρ.le ρ') {l : List AV} {c : List Value} (h : LPre ρ l c) : LPre ρ' l c := ⟨h.1, fun i hi hj => (h.2 i hi hj).mono hl⟩
theorem LPre.find {ρ : Rho} {l : List AV} {c : List Value} {v : AV} {n : Nat} (h : LPre ρ l c) (hv : l[n]? = some v) : ∃ x, c[n]? = some x ∧ VRel ρ v x := by
  obtain ⟨hn, rfl⟩ := List.getElem?_eq_some_iff.1 hv
  have hn' : n < c.length := Nat.lt_of_lt_of_le hn h.1
  exact ⟨c[n], by simp [hn'], h.2 _ _ _⟩
theorem LPre.piece {ρ : Rho} {l : List AV} {c : List Value} (h : LPre ρ l c) (off n : Nat) (hle : off + n ≤ l.length) : LRel ρ ((l.drop off).take n) ((c.drop off).take n) := by
  have := h.1
  refine ⟨by simp only [List.length_take, List.length_drop]; omega, fun i hi hj => ?_⟩
  simp only [List.getElem_take, List.getElem_drop]
  exact h.2 _ _ _
theorem LPre.set {ρ : Rho} {l : List AV} {c : List Value} {v : AV} {x : Value} (n : Nat) (h : LPre ρ l c) (hv : VRel ρ v x) : LPre ρ (l.set n v) (c.set n x) := by
  refine ⟨by simp [h.1], fun i hi hj => ?_⟩
  simp only [List.getElem_set]
  split
  · exact hv
  · exact h.2 _ _ _
theorem VRel.agg_of {ρ : Rho} {cs : List AV} {ccs : List Value} (h : LRel ρ cs ccs) : VRel ρ (.agg cs) (.agg ccs.toArray) :=
  .agg cs _ (by simpa using h.1) (fun i hi hj => by simpa using h.2 i hi (by simpa using hj))
theorem VRel.tup_of {ρ : Rho} {cs : List AV} {ccs : List Value} (h : LRel ρ cs ccs) : VRel ρ (.tup cs) (.tuple ccs.toArray) :=
  .tup cs _ (by simpa using h.1) (fun i hi hj => by simpa using h.2 i hi (by simpa using hj))
theorem VRel.agg_inv {ρ : Rho} {cs : List AV} {c : Value} (h : VRel ρ (.agg cs) c) : ∃ ccs : List Value, c = .agg ccs.toArray ∧ LRel ρ cs ccs := by
  cases h with
  | agg _ ccs h1 hv => exact ⟨ccs.toList, by simp, by simpa using h1, fun i hi hj => by simpa using hv i hi (by simpa using hj)⟩
theorem VRel.tup_inv {ρ : Rho} {cs : List AV} {c : Value} (h : VRel ρ (.tup cs) c) : ∃ ccs : List Value, c = .tuple ccs.toArray ∧ LRel ρ cs ccs := by
  cases h with
  | tup _ ccs h1 hv => exact ⟨ccs.toList, by simp, by simpa using h1, fun i hi hj => by simpa using hv i hi (by simpa using hj)⟩
theorem VRel.undef (ρ : Rho) : VRel ρ undefA Go.undef := VRel.tup_of (LRel.nil ρ)
theorem VRel.cells {ρ : Rho} {v : AV} {c : Value} (h : VRel ρ v c) : LRel ρ v.cells c.cells.toList := by
  have key : ∀ {v : AV} {c : Value}, VRel ρ v c → LRel ρ [v] [c] := fun h => .cons h (.nil ρ)
  cases h with
  | agg cs ccs h1 hv => exact ⟨h1, fun i hi hj => hv i hi hj⟩
  | bool b => exact key (.bool b)
  | int k n => exact key (.int k n)
  | str l => exact key (.str l)
  | nilptr => exact key .nilptr
  | ptr r off b h => exact key (.ptr r off b h)
  | ref v b off c hc hv => exact key (.ref v b off c hc hv)
  | nilsl => exact key .nilsl
  | vsl xs cap b off n s c hs hc hv hn hcap => exact key (.vsl xs cap b off n s c hs hc hv hn hcap)
  | hsl r off len cap b n h hn hcap => exact key (.hsl r off len cap b n h hn hcap)
  | nilmap => exact key .nilmap
  | map r b h => exact key (.map r b h)
  | fn f g a b ca cb hf h1 hv1 h2 hv2 => exact key (.fn f g a b ca cb hf h1 hv1 h2 hv2)
  | nilfn => exact key .nilfn
  | iface t v cv h => exact key (.iface t v cv h)
  | niliface => exact key .niliface
  | tup cs ccs h1 hv => exact key (.tup cs ccs h1 hv)
def AO.live : AO → Prop
  | .grp _ => False
  | .dead => False
  | _ => True
def ERel (ρ : Rho) (e : AV × AV × Nat) (c : MapEntry) : Prop := VRel ρ e.1 c.key ∧ VRel ρ e.2.1 c.val ∧ c.born = e.2.2
def ORel (ρ : Rho) (o : AO) (x : Option Obj) : Prop :=
  match o with
  | .cells cs T => ∃ (ccs : List Value) (fr : Nat × Nat), x = some (.cells ccs.toArray T fr) ∧ LPre ρ cs ccs ∧ (∀ v ∈ ccs, v.oneCell' = true) ∧ (fr = (0, 0) ∨ fr = (ccs.length, ccs.length + 1))
  | .map es clock => ∃ ces : List MapEntry, x = some (.map ces.toArray clock) ∧ ces.length = es.length ∧ ∀ i (hi : i < es.length) (hj : i < ces.length), ERel ρ es[i] ces[i]
  | .siter s pos => x = some (.stringIter ⟨⟨s⟩⟩ pos)
  | .miter m since seen st => ∃ cm, x = some (.mapIter cm since seen.toArray st) ∧ (match m with | none => cm = none | some r => ∃ b, ρ.obj r = some b ∧ cm = some b)
  | .loop st pend _ tm ps assign body d => ∃ (ctm : List Value) (db : Nat) (cfn : FuncId), x = some (.loop { state := st, pending := pend, fn := cfn, tmps := ctm.toArray, params := ps, assign := assign, body := body, defers := db }) ∧ LRel ρ tm ctm ∧ ρ.obj d = some db
  | .defs b => x = some (.deferred (if b then some [] else none))
  | .grp _ => True
  | .dead => True
theorem ORel.mono {ρ ρ' : Rho} (hl : ρ.le ρ') {o : AO} {x : Option Obj} (h : ORel ρ o x) : ORel ρ' o x := by
  cases o with
  | cells cs T => obtain ⟨ccs, fr, e, hr, h1, h2⟩ := h; exact ⟨ccs, fr, e, hr.mono hl, h1, h2⟩
  | map es clock => obtain ⟨ces, e, hn, hr⟩ := h; exact ⟨ces, e, hn, fun i hi hj => let ⟨a, b, c⟩ := hr i hi hj; ⟨a.mono hl, b.mono hl, c⟩⟩
  | siter s pos => exact h
  | miter m since seen st =>
    obtain ⟨cm, e, hm⟩ := h
    refine ⟨cm, e, ?_⟩
    cases m with
    | none => exact hm
    | some r => obtain ⟨b, hb, e2⟩ := hm; exact ⟨b, hl.obj _ _ hb, e2⟩
  | loop st pend fn tm ps assign body d => obtain ⟨ctm, db, cfn, e, hr, hd⟩ := h; exact ⟨ctm, db, cfn, e, hr.mono hl, hl.obj _ _ hd⟩
  | defs b => exact h
  | grp e => trivial
  | dead => trivial
theorem fr_free {n : Nat} {fr : Nat × Nat} (h : fr = (0, 0) ∨ fr = (n, n + 1)) {o : Nat} (ho : o < n) : ¬ (fr.1 ≤ o ∧ o < fr.2) := by
  rcases h with rfl | rfl
  · simp
  · simp only; omega
def Own (ρ : Rho) (h : AH) (b : Nat) : Prop :=
  (∃ r o, ρ.obj r = some b ∧ h.get r = some o ∧ o.live) ∨ (∃ g e c, ρ.grp g e = some (b, c) ∧ h.get g = some (.grp e))
structure Rel (ρ : Rho) (h : AH) (w : World) : Prop where
  obj : ∀ r o b, h.get r = some o → ρ.obj r = some b → ORel ρ o w.heap[b]?
  bound : ∀ r b, ρ.obj r = some b → ρ.base ≤ b ∧ b < w.heap.size ∧ r.nat < h.next.nat
  inj : ∀ r r' b, ρ.obj r = some b → ρ.obj r' = some b → h.get r ≠ some .dead → h.get r' ≠ some .dead → r = r'
  dom : ∀ r o, h.get r = some o → r.nat < h.next.nat
  grp : ∀ g e b c, h.get g = some (.grp e) → ρ.grp g e = some (b, c) → ρ.base ≤ b ∧
    (∃ ccs T fr, w.heap[b]? = some (.cells ccs T fr) ∧ ccs.size = c.2 ∧ ∀ o, c.1 ≤ o → o < ccs.size → ¬ (fr.1 ≤ o ∧ o < fr.2)) ∧
    (∀ o v, ρ.imm b o = some v → o < c.1) ∧ (∀ r, ρ.obj r = some b → h.get r = some .dead)
  gdom : ∀ g e x, ρ.grp g e = some x → g.nat < h.next.nat ∧ x.1 < w.heap.size
  gver : ∀ g e e' x, h.get g = some (.grp e) → ρ.grp g e' = some x → e' ≤ e
  gone : ∀ g o e x, h.get g = some o → ρ.grp g e = some x → ∃ e', o = .grp e'
  ginj : ∀ g g' e e' b c c', h.get g = some (.grp e) → h.get g' = some (.grp e') → ρ.grp g e = some (b, c) → ρ.grp g' e' = some (b, c') → g = g'
  imm : ∀ b o v, ρ.imm b o = some v → w.cell? ⟨b, o, none⟩ = some v
  one : ∀ b o v, ρ.imm b o = some v → v.oneCell' = true
  immo : ∀ b o v r, ρ.imm b o = some v → ρ.obj r = some b → h.get r = some .dead
  siz : ∀ b z, ρ.siz b = some z → ∃ ccs T fr, w.heap[b]? = some (.cells ccs T fr) ∧ z ≤ ccs.size
  glob : ∀ b cs, im0 b = some cs → b < ρ.base ∧ ∃ T fr, w.heap[b]? = some (.cells cs T fr)
structure Stp (ρ : Rho) (h : AH) (w : World) (ρ' : Rho) (h' : AH) (w' : World) : Prop where
  le : ρ.le ρ'
  next : h.next.nat ≤ h'.next.nat
  os : w'.os = w.os
  tape : w'.tape = w.tape
  output : w'.output = w.output
  size : w.heap.size ≤ w'.heap.size
  kept : ∀ b, b < w.heap.size → ¬ Own ρ h b → w'.heap[b]? = w.heap[b]?
  own : ∀ b, b < w.heap.size → Own ρ' h' b → Own ρ h b
  old : ∀ r x, r.nat < h.next.nat → ρ'.obj r = some x → ρ.obj r = some x
  imm : ∀ b o v, b < w.heap.size → ρ'.imm b o = some v → ρ.imm b o = some v ∨ Own ρ h b
theorem Stp.refl (ρ : Rho) (h : AH) (w : World) : Stp ρ h w ρ h w := ⟨ρ.le_refl, Nat.le_refl _, rfl, rfl, rfl, Nat.le_refl _, fun _ _ _ => rfl, fun _ _ h => h, fun _ _ _ e => e, fun _ _ _ _ h => .inl h⟩
theorem Stp.trans {ρ ρ1 ρ2 : Rho} {h h1 h2 : AH} {w w1 w2 : World} (a : Stp ρ h w ρ1 h1 w1) (b : Stp ρ1 h1 w1 ρ2 h2 w2) : Stp ρ h w ρ2 h2 w2 where
  le := Rho.le_trans a.le b.le
  next := Nat.le_trans a.next b.next
  os := b.os.trans a.os
  tape := b.tape.trans a.tape
  output := b.output.trans a.output
  size := Nat.le_trans a.size b.size
  kept := fun k hk ho => (b.kept k (Nat.lt_of_lt_of_le hk a.size) (fun h' => ho (a.own k hk h'))).trans (a.kept k hk ho)
  own := fun k hk ho => a.own k hk (b.own k (Nat.lt_of_lt_of_le hk a.size) ho)
  old := fun r x hr e => a.old r x hr (b.old r x (Nat.lt_of_lt_of_le hr a.next) e)
  imm := fun k o v hk e => (b.imm k o v (Nat.lt_of_lt_of_le hk a.size) e).elim (a.imm k o v hk) fun h' => .inr (a.own k hk h')
theorem Own.base {ρ : Rho} {h : AH} {w : World} (hR : Rel ρ h w) {b : Nat} (ho : Own ρ h b) : ρ.base ≤ b := by
  rcases ho with ⟨r, o, hr, _, _⟩ | ⟨g, e, c, hg, he⟩
  · exact (hR.bound r b hr).1
  · exact (hR.grp g e b c he hg).1
theorem Stp.below {ρ ρ' : Rho} {h h' : AH} {w w' : World} (hR : Rel ρ h w) (hs : Stp ρ h w ρ' h' w') (hb : ρ.base ≤ w.heap.size) : RowKit.Below ρ.base w w' :=
  ⟨hs.os, hs.tape, hs.output, hs.size, fun k hk => hs.kept k (by omega) (fun ho => by have := ho.base hR; omega)⟩
theorem Rel.drew {ρ : Rho} {h : AH} {w w' : World} (hR : Rel ρ h w) (he : w'.heap = w.heap) : Rel ρ h w' where
  obj := by rw [he]; exact hR.obj
  bound := by rw [he]; exact hR.bound
  inj := hR.inj
  dom := hR.dom
  grp := by rw [he]; exact hR.grp
  gdom := by rw [he]; exact hR.gdom
  gver := hR.gver
  gone := hR.gone
  ginj := hR.ginj
  imm := fun b o v q => by have := hR.imm b o v q; simpa [World.cell?, he] using this
  one := hR.one
  immo := hR.immo
  siz := by rw [he]; exact hR.siz
  glob := by rw [he]; exact hR.glob
theorem Rel.ext {ρ : Rho} {h h' : AH} {w : World} (hR : Rel ρ h w) (hg : ∀ r, h'.get r = h.get r) (hn : h'.next = h.next) : Rel ρ h' w := by
  constructor
  · intro r o b; rw [hg]; exact hR.obj r o b
  · rw [hn]; exact hR.bound
  · intro r r' b; rw [hg, hg]; exact hR.inj r r' b
  · intro r o; rw [hg, hn]; exact hR.dom r o
  · intro g e b c h1 h2
    rw [hg] at h1
    obtain ⟨a1, a2, a3, a4⟩ := hR.grp g e b c h1 h2
    exact ⟨a1, a2, a3, fun r hr => by rw [hg]; exact a4 r hr⟩
  · rw [hn]; exact hR.gdom
  · intro g e e' x; rw [hg]; exact hR.gver g e e' x
  · intro g o e x; rw [hg]; exact hR.gone g o e x
  · intro g g' e e' b c c'; rw [hg, hg]; exact hR.ginj g g' e e' b c c'
  · exact hR.imm
  · exact hR.one
  · intro b o v r; rw [hg]; exact hR.immo b o v r
  · exact hR.siz
  · exact hR.glob
theorem VRel.one {ρ : Rho} {v : AV} {c : Value} (h : VRel ρ v c) (hs : v.scalar = true) : c.oneCell' = true := by
  cases h <;> first | rfl | (simp [AV.scalar] at hs)
theorem LRel.one {ρ : Rho} {l : List AV} {c : List Value} (h : LRel ρ l c) (hs : l.all AV.scalar = true) : ∀ v ∈ c, v.oneCell' = true := by
  intro v hv
  obtain ⟨i, hi, rfl⟩ := List.getElem_of_mem hv
  have hi' : i < l.length := by rw [← h.1]; exact hi
  exact (h.2 i hi' hi).one (List.all_eq_true.1 hs _ (List.getElem_mem hi'))
end Go.Sk

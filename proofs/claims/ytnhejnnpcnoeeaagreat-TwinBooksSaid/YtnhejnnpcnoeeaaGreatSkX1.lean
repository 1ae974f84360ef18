/-
  Reasoning on the evaluator: code, slots, contracts that stand ready.
-/
import Derived.Test.YtnhejnnpcnoeeaaGreatSkK2
namespace Go.Sk
mutual
def plainV : AV → Bool
  | .bool _ => true
  | .int _ _ => true
  | .str _ => true
  | .nilptr => true
  | .nilsl => true
  | .nilmap => true
  | .nilfn => true
  | .niliface => true
  | .iface _ v => plainV v
  | .agg cs => plainL cs
  | .tup cs => plainL cs
  | _ => false
def plainL : List AV → Bool
  | [] => true
  | v :: l => plainV v && plainL l
end
theorem plainL_get : ∀ {l : List AV}, plainL l = true → ∀ i (hi : i < l.length), plainV l[i] = true
  | [], _, i, hi => by simp at hi
  | v :: l, h, i, hi => by
    simp only [plainL, Bool.and_eq_true] at h
    cases i with
    | zero => exact h.1
    | succ i => exact plainL_get h.2 i (by simpa using hi)
theorem VRel.plainT {ρ1 ρ2 : Rho} {v : AV} {c : Value} (h : VRel ρ1 v c) : plainV v = true → VRel ρ2 v c := by
  induction h with
  | bool b => intro _; exact .bool b
  | int k n => intro _; exact .int k n
  | str l => intro _; exact .str l
  | nilptr => intro _; exact .nilptr
  | ptr r off b h => intro hp; simp [plainV] at hp
  | ref v b off c hc _ ih => intro hp; simp [plainV] at hp
  | nilsl => intro _; exact .nilsl
  | vsl xs cap b off n s c hs hc _ hn hcap ih => intro hp; simp [plainV] at hp
  | hsl r off len cap b n h hn hcap => intro hp; simp [plainV] at hp
  | nilmap => intro _; exact .nilmap
  | map r b h => intro hp; simp [plainV] at hp
  | fn f g a b ca cb hf h1 _ h2 _ ih1 ih2 => intro hp; simp [plainV] at hp
  | nilfn => intro _; exact .nilfn
  | iface t v cv _ ih => intro hp; exact .iface t v cv (ih (by simpa [plainV] using hp))
  | niliface => intro _; exact .niliface
  | agg cs ccs h1 _ ih => intro hp; exact .agg cs ccs h1 fun i hi hj => ih i hi hj (plainL_get (by simpa [plainV] using hp) i hi)
  | tup cs ccs h1 _ ih => intro hp; exact .tup cs ccs h1 fun i hi hj => ih i hi hj (plainL_get (by simpa [plainV] using hp) i hi)
def weakC : Cap → Cap
  | .pat k m => .pat k m
  | _ => .unk
mutual
def weakV : AV → AV
  | .vsl xs c => .vsl (weakL xs) (weakC c)
  | .ref v => .ref (weakV v)
  | .agg cs => .agg (weakL cs)
  | .tup cs => .tup (weakL cs)
  | .iface t v => .iface t (weakV v)
  | v => v
def weakL : List AV → List AV
  | [] => []
  | v :: l => weakV v :: weakL l
end
mutual
def freeV : AV → Bool
  | .ptr _ _ => false
  | .hsl _ _ _ _ => false
  | .map _ => false
  | .fn _ _ _ => false
  | .vsl xs _ => freeL xs
  | .ref v => freeV v
  | .agg cs => freeL cs
  | .tup cs => freeL cs
  | .iface _ v => freeV v
  | _ => true
def freeL : List AV → Bool
  | [] => true
  | v :: l => freeV v && freeL l
end
theorem freeL_get : ∀ {l : List AV}, freeL l = true → ∀ i (hi : i < l.length), freeV l[i] = true
  | [], _, i, hi => by simp at hi
  | v :: l, h, i, hi => by
    simp only [freeL, Bool.and_eq_true] at h
    cases i with
    | zero => exact h.1
    | succ i => exact freeL_get h.2 i (by simpa using hi)
theorem weakL_length : ∀ l, (weakL l).length = l.length
  | [] => rfl
  | v :: l => by simp [weakL, weakL_length l]
theorem weakL_get : ∀ (l : List AV) i (hi : i < l.length), (weakL l)[i]'(by rw [weakL_length]; exact hi) = weakV l[i]
  | [], i, hi => by simp at hi
  | v :: l, i, hi => by
    cases i with
    | zero => rfl
    | succ i => exact weakL_get l i (by simpa using hi)
theorem weakV_cells (v : AV) : (weakV v).cells = weakL v.cells := by
  cases v <;> simp [weakV, AV.cells, weakL]
def Rho.hide (ρ : Rho) (base : Nat) : Rho := ⟨base, fun _ => none, fun _ _ => none, ρ.imm, fun _ => none⟩
theorem VRel.hideTo {ρ ρ2 : Rho} (him : ∀ b o v, ρ.imm b o = some v → ρ2.imm b o = some v) {v : AV} {c : Value} (h : VRel ρ v c) : freeV v = true → VRel ρ2 (weakV v) c := by
  induction h with
  | bool b => intro _; exact .bool b
  | int k n => intro _; exact .int k n
  | str l => intro _; exact .str l
  | nilptr => intro _; exact .nilptr
  | ptr r off b h => intro hp; simp [freeV] at hp
  | ref v b off c hc _ ih =>
    intro hp
    have hp' : freeV v = true := by simpa [freeV] using hp
    have hl : (weakV v).cells.length = v.cells.length := by rw [weakV_cells, weakL_length]
    refine .ref _ b off c (fun j hj => him _ _ _ (hc j (by rw [← hl]; exact hj))) (fun j hj => ?_)
    have hj' : j < v.cells.length := by rw [← hl]; exact hj
    have hfc : freeL v.cells = true := by
      cases v <;> simp_all [AV.cells, freeV, freeL]
    have := ih j hj' (freeL_get hfc j hj')
    have e : (weakV v).cells[j] = weakV v.cells[j] := by
      simp only [weakV_cells]; exact weakL_get _ _ _
    rw [e]; exact this
  | nilsl => intro _; exact .nilsl
  | vsl xs cap b off n s c hs hc _ hn hcap ih =>
    intro hp
    have hp' : freeL xs = true := by simpa [freeV] using hp
    have hlen : (weakL xs).length = xs.length := weakL_length xs
    have hck : CapOK ρ2 (weakC cap) b (off + (weakL xs).length * s) s (weakL xs).length n := by
      rw [hlen]
      cases cap with
      | pat k m => exact ⟨hcap.1, hcap.2.1, fun i j hi hj => him _ _ _ (hcap.2.2 i j hi hj)⟩
      | _ => trivial
    have key : VRel ρ2 (.vsl (weakL xs) (weakC cap)) (.slice (some ⟨b, off, none⟩) (weakL xs).length n) := by
      refine .vsl (weakL xs) (weakC cap) b off n s c (fun i hi => ?_) (fun i j hi hj => him _ _ _ (hc i j (by rw [← hlen]; exact hi) hj)) (fun i hi j hj => ?_) (by rw [hlen]; exact hn) hck
      · have hi' : i < xs.length := by rw [← hlen]; exact hi
        rw [weakL_get xs i hi', weakV_cells, weakL_length]; exact hs i hi'
      · have hi' : i < xs.length := by rw [← hlen]; exact hi
        have hx := weakL_get xs i hi'
        have hj' : j < xs[i].cells.length := by rw [hx, weakV_cells, weakL_length] at hj; exact hj
        have hfx := freeL_get hp' i hi'
        have hfc : freeL xs[i].cells = true := by
          generalize xs[i] = u at hfx
          cases u <;> simp_all [AV.cells, freeV, freeL]
        have := ih i hi' j hj' (freeL_get hfc j hj')
        have e : (weakL xs)[i].cells[j] = weakV xs[i].cells[j] := by
          have : (weakL xs)[i].cells = weakL xs[i].cells := by rw [hx, weakV_cells]
          simp only [this]; exact weakL_get _ _ _
        rw [e]; exact this
    rw [hlen] at key; exact key
  | hsl r off len cap b n h hn hcap => intro hp; simp [freeV] at hp
  | nilmap => intro _; exact .nilmap
  | map r b h => intro hp; simp [freeV] at hp
  | fn f g a b ca cb hf h1 _ h2 _ ih1 ih2 => intro hp; simp [freeV] at hp
  | nilfn => intro _; exact .nilfn
  | iface t v cv _ ih => intro hp; exact .iface t _ cv (ih (by simpa [freeV] using hp))
  | niliface => intro _; exact .niliface
  | agg cs ccs h1 _ ih =>
    intro hp
    refine .agg _ ccs (by rw [weakL_length]; exact h1) fun i hi hj => ?_
    have hi' : i < cs.length := by rw [weakL_length] at hi; exact hi
    rw [weakL_get cs i hi']
    exact ih i hi' hj (freeL_get (by simpa [freeV] using hp) i hi')
  | tup cs ccs h1 _ ih =>
    intro hp
    refine .tup _ ccs (by rw [weakL_length]; exact h1) fun i hi hj => ?_
    have hi' : i < cs.length := by rw [weakL_length] at hi; exact hi
    rw [weakL_get cs i hi']
    exact ih i hi' hj (freeL_get (by simpa [freeV] using hp) i hi')
theorem VRel.hide {ρ : Rho} {b0 : Nat} {v : AV} {c : Value} (h : VRel ρ v c) (hf : freeV v = true) : VRel (ρ.hide b0) (weakV v) c := VRel.hideTo (ρ := ρ) (ρ2 := ρ.hide b0) (fun _ _ _ e => e) h hf
theorem Rel.hide {ρ : Rho} {h : AH} {w : World} (hR : Rel ρ h w) : Rel (ρ.hide w.heap.size) .empty w where
  obj := fun r o b h1 _ => by rw [empty_get] at h1; cases h1
  bound := fun r b h1 => by cases h1
  inj := fun r r' b h1 => by cases h1
  dom := fun r o h1 => by rw [empty_get] at h1; cases h1
  grp := fun g e b c h1 => by rw [empty_get] at h1; cases h1
  gdom := fun g e x h1 => by cases h1
  gver := fun g e e' x h1 => by rw [empty_get] at h1; cases h1
  gone := fun g o e x h1 => by rw [empty_get] at h1; cases h1
  ginj := fun g g' e e' b c c' h1 => by rw [empty_get] at h1; cases h1
  imm := hR.imm
  one := hR.one
  immo := fun b o v r _ h1 => by cases h1
  siz := fun b z h1 => by cases h1
  glob := fun b cs q => by
    obtain ⟨_, T, fr, h1⟩ := hR.glob b cs q
    exact ⟨lt_of_block h1, T, fr, h1⟩
theorem ev_hook2 {E : Ev} (hE : EvOK E) {n : Nat} {k : FuncId} {args : List AV} {v : AV} {h' : AH} (he : evCall E n (.func k) (weakL args) .empty = some (.ret v, h')) {ρ : Rho} {h : AH} {w : World} {cargs : List Value}
    (hR : Rel ρ h w) (ha : LRel ρ args cargs) (hf : freeL args = true) (hv : plainV v = true) : FnOK E.P k ∧ Calls E.P k cargs.toArray w (EndPost ρ h w (.ret v) h) := by
  have hl : LRel (ρ.hide w.heap.size) (weakL args) cargs := ⟨by rw [weakL_length]; exact ha.1, fun i hi hj => by
    have hi' : i < args.length := by rw [weakL_length] at hi; exact hi
    rw [weakL_get args i hi']
    exact (ha.2 i hi' hj).hide (freeL_get hf i hi')⟩
  obtain ⟨hk, hc⟩ := (callOK hE n).func k (weakL args) .empty _ h' he (ρ.hide w.heap.size) w cargs hR.hide (Nat.le_refl _) hl
  refine ⟨hk, hc.mono fun e w' hp => ?_⟩
  cases e with
  | returned cv =>
    obtain ⟨av, ρ', h1, h2, h3, h4⟩ := hp
    simp only [AOut.ret.injEq] at h1; subst h1
    have hg : Grew w w' := ⟨h4.os, h4.tape, h4.output, h4.size, fun k hk => h4.kept k hk (fun ho => by have := ho.base hR.hide; have e : (ρ.hide w.heap.size).base = w.heap.size := rfl; omega)⟩
    exact ⟨v, ρ, rfl, h2.plainT hv, hR.grew hg, Stp.grew hg⟩
  | panicked ch => obtain ⟨av, cv, ρ', h1, _⟩ := hp; cases h1
  | outgrown => exact hp.elim
def addHk (hk : Hooks) (f : FuncId) (s : List AV → Option AV) : Hooks := fun g args h => if g = f then (if freeL args then (match s (weakL args) with | some v => some (v, h) | none => none) else none) else hk g args h
theorem addHk_same (hk : Hooks) (f : FuncId) (s : List AV → Option AV) {args : List AV} {h : AH} (hf : freeL args = true) : addHk hk f s f args h = (match s (weakL args) with | some v => some (v, h) | none => none) := by simp [addHk, hf]
theorem addHk_other (hk : Hooks) {f g : FuncId} (s : List AV → Option AV) (args : List AV) (ah : AH) (h : g ≠ f) : addHk hk f s g args ah = hk g args ah := by simp [addHk, h]
theorem addHk_inv {hk : Hooks} {f : FuncId} {s : List AV → Option AV} {args : List AV} {h h' : AH} {v : AV} (he : addHk hk f s f args h = some (v, h')) : freeL args = true ∧ s (weakL args) = some v ∧ h' = h := by
  cases e : freeL args with
  | false => simp [addHk, e] at he
  | true =>
    rw [addHk_same hk f s e] at he
    cases e2 : s (weakL args) with
    | none => rw [e2] at he; cases he
    | some u => rw [e2] at he; simp only [Option.some.injEq, Prod.mk.injEq] at he; obtain ⟨rfl, rfl⟩ := he; exact ⟨rfl, rfl, rfl⟩
theorem mkEv_add {P : Program} {mu : FuncId → Nat → Bool} {hk : Hooks} {f : FuncId} {s : List AV → Option AV} (hE : EvOK (mkEv P mu hk))
    (hs : ∀ args v, s args = some v → plainV v = true ∧ ∃ n h', evCall (mkEv P mu hk) n (.func f) args .empty = some (.ret v, h')) : EvOK (mkEv P mu (addHk hk f s)) where
  hk := fun g args hh v hh' h ρ w cargs hR hb ha => by
    by_cases hg : g = f
    · subst hg
      obtain ⟨hfr, h', rfl⟩ := addHk_inv h
      obtain ⟨p2, n, h1, he⟩ := hs _ v h'
      exact ev_hook2 hE he hR ha hfr p2
    · have h' : hk g args hh = some (v, hh') := by rw [← addHk_other hk s args hh hg]; exact h
      exact hE.hk g args hh v hh' h' ρ w cargs hR hb ha
  ng := hE.ng
  rgn := hE.rgn
def tabHk : List (List AV × AV) → List AV → Option AV
  | [], _ => none
  | (a, v) :: r, args => if AV.beqL a args then some v else tabHk r args
theorem tabHk_mem : ∀ {l : List (List AV × AV)} {args : List AV} {v : AV}, tabHk l args = some v → (args, v) ∈ l
  | [], _, _, h => by cases h
  | (a, u) :: r, args, v, h => by
    simp only [tabHk] at h
    split at h
    · rename_i hb
      simp only [Option.some.injEq] at h; subst h
      rw [AV.beqL_eq hb]; simp
    · exact List.mem_cons_of_mem _ (tabHk_mem h)
section
variable {P : Program} {mu : FuncId → Nat → Bool} {hk : Hooks}
def cx (P : Program) (mu : FuncId → Nat → Bool) (hk : Hooks) (n : Nat) : Cx := ⟨P, mu, evCall (mkEv P mu hk) n⟩
def rg (P : Program) (mu : FuncId → Nat → Bool) (hk : Hooks) (n : Nat) (f : FuncId) : Nat → Array Oper → ASt → Option (AExit × ASt) := fun _ ops s => drawn (cx P mu hk n) f ops s
theorem ev_hk {n : Nat} {f : FuncId} {args : List AV} {h h' : AH} {v : AV} (hh : hk f args h = some (v, h')) (hn : 0 < n) : evCall (mkEv P mu hk) n (.func f) args h = some (.ret v, h') := by
  obtain ⟨m, rfl⟩ : ∃ m, n = m + 1 := ⟨n - 1, by omega⟩
  show (match hk f args h with
    | some r => some (AOut.ret r.1, r.2)
    | none => match P.funcs[f]? with
      | none => none
      | some fn => match fn.body with
        | none => none
        | some c => leaveA P fn (evCode (cx P mu hk m) (rg P mu hk m f) f none m c ⟨args ++ List.replicate (fn.ntmps - args.length) undefA, [], h⟩)) = _
  rw [hh]
def evBody (P : Program) (mu : FuncId → Nat → Bool) (hk : Hooks) (n : Nat) (f : FuncId) (fn : Func) (c : Code) (args : List AV) (h : AH) : Option (AOut × AH) :=
  leaveA P fn (evCode (cx P mu hk n) (rg P mu hk n f) f none n c ⟨args ++ List.replicate (fn.ntmps - args.length) undefA, [], h⟩)
theorem ev_body {n : Nat} {f : FuncId} {fn : Func} {c : Code} {args : List AV} {h : AH} (hh : hk f args h = none) (hf : P.funcs[f]? = some fn) (hc : fn.body = some c) :
    evCall (mkEv P mu hk) (n + 1) (.func f) args h = evBody P mu hk n f fn c args h := by
  show (match hk f args h with
    | some r => some (AOut.ret r.1, r.2)
    | none => match P.funcs[f]? with
      | none => none
      | some fn => match fn.body with
        | none => none
        | some c => leaveA P fn (evCode (cx P mu hk n) (rg P mu hk n f) f none n c ⟨args ++ List.replicate (fn.ntmps - args.length) undefA, [], h⟩)) = _
  rw [hh, hf]
  simp only [hc]
  rfl
end
section
variable {X : Cx} {rgn : Nat → Array Oper → ASt → Option (AExit × ASt)} {fn : FuncId} {rd : Option Id} {n : Nat} {s : ASt}
end
end Go.Sk

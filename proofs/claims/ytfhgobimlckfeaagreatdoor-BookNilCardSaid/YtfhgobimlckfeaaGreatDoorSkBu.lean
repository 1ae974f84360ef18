/-
  A strings.Builder in the evaluator: what copyCheck and String do, told of the abstract heap. The buffer is a slice that is written in place (mu of WriteString).
-/
import Derived.Test.YtfhgobimlckfeaaGreatDoorSkX9
import Derived.Lib.UnsafeStr
import Derived.Lib.Builder
set_option linter.unusedVariables false
namespace Go.Sk
open Go.RowKit

/-- A block that no live object, no group and nothing known holds may be written. -/
theorem Rel.wroteDead {ρ : Rho} {h : AH} {w w' : World} (hR : Rel ρ h w) {b : Nat} {x : Obj} (hb : ρ.base ≤ b) (hd : ∀ q, ρ.obj q = some b → h.get q = some .dead)
    (hg : ∀ g e c, h.get g = some (.grp e) → ρ.grp g e = some (b, c) → False) (hi : ∀ o v, ρ.imm b o = some v → False) (hw : Wrote w w' b x)
    (hsz : ∀ ccs T fr, w.heap[b]? = some (.cells ccs T fr) → ∃ ccs' T' fr', x = .cells ccs' T' fr' ∧ ccs'.size = ccs.size) : Rel ρ h w' where
  obj := fun q oq bq h1 h2 => by
    by_cases e : bq = b
    · subst e
      have := hd q h2
      rw [h1] at this; simp only [Option.some.injEq] at this; subst this
      trivial
    · rw [hw.block bq e]; exact hR.obj q oq bq h1 h2
  bound := fun q bq h1 => by rw [hw.size]; exact hR.bound q bq h1
  inj := hR.inj
  dom := hR.dom
  grp := fun g e bg c h1 h2 => by
    have hne : bg ≠ b := by rintro rfl; exact hg g e c h1 h2
    rw [hw.block bg hne]; exact hR.grp g e bg c h1 h2
  gdom := fun g e y h1 => by rw [hw.size]; exact hR.gdom g e y h1
  gver := hR.gver
  gone := hR.gone
  ginj := hR.ginj
  imm := fun bi oi v h1 => by
    have hne : bi ≠ b := by rintro rfl; exact hi _ _ h1
    rw [World.cell?_of_block (w := w) (hw.block bi hne)]; exact hR.imm bi oi v h1
  one := hR.one
  immo := hR.immo
  siz := fun b' z q => by
    obtain ⟨ccs, T, fr, h1, h2⟩ := hR.siz b' z q
    by_cases e : b' = b
    · subst e
      obtain ⟨ccs', T', fr', rfl, h3⟩ := hsz ccs T fr h1
      exact ⟨ccs', T', fr', hw.here, by omega⟩
    · exact ⟨ccs, T, fr, by rw [hw.block b' e]; exact h1, h2⟩
  glob := fun b' cs q => by
    obtain ⟨h0, T, fr, h1⟩ := hR.glob b' cs q
    exact ⟨h0, T, fr, by rw [hw.block b' (by omega)]; exact h1⟩

/-- An object of the evaluator's, whose block is written, and which is given up. -/
theorem Rel.killW {ρ : Rho} {h : AH} {w w' : World} (hR : Rel ρ h w) {r : Id} {b : Nat} {o : AO} {x : Obj} (hr : h.get r = some o) (hl : o.live) (hb : ρ.obj r = some b) (hw : Wrote w w' b x)
    (hsz : ∀ ccs T fr, w.heap[b]? = some (.cells ccs T fr) → ∃ ccs' T' fr', x = .cells ccs' T' fr' ∧ ccs'.size = ccs.size) : Rel ρ (h.set r .dead) w' := by
  have hnd : h.get r ≠ some .dead := by rw [hr]; rintro ⟨⟩; exact hl
  refine (hR.kill hr hl).wroteDead (hR.bound r b hb).1 (fun q hq => ?_) (fun g e c h1 h2 => ?_) (fun o v h1 => hnd (hR.immo b o v r h1 hb)) hw hsz
  · rw [AH.get_set]
    by_cases e : q = r
    · rw [if_pos e]
    · rw [if_neg e]
      by_cases hd : h.get q = some .dead
      · exact hd
      · exact absurd (hR.inj q r b hq hb hd hnd) e
  · have h3 : h.get g = some (.grp e) := by
      rw [AH.get_set] at h1
      by_cases e' : g = r
      · rw [if_pos e'] at h1; cases h1
      · rwa [if_neg e'] at h1
    exact hnd ((hR.grp g e b c h3 h2).2.2.2 r hb)

theorem Stp.killW {ρ : Rho} {h : AH} {w w' : World} {r : Id} {b : Nat} {o : AO} {x : Obj} (hr : h.get r = some o) (hl : o.live) (hb : ρ.obj r = some b) (hw : Wrote w w' b x) : Stp ρ h w ρ (h.set r .dead) w' where
  le := ρ.le_refl
  next := Nat.le_refl _
  os := hw.os
  tape := hw.tape
  output := hw.output
  size := by rw [hw.size]; exact Nat.le_refl _
  kept := fun k _ hn => hw.block k (by rintro rfl; exact hn (.inl ⟨r, o, hb, hr, hl⟩))
  old := fun _ _ _ e => e
  imm := fun _ _ _ _ h => .inl h
  own := fun k hk ho => (Stp.kill (ρ := ρ) (h := h) (w := w) (r := r)).own k hk ho

/-- Bytes of a row of cells. -/
def byteL : List AV → Option (List UInt8)
  | [] => some []
  | .int .u8 n :: r => if 0 ≤ n ∧ n < 256 then (byteL r).map (UInt8.ofNat n.toNat :: ·) else none
  | _ => none
theorem byteL_spec : ∀ {xs : List AV} {l : List UInt8}, byteL xs = some l → l.length = xs.length ∧ ∀ (j : Nat) (x : UInt8), l[j]? = some x → xs[j]? = some (AV.int .u8 x.toNat)
  | [], l, h => by cases h; exact ⟨rfl, fun j x hx => by simp at hx⟩
  | v :: r, l, h => by
    unfold byteL at h
    split at h
    · rename_i heq; cases heq
    · rename_i n r' heq
      cases heq
      split at h
      · rename_i hn
        obtain ⟨l', h1, rfl⟩ := Option.map_eq_some_iff.1 h
        obtain ⟨e1, e2⟩ := byteL_spec h1
        refine ⟨by simp [e1], fun j x hx => ?_⟩
        cases j with
        | zero =>
          simp only [List.getElem?_cons_zero, Option.some.injEq] at hx ⊢
          subst hx
          have : (UInt8.ofNat n.toNat).toNat = n.toNat := by
            rw [UInt8.toNat_ofNat']
            exact Nat.mod_eq_of_lt (by omega)
          rw [this]
          congr 1
          omega
        | succ j => simpa using e2 j x (by simpa using hx)
      · cases h
    · cases h
/-- copyCheck, told of the abstract heap. -/
def ccA (tb : TypeId) (h : AH) : List AV → Option (AV × AH)
  | [.ptr r 0] => match h.get r with
    | some (.cells (.nilptr :: y :: rest) T) => if T = tb then some (.tup [], h.set r (.cells (.ptr r 0 :: y :: rest) T)) else none
    | some (.cells (.ptr r' 0 :: rest) T) => if r' = r ∧ T = tb then some (.tup [], h) else none
    | _ => none
  | _ => none
/-- String: the buffer is given up. -/
def stA (tb t5 : TypeId) (h : AH) : List AV → Option (AV × AH)
  | [.ptr r 0] => match h.get r with
    | some (.cells (_ :: .nilsl :: _) T) => if T = tb then some (.str [], h) else none
    | some (.cells (_ :: .hsl r2 0 n (.room 1) :: _) T) =>
      if T = tb ∧ 0 < n then
        match h.get r2 with
        | some (.cells bs T2) => if T2 = t5 ∧ n ≤ bs.length ∧ n ≤ 140737488355328 then (byteL (bs.take n)).map fun l => (.str l, h.set r2 .dead) else none
        | _ => none
      else none
    | _ => none
  | _ => none
def hkBu (hk : Hooks) (cc st : FuncId) (tb t5 : TypeId) : Hooks := fun g args h => if g = cc then ccA tb h args else if g = st then stA tb t5 h args else hk g args h

/-- What is asked of the two functions. -/
structure BuOK (P : Program) (cc st : FuncId) (tb t5 : TypeId) : Prop where
  fcc : FnOK P cc
  fst : FnOK P st
  fresh : ∀ (b n : Nat) (w : World), w.cell? ⟨b, 0, none⟩ = some (.pointer none) → w.shape? b = some (tb, n) → 2 ≤ n → w.frozen? ⟨b, 0, none⟩ = false →
    Calls P cc #[.pointer (some ⟨b, 0, none⟩)] w fun e w' => e = .returned (.tuple #[]) ∧ w' = w.setCell ⟨b, 0, none⟩ (.pointer (some ⟨b, 0, none⟩))
  used : ∀ (b : Nat) (w : World), w.cell? ⟨b, 0, none⟩ = some (.pointer (some ⟨b, 0, none⟩)) → Calls P cc #[.pointer (some ⟨b, 0, none⟩)] w fun e w' => e = .returned (.tuple #[]) ∧ w' = w
  nil : ∀ (b : Nat) (w : World), w.cell? ⟨b, 1, none⟩ = some (.slice none 0 0) → Calls P st #[.pointer (some ⟨b, 0, none⟩)] w fun e w' => e = .returned (.string ⟨#[]⟩) ∧ Grew w w'
  row : ∀ (b g n cap : Nat) (l : List UInt8) (w : World), w.cell? ⟨b, 1, none⟩ = some (.slice (some ⟨g, 0, none⟩) l.length cap) → w.shape? g = some (t5, n) → (∀ j x, l[j]? = some x → w.cell? ⟨g, j, none⟩ = some (.int .u8 x.toNat)) →
    l ≠ [] → l.length ≤ n → l.length ≤ 140737488355328 → cap ≠ 0 → Calls P st #[.pointer (some ⟨b, 0, none⟩)] w fun e w' => e = .returned (.string ⟨l.toArray⟩) ∧ ∃ k, w' = { (w.freeze ⟨g, 0, none⟩ l.length) with drawn := k }
  size : (P.info? tb).map (·.size) = some 2

theorem cell_of_block {w : World} {b o : Nat} {cs : Array Value} {T : TypeId} {fr : Nat × Nat} (h : w.heap[b]? = some (.cells cs T fr)) : w.cell? ⟨b, o, none⟩ = cs[o]? := by
  simp [World.cell?, h]

theorem ev_cc {P : Program} {cc st : FuncId} {tb t5 : TypeId} (hB : BuOK P cc st tb t5) {args : List AV} {h h' : AH} {v : AV} {ρ : Rho} {w : World} {cargs : List Value} (hR : Rel ρ h w) (ha : LRel ρ args cargs) (hs : ccA tb h args = some (v, h')) :
    Calls P cc cargs.toArray w (EndPost ρ h w (.ret v) h') := by
  unfold ccA at hs
  split at hs
  rotate_left
  · cases hs
  rename_i r
  obtain ⟨c, rfl⟩ : ∃ c, cargs = [c] := by
    have := ha.1
    match cargs, this with
    | [c], _ => exact ⟨c, rfl⟩
  have hv := ha.2 0 (by simp) (by simp)
  simp only [List.getElem_cons_zero] at hv
  cases hv with | ptr _ _ b hb =>
  split at hs
  · rename_i y rest T hg
    split at hs
    · rename_i hT
      subst hT
      cases hs
      obtain ⟨ccs, fr, e, hl, h1, hfr⟩ := hR.obj r _ b hg hb
      obtain ⟨x0, e0, v0⟩ := hl.find (n := 0) rfl
      cases v0
      have h2 : 2 ≤ ccs.length := by have := hl.1; simp at this; omega
      refine (hB.fresh b ccs.length w (by rw [cell_of_block e]; simpa using e0) (by simp [World.shape?, e]) h2 ?_).mono fun e' w' hp => ?_
      · simp only [World.frozen?, e]
        have := fr_free hfr (o := 0) (by omega)
        simp only [Bool.and_eq_false_iff, decide_eq_false_iff_not]
        omega
      obtain ⟨rfl, rfl⟩ := hp
      have hw := Wrote.setCell (o := 0) e (.pointer (some ⟨b, 0, none⟩))
      refine ⟨_, ρ, rfl, .tup [] #[] rfl (fun i hi => by simp at hi), hR.setObj hg trivial hb (o' := .cells (.ptr r 0 :: y :: rest) T) trivial hw (fun _ _ _ e2 => by rw [e] at e2; simp only [Option.some.injEq, Obj.cells.injEq] at e2; exact ⟨_, _, _, rfl, by rw [← e2.1]; simp⟩) ⟨_, _, rfl, ⟨by have := hl.1; simpa using this, fun i hi hj => ?_⟩, fun x hx => ?_, by simpa using hfr⟩, Stp.setObj hg trivial hb trivial hw⟩
      · cases i with
        | zero => simp only [List.getElem_cons_zero, List.getElem_set_self]; exact .ptr r 0 b hb
        | succ i =>
          have h3 := hl.2 (i + 1) (by simpa using hi) (by simpa using hj)
          simp only [List.getElem_cons_succ] at h3 ⊢
          rw [List.getElem_set_ne (by omega)]
          exact h3
      · rcases List.mem_or_eq_of_mem_set hx with hx | rfl
        · exact h1 x hx
        · rfl
    · cases hs
  · rename_i r' rest T hg
    split at hs
    · rename_i hT
      obtain ⟨rfl, rfl⟩ := hT
      cases hs
      obtain ⟨ccs, fr, e, hl, h1, hfr⟩ := hR.obj r' _ b hg hb
      obtain ⟨x0, e0, v0⟩ := hl.find (n := 0) rfl
      cases v0 with | ptr _ _ b' hb' =>
      rw [hb] at hb'
      cases hb'
      refine (hB.used b w (by rw [cell_of_block e]; simpa using e0)).mono fun e w' hp => ?_
      obtain ⟨rfl, rfl⟩ := hp
      exact ⟨_, ρ, rfl, .tup [] #[] rfl (fun i hi => by simp at hi), hR, Stp.refl _ _ _⟩
    · cases hs
  · cases hs

theorem ev_st {P : Program} {cc st : FuncId} {tb t5 : TypeId} (hB : BuOK P cc st tb t5) {args : List AV} {h h' : AH} {v : AV} {ρ : Rho} {w : World} {cargs : List Value} (hR : Rel ρ h w) (ha : LRel ρ args cargs) (hs : stA tb t5 h args = some (v, h')) :
    Calls P st cargs.toArray w (EndPost ρ h w (.ret v) h') := by
  unfold stA at hs
  split at hs
  rotate_left
  · cases hs
  rename_i r
  obtain ⟨c, rfl⟩ : ∃ c, cargs = [c] := by
    have := ha.1
    match cargs, this with
    | [c], _ => exact ⟨c, rfl⟩
  have hv := ha.2 0 (by simp) (by simp)
  simp only [List.getElem_cons_zero] at hv
  cases hv with | ptr _ _ b hb =>
  split at hs
  · rename_i a0 rest T hg
    split at hs
    · cases hs
      obtain ⟨ccs, fr, e, hl, h1, hfr⟩ := hR.obj r _ b hg hb
      obtain ⟨x1, e1, v1⟩ := hl.find (n := 1) rfl
      cases v1
      refine (hB.nil b w (by rw [cell_of_block e]; simpa using e1)).mono fun e' w' hp => ?_
      obtain ⟨rfl, hg'⟩ := hp
      exact ⟨_, ρ, rfl, .str [], hR.grew hg', Stp.grew hg'⟩
    · cases hs
  · rename_i a0 r2 n rest T hg
    split at hs
    · rename_i hT
      split at hs
      · rename_i bs T2 hg2
        split at hs
        · rename_i hl2
          obtain ⟨l, hbl, hs⟩ := Option.map_eq_some_iff.1 hs
          cases hs
          obtain ⟨ccs, fr, e, hl, h1, hfr⟩ := hR.obj r _ b hg hb
          obtain ⟨x1, e1, v1⟩ := hl.find (n := 1) rfl
          cases v1 with | hsl _ _ _ _ g cap hb2 hn hc =>
          obtain ⟨ccs2, fr2, e2, hlr, h12, hfr2⟩ := hR.obj r2 _ g hg2 hb2
          obtain ⟨q1, q2⟩ := byteL_spec hbl
          have hln : l.length = n := by rw [q1, List.length_take]; omega
          have hle : bs.length ≤ ccs2.length := hlr.1
          subst hln
          refine (hB.row b g ccs2.length cap l w (by rw [cell_of_block e]; simpa using e1) (by simp [World.shape?, e2, hl2.1]) (fun j x hx => ?_) (by rintro rfl; simp at hT) (by omega) hl2.2.2 (by omega)).mono fun e' w' hp => ?_
          · have h3 := q2 j x hx
            have h4 : bs[j]? = some (.int .u8 x.toNat) := by
              rw [List.getElem?_take] at h3
              split at h3
              · exact h3
              · cases h3
            obtain ⟨y, e3, v3⟩ := hlr.find h4
            cases v3
            rw [cell_of_block e2]; simpa using e3
          · obtain ⟨rfl, k, rfl⟩ := hp
            have hwr : Wrote w { (w.freeze ⟨g, 0, none⟩ l.length) with drawn := k } g (.cells ccs2.toArray T2 (if fr2.1 == fr2.2 then (0, 0 + l.length) else (min fr2.1 0, max fr2.2 (0 + l.length)))) := by
              have hlt := lt_of_block e2
              unfold World.freeze
              rw [if_neg (by omega)]
              refine ⟨rfl, rfl, rfl, by simp, ?_, fun k hk => ?_⟩
              · simp only [Array.getElem?_modify, if_pos, e2, Option.map_some]
              · simp only [Array.getElem?_modify]
                rw [if_neg (by omega)]
            exact ⟨_, ρ, rfl, .str l, hR.killW hg2 trivial hb2 hwr (fun _ _ _ e4 => by rw [e2] at e4; simp only [Option.some.injEq, Obj.cells.injEq] at e4; exact ⟨_, _, _, rfl, by rw [← e4.1]⟩), Stp.killW hg2 trivial hb2 hwr⟩
        · cases hs
      · cases hs
    · cases hs
  · cases hs

theorem mkEv_bu {P : Program} {mu : FuncId → Nat → Bool} {hk : Hooks} {cc st : FuncId} {tb t5 : TypeId} (hE : EvOK (mkEv P mu hk)) (hB : BuOK P cc st tb t5) : EvOK (mkEv P mu (hkBu hk cc st tb t5)) where
  hk := fun g args hh v hh' h ρ w cargs hR hb ha => by
    have h' : hkBu hk cc st tb t5 g args hh = some (v, hh') := h
    unfold hkBu at h'
    split at h'
    · rename_i hg; subst hg; exact ⟨hB.fcc, ev_cc hB hR ha h'⟩
    · split at h'
      · rename_i hg; subst hg; exact ⟨hB.fst, ev_st hB hR ha h'⟩
      · exact hE.hk g args hh v hh' h' ρ w cargs hR hb ha
  ng := hE.ng
  rgn := hE.rgn
end Go.Sk


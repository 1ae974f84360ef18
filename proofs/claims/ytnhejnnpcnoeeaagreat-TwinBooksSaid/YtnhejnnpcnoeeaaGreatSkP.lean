/-
  Conversions.
-/
import Derived.Test.YtnhejnnpcnoeeaaGreatSkO
namespace Go.Sk
variable {P : Program} {ρ : Rho} {h : AH} {w : World}
theorem byteStr (l : ByteArray) : VRel ρ (.str l.data.toList) (.string l) := by
  obtain ⟨⟨x⟩⟩ := l
  exact .str x
theorem aBytes_spec : ∀ {xs : List AV} {s : List UInt8}, aBytes xs = some s → ∃ ns : List Int, xs = ns.map (AV.int .u8) ∧ s = ns.map fun n => UInt8.ofNat n.toNat
  | [], s, h => by simp only [aBytes, Option.some.injEq] at h; subst h; exact ⟨[], rfl, rfl⟩
  | x :: xs, s, h => by
    cases x with
    | int k n =>
      cases k <;> simp only [aBytes] at h <;> try (cases h; done)
      simp only [Option.map_eq_some_iff] at h
      obtain ⟨r, hr, rfl⟩ := h
      obtain ⟨ns, rfl, rfl⟩ := aBytes_spec hr
      exact ⟨n :: ns, rfl, rfl⟩
    | _ => simp [aBytes] at h
theorem foldl_push_bytes (ns : List Int) (s : ByteArray) : ns.foldl (fun r n => r.push (UInt8.ofNat n.toNat)) s = ⟨⟨s.data.toList ++ ns.map fun n => UInt8.ofNat n.toNat⟩⟩ := by
  induction ns generalizing s with
  | nil => obtain ⟨⟨x⟩⟩ := s; simp
  | cons n ns ih =>
    rw [List.foldl_cons, ih]
    congr 2
    obtain ⟨⟨x⟩⟩ := s
    simp [ByteArray.push]
theorem LRel.ints {ns : List Int} {cs : List Value} (h : LRel ρ (ns.map (AV.int .u8)) cs) : cs = ns.map (Value.int .u8) := by
  induction ns generalizing cs with
  | nil => have := h.1; simpa using this
  | cons n ns ih =>
    cases cs with
    | nil => have := h.1; simp at this
    | cons c cs =>
      have h1 := h.head
      have h2 := h.tail
      rw [ih h2, List.map_cons]
      congr 1
      cases h1; rfl
theorem flat_ints : ∀ (ns : List Int), flat (ns.map (AV.int .u8)) = ns.map (AV.int .u8)
  | [] => rfl
  | n :: ns => by rw [List.map_cons, flat_cons, flat_ints ns]; rfl
theorem run_markStringish {b off : Nat} {ccs : List Value} {T : TypeId} {fr : Nat × Nat} (hb : w.heap[b]? = some (.cells ccs.toArray T fr)) (hfr : fr = (0, 0) ∨ fr = (ccs.length, ccs.length + 1)) :
    ∃ w', (markStringish ⟨b, off, none⟩).run P w = .ok () w' ∧ Wrote w w' b (.cells ccs.toArray T (ccs.length, ccs.length + 1)) ∧ w'.drawn = w.drawn := by
  have hlt := lt_of_block hb
  have hdr : (w.freeze ⟨b, ccs.length, none⟩ 1).drawn = w.drawn := rfl
  refine ⟨w.freeze ⟨b, ccs.length, none⟩ 1, ?_, ?_, hdr⟩
  · simp [markStringish, World.shape?, hb]
  · refine ⟨by simp [World.freeze], by simp [World.freeze], by simp [World.freeze], by simp [World.freeze], ?_, fun k hk => ?_⟩
    · simp only [World.freeze, Nat.one_ne_zero, if_false, Array.getElem?_modify, if_true, hb, Option.map_some]
      rcases hfr with rfl | rfl
      · simp
      · simp
    · simp only [World.freeze, Nat.one_ne_zero, if_false, Array.getElem?_modify, if_neg (Ne.symm hk)]
theorem run_aConvert (hR : Rel ρ h w) (hb : ρ.base ≤ w.heap.size) {src dst : TypeId} {x v : AV} {cx : Value} {h' : AH} (he : aConvert P src dst x h = some (v, h')) (hx : VRel ρ x cx) :
    Gd P ρ h w (convert src dst cx) v h' := by
  unfold aConvert at he
  split at he
  · -- to a number
    rename_i d k kk n hs hd
    simp only [Option.some.injEq, Prod.mk.injEq] at he; obtain ⟨rfl, rfl⟩ := he
    cases hx
    exact Gd.pure hR ⟨.int k (k.wrap n), by simp [convert, run_underlying hs, run_underlying hd, Conv.intToInt], .int _ _⟩
  · rename_i d k n hs hd
    simp only [Option.some.injEq, Prod.mk.injEq] at he; obtain ⟨rfl, rfl⟩ := he
    cases hx
    exact Gd.pure hR ⟨.string (Utf8.encode n), by simp [convert, run_underlying hs, run_underlying hd, Conv.intToString], byteStr _⟩
  · rename_i d s hs hd
    simp only [Option.some.injEq, Prod.mk.injEq] at he; obtain ⟨rfl, rfl⟩ := he
    cases hx
    exact Gd.pure hR ⟨.string ⟨⟨s⟩⟩, by simp [convert, run_underlying hs, run_underlying hd], .str _⟩
  · -- a text's bytes
    rename_i d e s hs hd
    cases hx
    split at he
    · rename_i hu
      split at he
      · cases he
      · rename_i hlim
        simp only [Option.some.injEq, Prod.mk.injEq] at he; obtain ⟨rfl, rfl⟩ := he
        -- the block: the bytes, and room behind them
        generalize hq : (Question.appendCap s.length 0 e).cut (w.tape w.drawn (.appendCap s.length 0 e)) = cp
        have hcp : s.length ≤ cp := by rw [← hq]; simp only [Question.cut]; omega
        let ccs : List Value := (s.map fun b => Value.int .u8 b.toNat) ++ List.replicate (cp - s.length) (.int .u8 0)
        have hcl : ccs.length = cp := by simp only [ccs, List.length_append, List.length_map, List.length_replicate]; omega
        have hone : ∀ v ∈ ccs, v.oneCell' = true := by
          intro v hv
          simp only [ccs, List.mem_append, List.mem_map, List.mem_replicate] at hv
          rcases hv with ⟨b, _, rfl⟩ | ⟨_, rfl⟩ <;> rfl
        let w2 : World := { w with drawn := w.drawn + 1, heap := w.heap.push (.cells ccs.toArray e) }
        have hb2 : w2.heap[w.heap.size]? = some (.cells ccs.toArray e (0, 0)) := by simp [w2]
        obtain ⟨w3, hm, hw, _⟩ := run_markStringish (P := P) (w := w2) (off := 0) hb2 (.inl rfl)
        have hgr : Grew w w3 := by
          refine ⟨hw.os, hw.tape, hw.output, by rw [hw.size]; simp [w2], fun k hk => ?_⟩
          rw [hw.block k (by omega)]
          show (w.heap.push _)[k]? = _
          rw [Array.getElem?_push, if_neg (by omega)]
        have hR3 := hR.grew hgr
        have hget : ∀ j, j < s.length → ccs[j]? = some (.int .u8 ((s.getD j 0).toNat)) := fun j hj => by
          simp only [ccs]
          rw [List.getElem?_append_left (by simpa using hj)]
          simp [hj]
        have hnoobj : ∀ r, ρ.obj r = some w.heap.size → h.get r = some .dead := fun r hr => by have := (hR.bound r _ hr).2.1; omega
        have hnogrp : ∀ g e' c', h.get g = some (.grp e') → ρ.grp g e' = some (w.heap.size, c') → False := fun g e' c' _ h2 => by have := (hR.gdom g e' _ h2).2; simp at this
        have hR4 := hR3.addImm w.heap.size 0 s.length (fun j => ccs.getD j Go.undef)
          (fun j hj => by
            simp only [World.cell?, hw.here]
            simp [List.getD, hget j hj])
          (fun j hj => by simp only [List.getD, hget j hj]; rfl) (fun o _ _ => hR.fresh_imm o) hnoobj (fun g e' c' h1 h2 => (hnogrp g e' c' h1 h2).elim)
        have hS4 := Stp.addImm (Stp.grew (ρ := ρ) (h := h) hgr) w.heap.size 0 s.length (fun j => ccs.getD j Go.undef) (fun o _ _ => hR.fresh_imm o) (.inl (Nat.le_refl _))
        have hend : EndAt (ρ.withImm w.heap.size 0 s.length fun j => ccs.getD j Go.undef) h w3 w.heap.size (s.length, cp) := by
          refine ⟨hb, ⟨ccs.toArray, e, (ccs.length, ccs.length + 1), hw.here, by simp [hcl], fun o _ ho => fr_free (.inr rfl) (by simpa using ho)⟩, fun o v q => ?_, hnoobj⟩
          simp only [Rho.withImm] at q
          split at q
          · rename_i hh; omega
          · rw [hR.fresh_imm] at q; cases q
        have hR5 := hR4.newGrp s.length w.heap.size (s.length, cp) hend hnogrp
        have hS5 := Stp.newGrp hR4 s.length w.heap.size (s.length, cp) (Nat.le_refl _) hS4
        have hrun : (convert src dst (.string ⟨⟨s⟩⟩)).run P w = .ok (.slice (some ⟨w.heap.size, 0, none⟩) s.length cp) w3 := by
          have hsz : (⟨⟨s⟩⟩ : ByteArray).size = s.length := rfl
          have harr : (Array.map (fun b : UInt8 => Value.int .u8 b.toNat) (⟨⟨s⟩⟩ : ByteArray).data) ++ Array.replicate (cp - s.length) (.int .u8 0) = ccs.toArray := by
            apply Array.ext'; simp [ccs]
          have hconv : (Conv.stringToBytes e ⟨⟨s⟩⟩).run P w = .ok (.slice (some ⟨w.heap.size, 0, none⟩) s.length cp) w3 := by
            simp only [Conv.stringToBytes, Sem.run_bind, run_choose, Question.forced, Bool.false_eq_true, if_false, Result.andThen_ok, hsz, hq, newRow, run_newObj, harr, Sem.run_pure]
            rw [show (markStringish ⟨w.heap.size, 0, none⟩).run P { w with drawn := w.drawn + 1, heap := w.heap.push (.cells ccs.toArray e) } = .ok () w3 from hm]
            rfl
          rw [← hconv]
          cases d <;> simp [convert, run_underlying hs, run_underlying hd, run_underlying hu]
        refine ⟨_, w3, _, hrun, ?_, hR5, hS5⟩
        have hlr : LRel ((ρ.withImm w.heap.size 0 s.length fun j => ccs.getD j Go.undef).withGrp h.next s.length (w.heap.size, s.length, cp)) (flat (s.map fun b => AV.int .u8 b.toNat)) (s.map fun b => Value.int .u8 b.toNat) := by
          have : flat (s.map fun b => AV.int .u8 b.toNat) = s.map fun b => AV.int .u8 b.toNat := by
            have := flat_ints (s.map fun b : UInt8 => (b.toNat : Int))
            rw [List.map_map] at this
            exact this
          rw [this]
          exact ⟨by simp, fun i hi hj => by simp only [List.getElem_map]; exact .int _ _⟩
        have hsz : ∀ i (hi : i < (s.map fun b => AV.int .u8 b.toNat).length), (s.map fun b => AV.int .u8 b.toNat)[i].cells.length = 1 := fun i hi => by simp [AV.cells]
        have := VRel.vsl_of hsz hlr (b := w.heap.size) (off := 0) (cap := cp) (fun k v hk => by
          obtain ⟨hk1, hk2⟩ := List.getElem?_eq_some_iff.1 hk
          simp only [List.length_map] at hk1
          rw [show ((ρ.withImm w.heap.size 0 s.length fun j => ccs.getD j Go.undef).withGrp h.next s.length (w.heap.size, s.length, cp)).imm = (ρ.withImm w.heap.size 0 s.length fun j => ccs.getD j Go.undef).imm from rfl, Rho.withImm_same _ _ _ _ _ _ hk1]
          rw [← hk2]
          simp [List.getD, hget k hk1, hk1]) (.own h.next s.length) (by simpa using hcp) (by
            right
            simp only [List.length_map, Nat.zero_add, Nat.mul_one]
            exact ⟨cp, Rho.withGrp_same _ _ _ _, by omega⟩)
        simpa using this
    · cases he
  · -- bytes that are marked once more
    rename_i a e r off len cap hs hd
    cases hx with | hsl _ _ _ _ b nn hbo hln hcap =>
    split at he
    · rename_i cs T hu hg
      split at he
      · rename_i hsd
        subst hsd
        obtain rfl : a = e := by rw [hs] at hd; simpa using hd
        simp only [Option.some.injEq, Prod.mk.injEq] at he; obtain ⟨rfl, rfl⟩ := he
        obtain ⟨ccs, fr, hbl, hl, ho, hfr⟩ := hR.obj r _ b hg hbo
        obtain ⟨w', hm, hw, _⟩ := run_markStringish (P := P) (off := off) hbl hfr
        have hR2 := hR.setObj hg trivial hbo (o' := .cells cs T) trivial hw (fun _ _ _ e => by rw [hbl] at e; simp only [Option.some.injEq, Obj.cells.injEq] at e; exact ⟨_, _, _, rfl, by rw [← e.1]⟩) ⟨ccs, _, rfl, hl, ho, .inr rfl⟩
        have hS2 := Stp.setObj (o' := .cells cs T) hg trivial hbo trivial hw
        have hx : ∀ q, (h.set r (.cells cs T)).get q = h.get q := fun q => by
          rw [AH.get_set]; split
          · rename_i e; subst e; exact hg.symm
          · rfl
        refine ⟨.slice (some ⟨b, off, none⟩) len nn, w', ρ, ?_, .hsl _ _ _ _ b nn hbo hln hcap, hR2.ext (fun q => (hx q).symm) rfl, ⟨hS2.le, hS2.next, hS2.os, hS2.tape, hS2.output, hS2.size, hS2.kept, fun k hk ho => ?_, hS2.old, hS2.imm⟩⟩
        · simp [convert, run_underlying hs, run_underlying hu, hm]
        · rcases ho with ⟨q, o, a1, a2, a3⟩ | ⟨g, e, c, a1, a2⟩
          · exact .inl ⟨q, o, a1, a2, a3⟩
          · exact .inr ⟨g, e, c, a1, a2⟩
      · cases he
    · cases he
  · -- bytes to a text
    rename_i e hs hd hni hns
    split at he
    · rename_i hu h1
      split at he
      · rename_i xs hel
        simp only [Option.map_eq_some_iff, Prod.mk.injEq] at he
        obtain ⟨s, hby, rfl, rfl⟩ := he
        obtain ⟨ns, rfl, rfl⟩ := aBytes_spec hby
        have hok : headOk 1 (ns.map (AV.int .u8)) = true := by cases ns <;> rfl
        obtain ⟨hlen, hsz, ccs, hl, ho, hfc⟩ := run_aElems (P := P) hR hel hx h1 (by omega) hok
        rw [flat_ints] at hl
        have hcs := hl.ints
        have hfin : (convert src dst cx).run P w = (Conv.bytesToString cx).run P w := by
          cases hx <;> first
            | (simp [convert, run_underlying hs, run_underlying hd, run_underlying hu]; done)
            | exact (hns _ rfl).elim
            | (simp [aElems] at hel; done)
        have hstr : (ns.foldl (fun r n => r.push (UInt8.ofNat n.toNat)) ByteArray.empty) = ⟨⟨ns.map fun n => UInt8.ofNat n.toNat⟩⟩ := by
          rw [foldl_push_bytes]; rfl
        refine Gd.pure hR ⟨.string ⟨⟨ns.map fun n => UInt8.ofNat n.toNat⟩⟩, ?_, .str _⟩
        rw [hfin]
        have hall := hfc ns.length (by simp)
        rw [List.take_of_length_le (by rw [hcs]; simp), hcs] at hall
        simp only [List.length_map] at hlen
        have slc : ∀ (a : Addr) (len cap : Nat), cx = .slice (some a) len cap → (Conv.bytesToString cx).run P w = .ok (.string ⟨⟨ns.map fun n => UInt8.ofNat n.toNat⟩⟩) w := by
          rintro a len cap rfl
          have hln : len = ns.length := by
            simp only [Builtin.lenOf, Sem.run_pure, Result.ok.injEq, and_true] at hlen; exact hlen
          subst hln
          rw [run_bytesToString (P := P) w a ns.length cap ns (by simpa [Builtin.firstCells] using hall), hstr]
        cases hx with
        | nilsl =>
          have : ns = [] := by simpa [aElems] using hel
          subst this; rfl
        | vsl xs cap b off n s f h1 h2 h3 h4 h5 => exact slc _ _ _ rfl
        | hsl r off len cap b n h1 h2 h3 => exact slc _ _ _ rfl
        | str l => exact (hns _ rfl).elim
        | _ => simp [aElems] at hel
      · cases he
    · cases he
  · cases he
end Go.Sk

/-
  Arguments as the rows read them: lists of bytes.
-/
import Derived.Test.YtpepjbbbaolheaaGreatSkRow
import Derived.Test.YtpepjbbbaolheaaGreatSkX5
import Derived.ChangeSlices
import Derived.WideShapes
namespace Go.Sk
open Go.RowKit Go.ChangeShapes Go.WideShapes

section
variable {H : Type} {enc : TypeId × Value → H} {P : Program} {w : World} {base : Nat}

theorem open_bytes {sp : Nat → Bool} {held : Bool} {r : Reach} {b0 : Nat} {t e : TypeId} {v : Value} {d : DataW H} {ps : List MemPlace} (ht : P.underlying t = some (.slice e)) (he : P.underlying e = some (.int .u8)) (hc : P.cellsOf e = 1)
    (hval : Value.okWide P w r b0 t v) (hd : DataW.Trod enc P w base sp held t v d ps) :
    ∃ x, VRel (rho0 w) x v ∧ (x = .nilsl ∨ ∃ s c, x = .vsl (bytesV s) c) := by
  obtain ⟨a, len, cap, rfl⟩ := okWide_slice ht hval
  obtain ⟨fuel, hf⟩ := hd
  rcases open_ints ht he hc hf with ⟨h1, _⟩ | ⟨a', len', cap', zs, h1, hb, hl, hm, hz, hx, hcell, hwf⟩
  · have : Value.slice a len cap = .slice none 0 0 := by simpa [Value.cells] using h1
    rw [this]
    exact ⟨.nilsl, .nilsl, .inl rfl⟩
  · have : Value.slice a len cap = .slice (some a') len' cap' := by simpa [Value.cells] using h1
    rw [this] at hval ⊢
    have hspot : a'.spot = none := by
      simp only [Value.okWide, ht, Cell.okWide, Cell.ok] at hval
      exact hval.2.2.2.1
    obtain ⟨b, off, spot⟩ := a'
    simp only at hspot; subst hspot
    have hlz : len' ≤ zs.length := by rw [hz]; split <;> omega
    have hbs : bytesV ((zs.take len').map fun n => UInt8.ofNat n.toNat) = (zs.take len').map (AV.int .u8) := by
      simp only [bytesV, List.map_map]
      apply List.map_congr_left
      intro n hn
      have := hwf n (List.mem_of_mem_take hn)
      simp [Lit.wf, IntKind.min, IntKind.max, IntKind.bits, IntKind.signed] at this
      simp only [Function.comp, AV.int.injEq, true_and]
      have h2 : (UInt8.ofNat n.toNat).toNat = n.toNat := by
        rw [UInt8.toNat_ofNat']
        omega
      rw [h2]; omega
    refine ⟨.vsl (bytesV ((zs.take len').map fun n => UInt8.ofNat n.toNat)) .unk, ?_, .inr ⟨_, _, rfl⟩⟩
    rw [hbs]
    have hlen : ((zs.take len').map (AV.int .u8)).length = len' := by simp; omega
    have key : VRel (rho0 w) (.vsl ((zs.take len').map (AV.int .u8)) .unk) (.slice (some ⟨b, off, none⟩) ((zs.take len').map (AV.int .u8)).length cap') := by
      refine .vsl _ .unk b off cap' 1 (fun i _ => .int .u8 (zs.getD i 0)) (fun i hi => by simp; rfl) (fun i j hi hj => ?_) (fun i hi j hj => ?_) (by rw [hlen]; exact hl) trivial
      · rw [hlen] at hi
        have hc := hcell i (by omega)
        have ha : (Addr.mk b off none).add i = ⟨b, off + i, none⟩ := by
          unfold Addr.add; split
          · rename_i h0; subst h0; rfl
          · rfl
        rw [ha] at hc
        have hj0 : j = 0 := by omega
        subst hj0
        rw [rho0_imm]
        exact ⟨by rw [Nat.mul_one, Nat.add_zero]; exact hc, rfl⟩
      · rw [hlen] at hi
        have hj0 : j = 0 := by
          simp [AV.cells] at hj; exact hj
        subst hj0
        have e1 : ((zs.take len').map (AV.int .u8))[i].cells[0]'hj = .int .u8 (zs.getD i 0) := by
          simp [AV.cells, List.getD_eq_getElem?_getD, show i < zs.length by omega]
        rw [e1]
        exact .int ..
    rw [hlen] at key; exact key

end
end Go.Sk

/-
  Contracts whose answers are lists, texts in lists, structures of such: cells that nobody will write any more.
-/
import Derived.Test.YtfhgobimlckfeaaGreatDoorSkX1
namespace Go.Sk

/-- What is known here, and of the new blocks what was known there. -/
def Rho.join (ρ ρ1 : Rho) (n : Nat) : Rho := { ρ with imm := fun b o => if b < n then ρ.imm b o else ρ1.imm b o }

theorem Rel.imm_lt {ρ : Rho} {h : AH} {w : World} (hR : Rel ρ h w) {b o : Nat} {v : Value} (he : ρ.imm b o = some v) : b < w.heap.size := by
  have := hR.imm b o v he
  unfold World.cell? at this
  rcases Nat.lt_or_ge b w.heap.size with q | q
  · exact q
  · simp only [Array.getElem?_eq_none q] at this; cases this

theorem Rho.le_join {ρ ρ1 : Rho} {h : AH} {w : World} (hR : Rel ρ h w) : ρ.le (ρ.join ρ1 w.heap.size) :=
  ⟨rfl, fun _ _ h => h, fun _ _ _ h => h, fun b o v he => by
    simp only [Rho.join]
    rw [if_pos (hR.imm_lt he)]; exact he, fun _ _ h => h⟩

theorem Rel.join {ρ ρ1 : Rho} {h h1 : AH} {w w1 : World} (hR0 : Rel ρ h w) (hg : Grew w w1) (hR1 : Rel ρ1 h1 w1) : Rel (ρ.join ρ1 w.heap.size) h w1 := by
  have hR := hR0.grew hg
  have hle := Rho.le_join (ρ1 := ρ1) hR0
  constructor
  · intro r o b h1 h2; exact (hR.obj r o b h1 h2).mono hle
  · exact hR.bound
  · exact hR.inj
  · exact hR.dom
  · intro g e b c h1 h2
    obtain ⟨p1, p2, p3, p4⟩ := hR.grp g e b c h1 h2
    refine ⟨p1, p2, fun o v q => ?_, p4⟩
    have hlt : b < w.heap.size := (hR0.gdom g e _ h2).2
    simp only [Rho.join, if_pos hlt] at q
    exact p3 o v q
  · exact hR.gdom
  · exact hR.gver
  · exact hR.gone
  · exact hR.ginj
  · intro b o v q
    simp only [Rho.join] at q
    split at q
    · exact hR.imm b o v q
    · exact hR1.imm b o v q
  · intro b o v q
    simp only [Rho.join] at q
    split at q
    · exact hR.one b o v q
    · exact hR1.one b o v q
  · intro b o v r q h1
    have hlt : b < w.heap.size := (hR0.bound r b h1).2.1
    simp only [Rho.join, if_pos hlt] at q
    exact hR.immo b o v r q h1
  · exact hR.siz
  · exact hR.glob

theorem Stp.join {ρ ρ1 : Rho} {h : AH} {w w1 : World} (hR0 : Rel ρ h w) (hg : Grew w w1) : Stp ρ h w (ρ.join ρ1 w.heap.size) h w1 where
  le := Rho.le_join hR0
  next := Nat.le_refl _
  os := hg.os
  tape := hg.tape
  output := hg.output
  size := hg.size
  kept := fun k hk _ => hg.block k hk
  own := fun _ _ h => h
  old := fun _ _ _ e => e
  imm := fun b o v hb e => by
    simp only [Rho.join, if_pos hb] at e
    exact .inl e

end Go.Sk


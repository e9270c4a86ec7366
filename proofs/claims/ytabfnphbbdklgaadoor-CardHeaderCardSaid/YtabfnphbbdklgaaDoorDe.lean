/-
  A call that reads blocks of the memory that can be written, and leaves them as they were.
-/
import Derived.Test.YtabfnphbbdklgaaDoorDd
set_option linter.unusedVariables false
set_option linter.unusedSimpArgs false
namespace Go.R
open Go Go.RowKit
theorem Rel.still {B : Base} {ρ : Rho} {σ : List Blk} {w w' : World} (h : Rel B ρ σ w) (T : Nat → Prop) (hT : ∀ j, T j → ∃ x, σ[j]? = some x ∧ x.rw = true ∧ x.At ρ j w')
    (hk : Keeps (fun a => ∃ j, T j ∧ a = (ρ j).1) w w') : Rel B ρ σ w' := by
  have hlive : ∀ {x : Blk}, x.rw = true → x.live = true := fun {x} hx => by cases x <;> simp_all [Blk.rw, Blk.live]
  refine ⟨fun j x hx => ?_, fun j x hx hl => Nat.lt_of_lt_of_le (h.lt j x hx hl) hk.size, h.inj, h.sc, h.wr, ?_⟩
  · by_cases hj : T j
    · obtain ⟨y, hy, _, hat⟩ := hT j hj
      rw [hy] at hx; cases hx; exact hat
    · exact (h.at_ j x hx).congr (h.sc j x hx) (fun _ _ => rfl) rfl (fun hl => hk.block _ (h.lt j x hx hl) (fun ⟨i, hi, he⟩ => by
        obtain ⟨y, hy, hrw, _⟩ := hT i hi
        have := h.inj j i x y hx hy hl (hlive hrw) (.inr hrw) he
        subst this; exact hj hi))
  · refine ⟨hk.os.trans h.keeps.os, hk.tape.trans h.keeps.tape, hk.output.trans h.keeps.output, Nat.le_trans h.keeps.size hk.size, fun k hk' hs => ?_⟩
    rw [← h.keeps.block k hk' hs]
    refine hk.block k (Nat.lt_of_lt_of_le hk' h.keeps.size) (fun ⟨i, hi, he⟩ => ?_)
    obtain ⟨y, hy, hrw, _⟩ := hT i hi
    rcases h.wr i y hy hrw with h1 | h1
    · exact hs (he ▸ h1)
    · omega
/-- two blocks, seen from a callee -/
theorem Rel.two {B : Base} {ρ : Rho} {σ : List Blk} {w : World} (h : Rel B ρ σ w) {c b : Nat} {x y x' y' : Blk} (hc : σ[c]? = some x) (hb : σ[b]? = some y) (hne : c ≠ b) (lx : x.live = true) (ly : y.live = true) (rx : x.rw = true ∨ y.rw = true) {ρ' : Rho} (h0 : ρ' 0 = ρ c) (h1 : ρ' 1 = ρ b)
    (ax : x'.At ρ' 0 w) (ay : y'.At ρ' 1 w) (sx : x'.sc 2 = true) (sy : y'.sc 2 = true) : Rel ⟨w, fun a => a = (ρ c).1 ∨ a = (ρ b).1⟩ ρ' [x', y'] w := by
  have one : ∀ (i : Nat) (z : Blk), [x', y'][i]? = some z → (i = 0 ∧ z = x') ∨ (i = 1 ∧ z = y') := by
    intro i z hz
    match i with
    | 0 => simp at hz; exact .inl ⟨rfl, hz.symm⟩
    | 1 => simp at hz; exact .inr ⟨rfl, hz.symm⟩
    | i + 2 => simp at hz
  have hcb : (ρ c).1 ≠ (ρ b).1 := fun e => hne (h.inj c b x y hc hb lx ly rx e)
  refine ⟨fun i z hz => ?_, fun i z hz _ => ?_, fun i j zi zj hi hj _ _ _ he => ?_, fun i z hz => ?_, fun i z hz _ => ?_, Keeps.refl _ _⟩
  · rcases one i z hz with ⟨rfl, rfl⟩ | ⟨rfl, rfl⟩ <;> assumption
  · rcases one i z hz with ⟨rfl, rfl⟩ | ⟨rfl, rfl⟩
    · rw [h0]; exact h.lt c x hc lx
    · rw [h1]; exact h.lt b y hb ly
  · rcases one i zi hi with ⟨rfl, _⟩ | ⟨rfl, _⟩ <;> rcases one j zj hj with ⟨rfl, _⟩ | ⟨rfl, _⟩
    · rfl
    · rw [h0, h1] at he; exact absurd he hcb
    · rw [h0, h1] at he; exact absurd he.symm hcb
    · rfl
  · rcases one i z hz with ⟨rfl, rfl⟩ | ⟨rfl, rfl⟩ <;> assumption
  · rcases one i z hz with ⟨rfl, rfl⟩ | ⟨rfl, rfl⟩
    · exact .inl (.inl (by rw [h0]))
    · exact .inl (.inr (by rw [h1]))
end Go.R
namespace Go.Proofs.YtabfnphbbdklgaaDoor
open Go Go.R
noncomputable def evBy (kd p q : Int) (g : Nat → Int) : Option V := evCallH Tryd.prog [] [] 60 11 [.ptr 0 0, .int .i64 p, .int .i64 q] [.cells 48 [.own 1 16384, .int .i64 kd], .own 5 .u8 1 16384 g] (fun v σ => bif Nat.beq σ.length 2 then some v else none)
end Go.Proofs.YtabfnphbbdklgaaDoor

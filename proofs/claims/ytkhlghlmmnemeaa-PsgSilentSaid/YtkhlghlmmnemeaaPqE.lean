import Derived.Test.YtkhlghlmmnemeaaPqD
set_option linter.unusedVariables false
set_option linter.unusedSimpArgs false
namespace Go.Proofs.Ytkhlghlmmnemeaa
open Go Go.R
/-- a voice of a sound goes on: the sound, a step on in that channel -/
def vGood (f : Nat → Int) (k : Nat) (o : Nat) (t : Int) (nz : Bool) : Bool := okP f && (Nat.ble (k + 1) 6 && (Nat.beq o (4 + k * 40) && (t == tkF f k && nz == nzF f k)))
def sOn : Summ Try.prog := mkLocal 39 (fun args blk => match args, blk with | [.agg [.int .i64 t, .ptr 0 o, .bool nz]], .ints 32 .i64 244 f => some (vGood f ((o - 4) / 40) o t nz, .tup [], .ints 32 .i64 244 (stepF f ((o - 4) / 40))) | _, _ => none) (by
  intro args blk v blk' h; split at h
  · simp only [Option.some.injEq, Prod.mk.injEq, vGood, Bool.and_eq_true, beq_iff_eq, Nat.ble_eq] at h; obtain ⟨⟨h1, h2, h3, h4, h5⟩, rfl, rfl⟩ := h
    rename_i t o nz f
    have ho := Nat.eq_of_beq_eq_true h3
    generalize (o - 4) / 40 = k at h2 ho h4 h5 ⊢
    subst ho
    have g := tGood_ok h1 (k := k) (by omega)
    simp only [tGood, Bool.and_eq_true, decide_eq_true_eq, inB_iff] at g
    obtain ⟨g1, g2, g3, g4, g5⟩ := g
    rw [← h4] at g2
    refine ⟨rfl, rfl, rfl, rfl, rfl, local_of (Γ := [Nz.sJump, sSteps]) (H := []) (n := 300) (g := fun σ => σ.take 1) (fun σ => by cases σ <;> rfl) rfl ?_⟩
    refine (turn_eq nz g1 g2 g3.1 g3.2 g4.1 g4.2 g5.1 g5.2).trans ?_
    rw [h4, h5]; rfl
  · cases h)
end Go.Proofs.Ytkhlghlmmnemeaa

import Derived.Test.YtkhlghlmmnemeaaPsC
import Derived.Test.YtkhlghlmmnemeaaPsE
set_option linter.unusedVariables false
set_option linter.unusedSimpArgs false
namespace Go.Proofs.Ytkhlghlmmnemeaa
open Go Go.R
theorem mod256 (n : Int) : evCall Try.prog [] 300 29 [.int .i64 n] [] (fun v _ => some v) = some (.int .i64 (n % 256)) := by
  rw [rbyte_ev]
  have h1 : n.tmod 256 = if 0 ≤ n ∨ (256 : Int) ∣ n then n % 256 else n % 256 - 256 := by rw [Int.tmod_eq_emod]; split <;> omega
  by_cases h : 0 ≤ n ∨ (256 : Int) ∣ n
  · rw [if_pos h] at h1
    rw [decide_eq_false (by omega), cond_false, h1]
  · rw [if_neg h] at h1
    rw [decide_eq_true (by omega), cond_true, h1, wrap_id (by omega) (by omega)]
    congr 3; omega
def sByte : Summ Try.prog := mkPure [] hN hM 27 300 (fun args => match args with | [.int .i64 n] => some (true, .int .i64 (n % 256)) | _ => none) (by
  intro args v h; split at h
  · simp only [Option.some.injEq, Prod.mk.injEq, true_and] at h; subst h; exact ⟨rfl, rfl, _, (byte_ev _).trans (by rw [and_m8])⟩
  · cases h)
def sRByte : Summ Try.prog := mkPure [] hN hM 29 300 (fun args => match args with | [.int .i64 n] => some (true, .int .i64 (n % 256)) | _ => none) (by
  intro args v h; split at h
  · simp only [Option.some.injEq, Prod.mk.injEq, true_and] at h; subst h; exact ⟨rfl, rfl, _, mod256 _⟩
  · cases h)
/-- the cells of a sound, and nothing else -/
def cut (f : Nat → Int) : Nat → Int := fun j => upd (fun j => 0) 0 244 (fun j => f (0 + j)) (0 + j)
theorem cut_in (f : Nat → Int) {j : Nat} (h : j < 244) : cut f j = f j := by
  unfold cut upd
  rw [Nat.zero_add, show (Nat.ble 0 j && Nat.ble (j + 1) (0 + 244)) = true by simp; omega, cond_true, Nat.sub_zero]
  show f (0 + j) = f j
  rw [Nat.zero_add]
theorem cut_out (f : Nat → Int) {j : Nat} (h : 244 ≤ j) : cut f j = 0 := by
  unfold cut upd
  rw [Nat.zero_add, show (Nat.ble 0 j && Nat.ble (j + 1) (0 + 244)) = false by
    cases hb : (Nat.ble 0 j && Nat.ble (j + 1) (0 + 244)) with
    | false => rfl
    | true => simp at hb; omega]
  rfl
theorem cut_congr {f g : Nat → Int} (h : ∀ j, j < 244 → f j = g j) : cut f = cut g := by
  funext j
  by_cases hj : j < 244
  · rw [cut_in f hj, cut_in g hj, h j hj]
  · rw [cut_out f (by omega), cut_out g (by omega)]
theorem cut_cut (f : Nat → Int) : cut (cut f) = cut f := cut_congr fun j hj => cut_in f hj
end Go.Proofs.Ytkhlghlmmnemeaa

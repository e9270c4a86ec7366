/-
  The laws OpcodeBits and OpcodeModes: what they come to is true.
-/
import Derived.Test.YtnemecmloeonjaaOb
set_option linter.unusedVariables false
set_option linter.unusedSimpArgs false
namespace Go.Proofs.Ytnemecmloeonjaa
open Go Go.R
theorem by8_of (b : Nat) (h : b < 256) : by8 (b : Int) = b := by unfold by8; omega
theorem by8_byte (a : Int) : by8 (bitI .and .i64 a 255) = by8 a := by rw [and255, by8_of _ (by8_lt a)]
theorem sEq_self (x : ByteArray) : sEq x x = true := (sEq_iff x x).2 rfl
/-- the length of a mode -/
def lenOf (m : Int) : Int := ([1, 1, 2, 2, 2, 2, 2, 2, 2, 3, 3, 3, 3, 3, 2, 3, 7, 3, 3, 4, 4] : List Int).getD m.toNat 0
theorem tab_fits : (List.range 256).all (fun k => ln k == lenOf (md k) && (decide (md k ≥ 0) && decide (md k ≤ 20))) = true := by decide +kernel
theorem tab_fit (k : Nat) (h : k < 256) : ln k = lenOf (md k) ∧ md k ≥ 0 ∧ md k ≤ 20 := by
  have := List.all_eq_true.1 tab_fits k (List.mem_range.2 h)
  simpa using this
theorem opcodeModes_ok (a : Int) (wa : IntKind.i64.has a) (b : Int) (wb : IntKind.i64.has b) : evCall Try.prog [sOf] 60 4 [.int .i64 a, .int .i64 b] [] asB = some true := by
  obtain ⟨l1, g1, g2⟩ := tab_fit _ (by8_lt a)
  obtain ⟨l2, _, _⟩ := tab_fit _ (by8_lt b)
  rw [modes_ev, by8_byte, sEq_self]
  simp only [beq_self_eq_true, Bool.and_true, cond_true, decide_eq_true g1, decide_eq_true g2, l1, l2]
  by_cases h : md (by8 a) = md (by8 b)
  · rw [h]; simp
  · rw [bne_iff_ne.2 h]; simp
theorem and7 (d : Int) : bitI .and .i64 d 7 = d % 8 := by
  rw [bitI_and, show u64 7 = 7 by decide, show (7 : Nat) = 2 ^ 3 - 1 by decide, Nat.and_two_pow_sub_one_eq_mod, u64_nmod d (by decide), wrap_id (by omega) (by omega)]
  omega
theorem opcodeBits_ok (d : Int) (wd : IntKind.i64.has d) : evCallH Try.prog [sOf] [(9, .int .i64 (d % 8))] 60 3 [.int .i64 d] [] asB = some true := by
  have h := and7 d
  have hc : d % 8 = 0 ∨ d % 8 = 1 ∨ d % 8 = 2 ∨ d % 8 = 3 ∨ d % 8 = 4 ∨ d % 8 = 5 ∨ d % 8 = 6 ∨ d % 8 = 7 := by omega
  rcases hc with e | e | e | e | e | e | e | e <;> rw [e] at h ⊢
  · rw [bits0_ev, h]; rfl
  · rw [bits1_ev, h]; rfl
  · rw [bits2_ev, h]; rfl
  · rw [bits3_ev, h]; rfl
  · rw [bits4_ev, h]; rfl
  · rw [bits5_ev, h]; rfl
  · rw [bits6_ev, h]; rfl
  · rw [bits7_ev, h]; rfl
end Go.Proofs.Ytnemecmloeonjaa

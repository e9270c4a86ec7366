/-
  The law CardTells: what it comes to is true.
-/
import Derived.Test.YtabfnphbbdklgaaDoorDf
set_option linter.unusedVariables false
set_option linter.unusedSimpArgs false
namespace Go.Proofs.YtabfnphbbdklgaaDoor
open Go Go.R
def ownF (g : Nat → Int) : Nat → Int := fun j => upd (fun j => toI (List.getD [] j V.nil)) 0 16384 (fun j => g (0 + j)) j
def tellT (g : Nat → Int) (b : Int) : Option Bool :=
  cond (inR b 16384) (cond (Nat.ble (0 + scaled b 1 + 1) 16384) (cond (byteV (ownF g) (b.fdiv 8192) (bitI .and .i64 b 8191) == wr .i64 (g (0 + scaled b 1))) (some true) (some false)) none) none
theorem tells_sl_ev (off len cap : Nat) (f : Nat → Int) (a : Int) : evCallH Tryd.prog [sImage, sAs, sByte] [] 100 5 [.sl 0 off len cap, .int .i64 a] [.ro .u8 off (off + cap) f] asB =
  cond (Nat.ble off off && (Nat.ble (off + len) (off + cap) && Nat.ble len cap)) (tellT (gS (if len = 0 then F0 else FB 0 len (fun j => f (off + j))) 16384) (bitI .and .i64 a 16383)) none := by kernel_rfl
theorem tells_nil_ev (a : Int) : evCallH Tryd.prog [sImage, sAs, sByte] [] 100 5 [.nilsl, .int .i64 a] [] asB = tellT (gS (if 0 = 0 then F0 else FB 0 0 (fun _ => 0)) 16384) (bitI .and .i64 a 16383) := by kernel_rfl
theorem and_m14 (a : Int) : bitI .and .i64 a 16383 = a % 16384 := by
  rw [bitI_and, show u64 16383 = 16383 by decide, show (16383 : Nat) = 2 ^ 14 - 1 by decide, Nat.and_two_pow_sub_one_eq_mod, u64_nmod a (by decide), wrap_id (by omega) (by omega)]
  omega
theorem and_m13 (a : Int) : bitI .and .i64 a 8191 = a % 8192 := by
  rw [bitI_and, show u64 8191 = 8191 by decide, show (8191 : Nat) = 2 ^ 13 - 1 by decide, Nat.and_two_pow_sub_one_eq_mod, u64_nmod a (by decide), wrap_id (by omega) (by omega)]
  omega
theorem tellT_true (g : Nat → Int) (a : Int) : tellT g (bitI .and .i64 a 16383) = some true := by
  obtain ⟨x, hx⟩ := Int.eq_ofNat_of_zero_le (show 0 ≤ a % 16384 by omega)
  have hlt : x < 16384 := by omega
  rw [and_m14, hx]
  unfold tellT
  rw [scaled1, show inR ((x : Nat) : Int) 16384 = true by simp only [inR, Bool.and_eq_true, decide_eq_true_eq]; omega, Nat.ble_eq_true_of_le (show x + 1 ≤ 16384 by omega), and_m13, fdiv_pos _ (by omega)]
  have hb : byteV (ownF g) ((x : Int) / 8192) ((x : Int) % 8192) = wr .i64 (g x) := by
    unfold byteV
    rw [decide_eq_false (show ¬ (x : Int) / 8192 < 0 by omega), decide_eq_false (show ¬ (x : Int) / 8192 ≥ 2 by omega), decide_eq_false (show ¬ (x : Int) % 8192 < 0 by omega), decide_eq_false (show ¬ (x : Int) % 8192 ≥ 8192 by omega)]
    rw [show ((x : Int) / 8192 * 8192 + (x : Int) % 8192).toNat = x by omega]
    simp only [cond_false]
    congr 1
    unfold ownF upd
    rw [Nat.ble_eq_true_of_le (Nat.zero_le x), Nat.ble_eq_true_of_le (show x + 1 ≤ 0 + 16384 by omega)]
    simp
  rw [hb]
  simp
theorem cardTells_nil (a : Int) (wa : IntKind.i64.has a) : evCallH Tryd.prog [sImage, sAs, sByte] [] 100 5 [.nilsl, .int .i64 a] [] asB = some true := by rw [tells_nil_ev, tellT_true]
theorem cardTells_sl (a : Int) (wa : IntKind.i64.has a) (off len cap : Nat) (f : Nat → Int) (hl : len ≤ cap) (hm : cap ≤ maxLen) (hb : ∀ j, 0 ≤ f j ∧ f j < 256) :
    evCallH Tryd.prog [sImage, sAs, sByte] [] 100 5 [.sl 0 off len cap, .int .i64 a] [.ro .u8 off (off + cap) f] asB = some true := by
  rw [tells_sl_ev, tellT_true, Nat.ble_eq_true_of_le (Nat.le_refl off), Nat.ble_eq_true_of_le (show off + len ≤ off + cap by omega), Nat.ble_eq_true_of_le hl]
  rfl
end Go.Proofs.YtabfnphbbdklgaaDoor

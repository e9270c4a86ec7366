/-
  The law CardLoads, at the numbers of bytes that are cards: its rows.
-/
import Derived.Test.YtabfnphbbdklgaaDoorDq
set_option linter.unusedVariables false
set_option linter.unusedSimpArgs false
namespace Go.Proofs.YtabfnphbbdklgaaDoor
open Go Go.R
def ownG (m h : Nat) (g : Nat → Int) : Nat → Int := fun j => upd (fun j => toI (List.getD [] j V.nil)) 0 m (fun j => g (h + j)) j
def idx (h p q : Int) : Int := wr .i64 (wr .i64 (h + wr .i64 (p * 8192)) + q)
def ldT (n m h : Nat) (hi P : Int) (F : Nat → Int) (p q : Int) : Option Bool :=
  cond (decide (p ≥ 0)) (cond (decide (p < P)) (cond (decide (q ≥ 0)) (cond (decide (q < 8192)) (cond (inR (idx hi p q) n) (cond ((0 + scaled (idx hi p q) 1 + 1).ble n) (some (byteN m (ownG m h (gS F n)) p q == wr .i64 (gS F n (0 + scaled (idx hi p q) 1)))) none) none)
    (some (byteN m (ownG m h (gS F n)) p q == 255))) (some (byteN m (ownG m h (gS F n)) p q == 255))) (some (byteN m (ownG m h (gS F n)) p q == 255))) (some (byteN m (ownG m h (gS F n)) p q == 255))
theorem ldT_true (n m h : Nat) (hi P : Int) (F : Nat → Int) (p q : Int) (e1 : hi = (h : Int)) (e2 : n = m + h) (e3 : (m : Int) = P * 8192) (hP : 0 ≤ P ∧ P ≤ 1000) (hh : h ≤ 512) (hp : -9223372036854775808 ≤ p ∧ p ≤ 9223372036854775807) (hq : -9223372036854775808 ≤ q ∧ q ≤ 9223372036854775807) : ldT n m h hi P F p q = some true := by
  have hm : (m : Int) / 8192 = P := by omega
  have hb : (p < 0 ∨ p ≥ P ∨ q < 0 ∨ q ≥ 8192) → byteN m (ownG m h (gS F n)) p q = 255 := by
    intro h
    unfold byteN
    rw [hm]
    by_cases h1 : p < 0
    · rw [decide_eq_true h1]; rfl
    by_cases h2 : p ≥ P
    · rw [decide_eq_false h1, decide_eq_true h2]; rfl
    by_cases h3 : q < 0
    · rw [decide_eq_false h1, decide_eq_false h2, decide_eq_true h3]; rfl
    · rw [decide_eq_false h1, decide_eq_false h2, decide_eq_false h3, decide_eq_true (show q ≥ 8192 by omega)]; rfl
  unfold ldT
  by_cases h1 : p ≥ 0
  · rw [decide_eq_true h1]
    by_cases h2 : p < P
    · rw [decide_eq_true h2]
      by_cases h3 : q ≥ 0
      · rw [decide_eq_true h3]
        by_cases h4 : q < 8192
        · rw [decide_eq_true h4]
          have hid : idx hi p q = ((h + (p * 8192 + q).toNat : Nat) : Int) := by
            unfold idx
            rw [wrap_id (show -9223372036854775808 ≤ p * 8192 by omega) (by omega), wrap_id (show -9223372036854775808 ≤ hi + p * 8192 by omega) (by omega), wrap_id (show -9223372036854775808 ≤ hi + p * 8192 + q by omega) (by omega)]
            omega
          have hlt : (p * 8192 + q).toNat < m := by omega
          rw [hid, scaled1]
          generalize hk : (p * 8192 + q).toNat = k at hlt
          rw [show inR ((h + k : Nat) : Int) n = true by simp only [inR, Bool.and_eq_true, decide_eq_true_eq]; omega, Nat.ble_eq_true_of_le (show h + k + 1 ≤ n by omega)]
          have : byteN m (ownG m h (gS F n)) p q = wr .i64 (gS F n (h + k)) := by
            unfold byteN
            rw [hm, decide_eq_false (show ¬ p < 0 by omega), decide_eq_false (show ¬ p ≥ P by omega), decide_eq_false (show ¬ q < 0 by omega), decide_eq_false (show ¬ q ≥ 8192 by omega), hk]
            simp only [cond_false]
            unfold ownG upd
            rw [Nat.ble_eq_true_of_le (Nat.zero_le k), Nat.ble_eq_true_of_le (show k + 1 ≤ 0 + m by omega)]
            simp
          rw [this]
          simp
        · rw [decide_eq_false h4, hb (by omega)]; rfl
      · rw [decide_eq_false h3, hb (by omega)]; rfl
    · rw [decide_eq_false h2, hb (by omega)]; rfl
  · rw [decide_eq_false h1, hb (by omega)]; rfl
theorem ldB8192_0 (a : Int) (at' : Nat → Int) : evCallH Tryd.prog [sImageN, sAsH, sByteN, sClass, sRClass] [(19, .int .i64 8192)] 100 3 [.int .i64 a, .nilsl, .aggi .i64 2 at'] [.glob 0 errT] asB =
  cond (bitI .and .i64 a 262143 == 8192) (ldT 8192 8192 0 0 1 (imF 0 fun _ => 0) (at' 0) (at' 1)) none := by kernel_rfl
theorem ldB8192_1 (a : Int) (at' : Nat → Int) (off len cap hi : Nat) (f : Nat → Int) : evCallH Tryd.prog [sImageN, sAsH, sByteN, sClass, sRClass] [(19, .int .i64 8192), (22, .bool true)] 100 3 [.int .i64 a, .sl 1 off len cap, .aggi .i64 2 at'] [.glob 0 errT, .ro .u8 off hi f] asB =
  cond (bitI .and .i64 a 262143 == 8192) (cond (decide ((len : Int) > 50) == true) (cond (decide (0 ≤ 50) && decide (50 ≤ (cap : Int))) (cond (off.ble off && ((off + 50).ble hi && Nat.ble 50 (cap - 0))) (ldT 8192 8192 0 0 1 (imF 50 fun j => f (off + j)) (at' 0) (at' 1)) none) none) none) none := by kernel_rfl
theorem ldB8192_2 (a : Int) (at' : Nat → Int) (off len cap hi : Nat) (f : Nat → Int) : evCallH Tryd.prog [sImageN, sAsH, sByteN, sClass, sRClass] [(19, .int .i64 8192), (22, .bool false)] 100 3 [.int .i64 a, .sl 1 off len cap, .aggi .i64 2 at'] [.glob 0 errT, .ro .u8 off hi f] asB =
  cond (bitI .and .i64 a 262143 == 8192) (cond (decide ((len : Int) > 50) == false) (cond (off.ble off && ((off + len).ble hi && len.ble cap)) (ldT 8192 8192 0 0 1 (imF len fun j => f (off + j)) (at' 0) (at' 1)) none) none) none := by kernel_rfl
theorem ldB8704_0 (a : Int) (at' : Nat → Int) : evCallH Tryd.prog [sImageN, sAsH, sByteN, sClass, sRClass] [(19, .int .i64 8704)] 100 3 [.int .i64 a, .nilsl, .aggi .i64 2 at'] [.glob 0 errT] asB =
  cond (bitI .and .i64 a 262143 == 8704) (ldT 8704 8192 512 512 1 (imF 0 fun _ => 0) (at' 0) (at' 1)) none := by kernel_rfl
theorem ldB8704_1 (a : Int) (at' : Nat → Int) (off len cap hi : Nat) (f : Nat → Int) : evCallH Tryd.prog [sImageN, sAsH, sByteN, sClass, sRClass] [(19, .int .i64 8704), (22, .bool true)] 100 3 [.int .i64 a, .sl 1 off len cap, .aggi .i64 2 at'] [.glob 0 errT, .ro .u8 off hi f] asB =
  cond (bitI .and .i64 a 262143 == 8704) (cond (decide ((len : Int) > 50) == true) (cond (decide (0 ≤ 50) && decide (50 ≤ (cap : Int))) (cond (off.ble off && ((off + 50).ble hi && Nat.ble 50 (cap - 0))) (ldT 8704 8192 512 512 1 (imF 50 fun j => f (off + j)) (at' 0) (at' 1)) none) none) none) none := by kernel_rfl
theorem ldB8704_2 (a : Int) (at' : Nat → Int) (off len cap hi : Nat) (f : Nat → Int) : evCallH Tryd.prog [sImageN, sAsH, sByteN, sClass, sRClass] [(19, .int .i64 8704), (22, .bool false)] 100 3 [.int .i64 a, .sl 1 off len cap, .aggi .i64 2 at'] [.glob 0 errT, .ro .u8 off hi f] asB =
  cond (bitI .and .i64 a 262143 == 8704) (cond (decide ((len : Int) > 50) == false) (cond (off.ble off && ((off + len).ble hi && len.ble cap)) (ldT 8704 8192 512 512 1 (imF len fun j => f (off + j)) (at' 0) (at' 1)) none) none) none := by kernel_rfl
theorem ldB16384_0 (a : Int) (at' : Nat → Int) : evCallH Tryd.prog [sImageN, sAsH, sByteN, sClass, sRClass] [(19, .int .i64 16384)] 100 3 [.int .i64 a, .nilsl, .aggi .i64 2 at'] [.glob 0 errT] asB =
  cond (bitI .and .i64 a 262143 == 16384) (ldT 16384 16384 0 0 2 (imF 0 fun _ => 0) (at' 0) (at' 1)) none := by kernel_rfl
theorem ldB16384_1 (a : Int) (at' : Nat → Int) (off len cap hi : Nat) (f : Nat → Int) : evCallH Tryd.prog [sImageN, sAsH, sByteN, sClass, sRClass] [(19, .int .i64 16384), (22, .bool true)] 100 3 [.int .i64 a, .sl 1 off len cap, .aggi .i64 2 at'] [.glob 0 errT, .ro .u8 off hi f] asB =
  cond (bitI .and .i64 a 262143 == 16384) (cond (decide ((len : Int) > 50) == true) (cond (decide (0 ≤ 50) && decide (50 ≤ (cap : Int))) (cond (off.ble off && ((off + 50).ble hi && Nat.ble 50 (cap - 0))) (ldT 16384 16384 0 0 2 (imF 50 fun j => f (off + j)) (at' 0) (at' 1)) none) none) none) none := by kernel_rfl
theorem ldB16384_2 (a : Int) (at' : Nat → Int) (off len cap hi : Nat) (f : Nat → Int) : evCallH Tryd.prog [sImageN, sAsH, sByteN, sClass, sRClass] [(19, .int .i64 16384), (22, .bool false)] 100 3 [.int .i64 a, .sl 1 off len cap, .aggi .i64 2 at'] [.glob 0 errT, .ro .u8 off hi f] asB =
  cond (bitI .and .i64 a 262143 == 16384) (cond (decide ((len : Int) > 50) == false) (cond (off.ble off && ((off + len).ble hi && len.ble cap)) (ldT 16384 16384 0 0 2 (imF len fun j => f (off + j)) (at' 0) (at' 1)) none) none) none := by kernel_rfl
theorem ldB16896_0 (a : Int) (at' : Nat → Int) : evCallH Tryd.prog [sImageN, sAsH, sByteN, sClass, sRClass] [(19, .int .i64 16896)] 100 3 [.int .i64 a, .nilsl, .aggi .i64 2 at'] [.glob 0 errT] asB =
  cond (bitI .and .i64 a 262143 == 16896) (ldT 16896 16384 512 512 2 (imF 0 fun _ => 0) (at' 0) (at' 1)) none := by kernel_rfl
theorem ldB16896_1 (a : Int) (at' : Nat → Int) (off len cap hi : Nat) (f : Nat → Int) : evCallH Tryd.prog [sImageN, sAsH, sByteN, sClass, sRClass] [(19, .int .i64 16896), (22, .bool true)] 100 3 [.int .i64 a, .sl 1 off len cap, .aggi .i64 2 at'] [.glob 0 errT, .ro .u8 off hi f] asB =
  cond (bitI .and .i64 a 262143 == 16896) (cond (decide ((len : Int) > 50) == true) (cond (decide (0 ≤ 50) && decide (50 ≤ (cap : Int))) (cond (off.ble off && ((off + 50).ble hi && Nat.ble 50 (cap - 0))) (ldT 16896 16384 512 512 2 (imF 50 fun j => f (off + j)) (at' 0) (at' 1)) none) none) none) none := by kernel_rfl
theorem ldB16896_2 (a : Int) (at' : Nat → Int) (off len cap hi : Nat) (f : Nat → Int) : evCallH Tryd.prog [sImageN, sAsH, sByteN, sClass, sRClass] [(19, .int .i64 16896), (22, .bool false)] 100 3 [.int .i64 a, .sl 1 off len cap, .aggi .i64 2 at'] [.glob 0 errT, .ro .u8 off hi f] asB =
  cond (bitI .and .i64 a 262143 == 16896) (cond (decide ((len : Int) > 50) == false) (cond (off.ble off && ((off + len).ble hi && len.ble cap)) (ldT 16896 16384 512 512 2 (imF len fun j => f (off + j)) (at' 0) (at' 1)) none) none) none := by kernel_rfl
theorem ldB32768_0 (a : Int) (at' : Nat → Int) : evCallH Tryd.prog [sImageN, sAsH, sByteN, sClass, sRClass] [(19, .int .i64 32768)] 100 3 [.int .i64 a, .nilsl, .aggi .i64 2 at'] [.glob 0 errT] asB =
  cond (bitI .and .i64 a 262143 == 32768) (ldT 32768 32768 0 0 4 (imF 0 fun _ => 0) (at' 0) (at' 1)) none := by kernel_rfl
theorem ldB32768_1 (a : Int) (at' : Nat → Int) (off len cap hi : Nat) (f : Nat → Int) : evCallH Tryd.prog [sImageN, sAsH, sByteN, sClass, sRClass] [(19, .int .i64 32768), (22, .bool true)] 100 3 [.int .i64 a, .sl 1 off len cap, .aggi .i64 2 at'] [.glob 0 errT, .ro .u8 off hi f] asB =
  cond (bitI .and .i64 a 262143 == 32768) (cond (decide ((len : Int) > 50) == true) (cond (decide (0 ≤ 50) && decide (50 ≤ (cap : Int))) (cond (off.ble off && ((off + 50).ble hi && Nat.ble 50 (cap - 0))) (ldT 32768 32768 0 0 4 (imF 50 fun j => f (off + j)) (at' 0) (at' 1)) none) none) none) none := by kernel_rfl
theorem ldB32768_2 (a : Int) (at' : Nat → Int) (off len cap hi : Nat) (f : Nat → Int) : evCallH Tryd.prog [sImageN, sAsH, sByteN, sClass, sRClass] [(19, .int .i64 32768), (22, .bool false)] 100 3 [.int .i64 a, .sl 1 off len cap, .aggi .i64 2 at'] [.glob 0 errT, .ro .u8 off hi f] asB =
  cond (bitI .and .i64 a 262143 == 32768) (cond (decide ((len : Int) > 50) == false) (cond (off.ble off && ((off + len).ble hi && len.ble cap)) (ldT 32768 32768 0 0 4 (imF len fun j => f (off + j)) (at' 0) (at' 1)) none) none) none := by kernel_rfl
theorem ldB33280_0 (a : Int) (at' : Nat → Int) : evCallH Tryd.prog [sImageN, sAsH, sByteN, sClass, sRClass] [(19, .int .i64 33280)] 100 3 [.int .i64 a, .nilsl, .aggi .i64 2 at'] [.glob 0 errT] asB =
  cond (bitI .and .i64 a 262143 == 33280) (ldT 33280 32768 512 512 4 (imF 0 fun _ => 0) (at' 0) (at' 1)) none := by kernel_rfl
theorem ldB33280_1 (a : Int) (at' : Nat → Int) (off len cap hi : Nat) (f : Nat → Int) : evCallH Tryd.prog [sImageN, sAsH, sByteN, sClass, sRClass] [(19, .int .i64 33280), (22, .bool true)] 100 3 [.int .i64 a, .sl 1 off len cap, .aggi .i64 2 at'] [.glob 0 errT, .ro .u8 off hi f] asB =
  cond (bitI .and .i64 a 262143 == 33280) (cond (decide ((len : Int) > 50) == true) (cond (decide (0 ≤ 50) && decide (50 ≤ (cap : Int))) (cond (off.ble off && ((off + 50).ble hi && Nat.ble 50 (cap - 0))) (ldT 33280 32768 512 512 4 (imF 50 fun j => f (off + j)) (at' 0) (at' 1)) none) none) none) none := by kernel_rfl
theorem ldB33280_2 (a : Int) (at' : Nat → Int) (off len cap hi : Nat) (f : Nat → Int) : evCallH Tryd.prog [sImageN, sAsH, sByteN, sClass, sRClass] [(19, .int .i64 33280), (22, .bool false)] 100 3 [.int .i64 a, .sl 1 off len cap, .aggi .i64 2 at'] [.glob 0 errT, .ro .u8 off hi f] asB =
  cond (bitI .and .i64 a 262143 == 33280) (cond (decide ((len : Int) > 50) == false) (cond (off.ble off && ((off + len).ble hi && len.ble cap)) (ldT 33280 32768 512 512 4 (imF len fun j => f (off + j)) (at' 0) (at' 1)) none) none) none := by kernel_rfl
theorem ldB65536_0 (a : Int) (at' : Nat → Int) : evCallH Tryd.prog [sImageN, sAsH, sByteN, sClass, sRClass] [(19, .int .i64 65536)] 100 3 [.int .i64 a, .nilsl, .aggi .i64 2 at'] [.glob 0 errT] asB =
  cond (bitI .and .i64 a 262143 == 65536) (ldT 65536 65536 0 0 8 (imF 0 fun _ => 0) (at' 0) (at' 1)) none := by kernel_rfl
theorem ldB65536_1 (a : Int) (at' : Nat → Int) (off len cap hi : Nat) (f : Nat → Int) : evCallH Tryd.prog [sImageN, sAsH, sByteN, sClass, sRClass] [(19, .int .i64 65536), (22, .bool true)] 100 3 [.int .i64 a, .sl 1 off len cap, .aggi .i64 2 at'] [.glob 0 errT, .ro .u8 off hi f] asB =
  cond (bitI .and .i64 a 262143 == 65536) (cond (decide ((len : Int) > 50) == true) (cond (decide (0 ≤ 50) && decide (50 ≤ (cap : Int))) (cond (off.ble off && ((off + 50).ble hi && Nat.ble 50 (cap - 0))) (ldT 65536 65536 0 0 8 (imF 50 fun j => f (off + j)) (at' 0) (at' 1)) none) none) none) none := by kernel_rfl
theorem ldB65536_2 (a : Int) (at' : Nat → Int) (off len cap hi : Nat) (f : Nat → Int) : evCallH Tryd.prog [sImageN, sAsH, sByteN, sClass, sRClass] [(19, .int .i64 65536), (22, .bool false)] 100 3 [.int .i64 a, .sl 1 off len cap, .aggi .i64 2 at'] [.glob 0 errT, .ro .u8 off hi f] asB =
  cond (bitI .and .i64 a 262143 == 65536) (cond (decide ((len : Int) > 50) == false) (cond (off.ble off && ((off + len).ble hi && len.ble cap)) (ldT 65536 65536 0 0 8 (imF len fun j => f (off + j)) (at' 0) (at' 1)) none) none) none := by kernel_rfl
theorem ldB66048_0 (a : Int) (at' : Nat → Int) : evCallH Tryd.prog [sImageN, sAsH, sByteN, sClass, sRClass] [(19, .int .i64 66048)] 100 3 [.int .i64 a, .nilsl, .aggi .i64 2 at'] [.glob 0 errT] asB =
  cond (bitI .and .i64 a 262143 == 66048) (ldT 66048 65536 512 512 8 (imF 0 fun _ => 0) (at' 0) (at' 1)) none := by kernel_rfl
theorem ldB66048_1 (a : Int) (at' : Nat → Int) (off len cap hi : Nat) (f : Nat → Int) : evCallH Tryd.prog [sImageN, sAsH, sByteN, sClass, sRClass] [(19, .int .i64 66048), (22, .bool true)] 100 3 [.int .i64 a, .sl 1 off len cap, .aggi .i64 2 at'] [.glob 0 errT, .ro .u8 off hi f] asB =
  cond (bitI .and .i64 a 262143 == 66048) (cond (decide ((len : Int) > 50) == true) (cond (decide (0 ≤ 50) && decide (50 ≤ (cap : Int))) (cond (off.ble off && ((off + 50).ble hi && Nat.ble 50 (cap - 0))) (ldT 66048 65536 512 512 8 (imF 50 fun j => f (off + j)) (at' 0) (at' 1)) none) none) none) none := by kernel_rfl
theorem ldB66048_2 (a : Int) (at' : Nat → Int) (off len cap hi : Nat) (f : Nat → Int) : evCallH Tryd.prog [sImageN, sAsH, sByteN, sClass, sRClass] [(19, .int .i64 66048), (22, .bool false)] 100 3 [.int .i64 a, .sl 1 off len cap, .aggi .i64 2 at'] [.glob 0 errT, .ro .u8 off hi f] asB =
  cond (bitI .and .i64 a 262143 == 66048) (cond (decide ((len : Int) > 50) == false) (cond (off.ble off && ((off + len).ble hi && len.ble cap)) (ldT 66048 65536 512 512 8 (imF len fun j => f (off + j)) (at' 0) (at' 1)) none) none) none := by kernel_rfl
theorem ldB131072_0 (a : Int) (at' : Nat → Int) : evCallH Tryd.prog [sImageN, sAsH, sByteN, sClass, sRClass] [(19, .int .i64 131072)] 100 3 [.int .i64 a, .nilsl, .aggi .i64 2 at'] [.glob 0 errT] asB =
  cond (bitI .and .i64 a 262143 == 131072) (ldT 131072 131072 0 0 16 (imF 0 fun _ => 0) (at' 0) (at' 1)) none := by kernel_rfl
theorem ldB131072_1 (a : Int) (at' : Nat → Int) (off len cap hi : Nat) (f : Nat → Int) : evCallH Tryd.prog [sImageN, sAsH, sByteN, sClass, sRClass] [(19, .int .i64 131072), (22, .bool true)] 100 3 [.int .i64 a, .sl 1 off len cap, .aggi .i64 2 at'] [.glob 0 errT, .ro .u8 off hi f] asB =
  cond (bitI .and .i64 a 262143 == 131072) (cond (decide ((len : Int) > 50) == true) (cond (decide (0 ≤ 50) && decide (50 ≤ (cap : Int))) (cond (off.ble off && ((off + 50).ble hi && Nat.ble 50 (cap - 0))) (ldT 131072 131072 0 0 16 (imF 50 fun j => f (off + j)) (at' 0) (at' 1)) none) none) none) none := by kernel_rfl
theorem ldB131072_2 (a : Int) (at' : Nat → Int) (off len cap hi : Nat) (f : Nat → Int) : evCallH Tryd.prog [sImageN, sAsH, sByteN, sClass, sRClass] [(19, .int .i64 131072), (22, .bool false)] 100 3 [.int .i64 a, .sl 1 off len cap, .aggi .i64 2 at'] [.glob 0 errT, .ro .u8 off hi f] asB =
  cond (bitI .and .i64 a 262143 == 131072) (cond (decide ((len : Int) > 50) == false) (cond (off.ble off && ((off + len).ble hi && len.ble cap)) (ldT 131072 131072 0 0 16 (imF len fun j => f (off + j)) (at' 0) (at' 1)) none) none) none := by kernel_rfl
theorem ldB131584_0 (a : Int) (at' : Nat → Int) : evCallH Tryd.prog [sImageN, sAsH, sByteN, sClass, sRClass] [(19, .int .i64 131584)] 100 3 [.int .i64 a, .nilsl, .aggi .i64 2 at'] [.glob 0 errT] asB =
  cond (bitI .and .i64 a 262143 == 131584) (ldT 131584 131072 512 512 16 (imF 0 fun _ => 0) (at' 0) (at' 1)) none := by kernel_rfl
theorem ldB131584_1 (a : Int) (at' : Nat → Int) (off len cap hi : Nat) (f : Nat → Int) : evCallH Tryd.prog [sImageN, sAsH, sByteN, sClass, sRClass] [(19, .int .i64 131584), (22, .bool true)] 100 3 [.int .i64 a, .sl 1 off len cap, .aggi .i64 2 at'] [.glob 0 errT, .ro .u8 off hi f] asB =
  cond (bitI .and .i64 a 262143 == 131584) (cond (decide ((len : Int) > 50) == true) (cond (decide (0 ≤ 50) && decide (50 ≤ (cap : Int))) (cond (off.ble off && ((off + 50).ble hi && Nat.ble 50 (cap - 0))) (ldT 131584 131072 512 512 16 (imF 50 fun j => f (off + j)) (at' 0) (at' 1)) none) none) none) none := by kernel_rfl
theorem ldB131584_2 (a : Int) (at' : Nat → Int) (off len cap hi : Nat) (f : Nat → Int) : evCallH Tryd.prog [sImageN, sAsH, sByteN, sClass, sRClass] [(19, .int .i64 131584), (22, .bool false)] 100 3 [.int .i64 a, .sl 1 off len cap, .aggi .i64 2 at'] [.glob 0 errT, .ro .u8 off hi f] asB =
  cond (bitI .and .i64 a 262143 == 131584) (cond (decide ((len : Int) > 50) == false) (cond (off.ble off && ((off + len).ble hi && len.ble cap)) (ldT 131584 131072 512 512 16 (imF len fun j => f (off + j)) (at' 0) (at' 1)) none) none) none := by kernel_rfl
end Go.Proofs.YtabfnphbbdklgaaDoor

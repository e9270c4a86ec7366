/-
  The law CardHeader: its rows, one for each number of pages; what they come to is true.
-/
import Derived.Test.YtabfnphbbdklgaaDoorDt
set_option linter.unusedVariables false
set_option linter.unusedSimpArgs false
namespace Go.Proofs.YtabfnphbbdklgaaDoor
open Go Go.R
def headG (m : Nat) (g : Nat → Int) : Nat → Int := fun j => upd (fun j => (fun _ => (0 : Int)) (0 + j)) 512 m (fun j => g (0 + j)) j
def hdT (m : Nat) (b P1 : Int) (F : Nat → Int) (q : Int) : Option Bool :=
  cond (inR (wr .i64 (b + q)) m) (cond ((0 + scaled (wr .i64 (b + q)) 1 + 1).ble m) (cond (inR (wr .i64 (b + q)) m) (cond ((0 + scaled (wr .i64 (b + q)) 1 + 1).ble m)
    (cond (byteN m (ownG m 0 (gS F m)) P1 q == byteN m (ownG m 0 (gS F m)) P1 q) (cond (byteN m (ownG m 512 (headG m (gS F m))) P1 q == byteN m (ownG m 0 (gS F m)) P1 q) (some true) (some false)) (some false)) none) none) none) none
theorem hdT_true (m : Nat) (b P1 : Int) (F : Nat → Int) (q : Int) (e1 : b = P1 * 8192) (e2 : (m : Int) = (P1 + 1) * 8192) (hP : 0 ≤ P1 ∧ P1 ≤ 1000) (hq : 0 ≤ q ∧ q < 8192) : hdT m b P1 F q = some true := by
  unfold hdT
  obtain ⟨k, hk⟩ := Int.eq_ofNat_of_zero_le (show 0 ≤ b + q by omega)
  have hlt : k < m := by omega
  have hw : wr .i64 (b + q) = (k : Int) := by rw [hk]; exact wrap_id (by omega) (by omega)
  have hby : ∀ g : Nat → Int, byteN m g P1 q = wr .i64 (g k) := by
    intro g
    unfold byteN
    rw [show (m : Int) / 8192 = P1 + 1 by omega, decide_eq_false (show ¬ P1 < 0 by omega), decide_eq_false (show ¬ P1 ≥ P1 + 1 by omega), decide_eq_false (show ¬ q < 0 by omega), decide_eq_false (show ¬ q ≥ 8192 by omega), show (P1 * 8192 + q).toNat = k by omega]
    rfl
  have hx : ownG m 0 (gS F m) k = gS F m k := by
    unfold ownG upd
    rw [Nat.ble_eq_true_of_le (Nat.zero_le k), Nat.ble_eq_true_of_le (show k + 1 ≤ 0 + m by omega)]
    simp
  have hy : ownG m 512 (headG m (gS F m)) k = gS F m k := by
    unfold ownG headG upd
    rw [Nat.ble_eq_true_of_le (Nat.zero_le k), Nat.ble_eq_true_of_le (show k + 1 ≤ 0 + m by omega)]
    simp only [Bool.and_self, cond_true, Nat.sub_zero]
    rw [Nat.ble_eq_true_of_le (show 512 ≤ 512 + k by omega), Nat.ble_eq_true_of_le (show 512 + k + 1 ≤ 512 + m by omega)]
    simp
  rw [hw, scaled1, show inR (k : Int) m = true by simp only [inR, Bool.and_eq_true, decide_eq_true_eq]; omega, Nat.ble_eq_true_of_le (show k + 1 ≤ m by omega), hby, hby, hx, hy]
  simp
theorem hd0_0 (a k : Int) : evCallH Tryd.prog [sImageN, sAsH, sByteN, sClass] [(14, .int .i64 0)] 100 4 [.int .i64 a, .nilsl, .int .i64 k] [.glob 0 errT] asB =
  cond (bitI .and .i64 a 7 == 0) (some true) none := by kernel_rfl
theorem hd0_1 (a k : Int) (off len cap hi : Nat) (f : Nat → Int) : evCallH Tryd.prog [sImageN, sAsH, sByteN, sClass] [(14, .int .i64 0), (17, .bool true)] 100 4 [.int .i64 a, .sl 1 off len cap, .int .i64 k] [.glob 0 errT, .ro .u8 off hi f] asB =
  cond (bitI .and .i64 a 7 == 0) (cond (decide ((len : Int) > 50) == true) (cond (decide (0 ≤ 50) && decide (50 ≤ (cap : Int))) (cond (off.ble off && ((off + 50).ble hi && Nat.ble 50 (cap - 0))) (some true) none) none) none) none := by kernel_rfl
theorem hd0_2 (a k : Int) (off len cap hi : Nat) (f : Nat → Int) : evCallH Tryd.prog [sImageN, sAsH, sByteN, sClass] [(14, .int .i64 0), (17, .bool false)] 100 4 [.int .i64 a, .sl 1 off len cap, .int .i64 k] [.glob 0 errT, .ro .u8 off hi f] asB =
  cond (bitI .and .i64 a 7 == 0) (cond (decide ((len : Int) > 50) == false) (cond (off.ble off && ((off + len).ble hi && len.ble cap)) (some true) none) none) none := by kernel_rfl
theorem hd1_0 (a k : Int) : evCallH Tryd.prog [sImageN, sAsH, sByteN, sClass] [(14, .int .i64 1)] 100 4 [.int .i64 a, .nilsl, .int .i64 k] [.glob 0 errT] asB =
  cond (bitI .and .i64 a 7 == 1) (hdT 8192 0 0 (imF 0 fun _ => 0) (bitI .and .i64 k 8191)) none := by kernel_rfl
theorem hd1_1 (a k : Int) (off len cap hi : Nat) (f : Nat → Int) : evCallH Tryd.prog [sImageN, sAsH, sByteN, sClass] [(14, .int .i64 1), (17, .bool true)] 100 4 [.int .i64 a, .sl 1 off len cap, .int .i64 k] [.glob 0 errT, .ro .u8 off hi f] asB =
  cond (bitI .and .i64 a 7 == 1) (cond (decide ((len : Int) > 50) == true) (cond (decide (0 ≤ 50) && decide (50 ≤ (cap : Int))) (cond (off.ble off && ((off + 50).ble hi && Nat.ble 50 (cap - 0))) (hdT 8192 0 0 (imF 50 fun j => f (off + j)) (bitI .and .i64 k 8191)) none) none) none) none := by kernel_rfl
theorem hd1_2 (a k : Int) (off len cap hi : Nat) (f : Nat → Int) : evCallH Tryd.prog [sImageN, sAsH, sByteN, sClass] [(14, .int .i64 1), (17, .bool false)] 100 4 [.int .i64 a, .sl 1 off len cap, .int .i64 k] [.glob 0 errT, .ro .u8 off hi f] asB =
  cond (bitI .and .i64 a 7 == 1) (cond (decide ((len : Int) > 50) == false) (cond (off.ble off && ((off + len).ble hi && len.ble cap)) (hdT 8192 0 0 (imF len fun j => f (off + j)) (bitI .and .i64 k 8191)) none) none) none := by kernel_rfl
theorem hd2_0 (a k : Int) : evCallH Tryd.prog [sImageN, sAsH, sByteN, sClass] [(14, .int .i64 2)] 100 4 [.int .i64 a, .nilsl, .int .i64 k] [.glob 0 errT] asB =
  cond (bitI .and .i64 a 7 == 2) (hdT 16384 8192 1 (imF 0 fun _ => 0) (bitI .and .i64 k 8191)) none := by kernel_rfl
theorem hd2_1 (a k : Int) (off len cap hi : Nat) (f : Nat → Int) : evCallH Tryd.prog [sImageN, sAsH, sByteN, sClass] [(14, .int .i64 2), (17, .bool true)] 100 4 [.int .i64 a, .sl 1 off len cap, .int .i64 k] [.glob 0 errT, .ro .u8 off hi f] asB =
  cond (bitI .and .i64 a 7 == 2) (cond (decide ((len : Int) > 50) == true) (cond (decide (0 ≤ 50) && decide (50 ≤ (cap : Int))) (cond (off.ble off && ((off + 50).ble hi && Nat.ble 50 (cap - 0))) (hdT 16384 8192 1 (imF 50 fun j => f (off + j)) (bitI .and .i64 k 8191)) none) none) none) none := by kernel_rfl
theorem hd2_2 (a k : Int) (off len cap hi : Nat) (f : Nat → Int) : evCallH Tryd.prog [sImageN, sAsH, sByteN, sClass] [(14, .int .i64 2), (17, .bool false)] 100 4 [.int .i64 a, .sl 1 off len cap, .int .i64 k] [.glob 0 errT, .ro .u8 off hi f] asB =
  cond (bitI .and .i64 a 7 == 2) (cond (decide ((len : Int) > 50) == false) (cond (off.ble off && ((off + len).ble hi && len.ble cap)) (hdT 16384 8192 1 (imF len fun j => f (off + j)) (bitI .and .i64 k 8191)) none) none) none := by kernel_rfl
theorem hd3_0 (a k : Int) : evCallH Tryd.prog [sImageN, sAsH, sByteN, sClass] [(14, .int .i64 3)] 100 4 [.int .i64 a, .nilsl, .int .i64 k] [.glob 0 errT] asB =
  cond (bitI .and .i64 a 7 == 3) (some true) none := by kernel_rfl
theorem hd3_1 (a k : Int) (off len cap hi : Nat) (f : Nat → Int) : evCallH Tryd.prog [sImageN, sAsH, sByteN, sClass] [(14, .int .i64 3), (17, .bool true)] 100 4 [.int .i64 a, .sl 1 off len cap, .int .i64 k] [.glob 0 errT, .ro .u8 off hi f] asB =
  cond (bitI .and .i64 a 7 == 3) (cond (decide ((len : Int) > 50) == true) (cond (decide (0 ≤ 50) && decide (50 ≤ (cap : Int))) (cond (off.ble off && ((off + 50).ble hi && Nat.ble 50 (cap - 0))) (some true) none) none) none) none := by kernel_rfl
theorem hd3_2 (a k : Int) (off len cap hi : Nat) (f : Nat → Int) : evCallH Tryd.prog [sImageN, sAsH, sByteN, sClass] [(14, .int .i64 3), (17, .bool false)] 100 4 [.int .i64 a, .sl 1 off len cap, .int .i64 k] [.glob 0 errT, .ro .u8 off hi f] asB =
  cond (bitI .and .i64 a 7 == 3) (cond (decide ((len : Int) > 50) == false) (cond (off.ble off && ((off + len).ble hi && len.ble cap)) (some true) none) none) none := by kernel_rfl
theorem hd4_0 (a k : Int) : evCallH Tryd.prog [sImageN, sAsH, sByteN, sClass] [(14, .int .i64 4)] 100 4 [.int .i64 a, .nilsl, .int .i64 k] [.glob 0 errT] asB =
  cond (bitI .and .i64 a 7 == 4) (hdT 32768 24576 3 (imF 0 fun _ => 0) (bitI .and .i64 k 8191)) none := by kernel_rfl
theorem hd4_1 (a k : Int) (off len cap hi : Nat) (f : Nat → Int) : evCallH Tryd.prog [sImageN, sAsH, sByteN, sClass] [(14, .int .i64 4), (17, .bool true)] 100 4 [.int .i64 a, .sl 1 off len cap, .int .i64 k] [.glob 0 errT, .ro .u8 off hi f] asB =
  cond (bitI .and .i64 a 7 == 4) (cond (decide ((len : Int) > 50) == true) (cond (decide (0 ≤ 50) && decide (50 ≤ (cap : Int))) (cond (off.ble off && ((off + 50).ble hi && Nat.ble 50 (cap - 0))) (hdT 32768 24576 3 (imF 50 fun j => f (off + j)) (bitI .and .i64 k 8191)) none) none) none) none := by kernel_rfl
theorem hd4_2 (a k : Int) (off len cap hi : Nat) (f : Nat → Int) : evCallH Tryd.prog [sImageN, sAsH, sByteN, sClass] [(14, .int .i64 4), (17, .bool false)] 100 4 [.int .i64 a, .sl 1 off len cap, .int .i64 k] [.glob 0 errT, .ro .u8 off hi f] asB =
  cond (bitI .and .i64 a 7 == 4) (cond (decide ((len : Int) > 50) == false) (cond (off.ble off && ((off + len).ble hi && len.ble cap)) (hdT 32768 24576 3 (imF len fun j => f (off + j)) (bitI .and .i64 k 8191)) none) none) none := by kernel_rfl
theorem hd5_0 (a k : Int) : evCallH Tryd.prog [sImageN, sAsH, sByteN, sClass] [(14, .int .i64 5)] 100 4 [.int .i64 a, .nilsl, .int .i64 k] [.glob 0 errT] asB =
  cond (bitI .and .i64 a 7 == 5) (some true) none := by kernel_rfl
theorem hd5_1 (a k : Int) (off len cap hi : Nat) (f : Nat → Int) : evCallH Tryd.prog [sImageN, sAsH, sByteN, sClass] [(14, .int .i64 5), (17, .bool true)] 100 4 [.int .i64 a, .sl 1 off len cap, .int .i64 k] [.glob 0 errT, .ro .u8 off hi f] asB =
  cond (bitI .and .i64 a 7 == 5) (cond (decide ((len : Int) > 50) == true) (cond (decide (0 ≤ 50) && decide (50 ≤ (cap : Int))) (cond (off.ble off && ((off + 50).ble hi && Nat.ble 50 (cap - 0))) (some true) none) none) none) none := by kernel_rfl
theorem hd5_2 (a k : Int) (off len cap hi : Nat) (f : Nat → Int) : evCallH Tryd.prog [sImageN, sAsH, sByteN, sClass] [(14, .int .i64 5), (17, .bool false)] 100 4 [.int .i64 a, .sl 1 off len cap, .int .i64 k] [.glob 0 errT, .ro .u8 off hi f] asB =
  cond (bitI .and .i64 a 7 == 5) (cond (decide ((len : Int) > 50) == false) (cond (off.ble off && ((off + len).ble hi && len.ble cap)) (some true) none) none) none := by kernel_rfl
theorem hd6_0 (a k : Int) : evCallH Tryd.prog [sImageN, sAsH, sByteN, sClass] [(14, .int .i64 6)] 100 4 [.int .i64 a, .nilsl, .int .i64 k] [.glob 0 errT] asB =
  cond (bitI .and .i64 a 7 == 6) (some true) none := by kernel_rfl
theorem hd6_1 (a k : Int) (off len cap hi : Nat) (f : Nat → Int) : evCallH Tryd.prog [sImageN, sAsH, sByteN, sClass] [(14, .int .i64 6), (17, .bool true)] 100 4 [.int .i64 a, .sl 1 off len cap, .int .i64 k] [.glob 0 errT, .ro .u8 off hi f] asB =
  cond (bitI .and .i64 a 7 == 6) (cond (decide ((len : Int) > 50) == true) (cond (decide (0 ≤ 50) && decide (50 ≤ (cap : Int))) (cond (off.ble off && ((off + 50).ble hi && Nat.ble 50 (cap - 0))) (some true) none) none) none) none := by kernel_rfl
theorem hd6_2 (a k : Int) (off len cap hi : Nat) (f : Nat → Int) : evCallH Tryd.prog [sImageN, sAsH, sByteN, sClass] [(14, .int .i64 6), (17, .bool false)] 100 4 [.int .i64 a, .sl 1 off len cap, .int .i64 k] [.glob 0 errT, .ro .u8 off hi f] asB =
  cond (bitI .and .i64 a 7 == 6) (cond (decide ((len : Int) > 50) == false) (cond (off.ble off && ((off + len).ble hi && len.ble cap)) (some true) none) none) none := by kernel_rfl
theorem hd7_0 (a k : Int) : evCallH Tryd.prog [sImageN, sAsH, sByteN, sClass] [(14, .int .i64 7)] 100 4 [.int .i64 a, .nilsl, .int .i64 k] [.glob 0 errT] asB =
  cond (bitI .and .i64 a 7 == 7) (some true) none := by kernel_rfl
theorem hd7_1 (a k : Int) (off len cap hi : Nat) (f : Nat → Int) : evCallH Tryd.prog [sImageN, sAsH, sByteN, sClass] [(14, .int .i64 7), (17, .bool true)] 100 4 [.int .i64 a, .sl 1 off len cap, .int .i64 k] [.glob 0 errT, .ro .u8 off hi f] asB =
  cond (bitI .and .i64 a 7 == 7) (cond (decide ((len : Int) > 50) == true) (cond (decide (0 ≤ 50) && decide (50 ≤ (cap : Int))) (cond (off.ble off && ((off + 50).ble hi && Nat.ble 50 (cap - 0))) (some true) none) none) none) none := by kernel_rfl
theorem hd7_2 (a k : Int) (off len cap hi : Nat) (f : Nat → Int) : evCallH Tryd.prog [sImageN, sAsH, sByteN, sClass] [(14, .int .i64 7), (17, .bool false)] 100 4 [.int .i64 a, .sl 1 off len cap, .int .i64 k] [.glob 0 errT, .ro .u8 off hi f] asB =
  cond (bitI .and .i64 a 7 == 7) (cond (decide ((len : Int) > 50) == false) (cond (off.ble off && ((off + len).ble hi && len.ble cap)) (some true) none) none) none := by kernel_rfl
theorem pOf (a : Int) : bitI .and .i64 a 7 = 0 ∨ bitI .and .i64 a 7 = 1 ∨ bitI .and .i64 a 7 = 2 ∨ bitI .and .i64 a 7 = 3 ∨ bitI .and .i64 a 7 = 4 ∨ bitI .and .i64 a 7 = 5 ∨ bitI .and .i64 a 7 = 6 ∨ bitI .and .i64 a 7 = 7 := by
  rw [and_m3]; omega
theorem qOf (k : Int) : 0 ≤ bitI .and .i64 k 8191 ∧ bitI .and .i64 k 8191 < 8192 := by
  rw [and_m13]; omega
theorem cardHeader_nil (a : Int) (_ : IntKind.i64.has a) (k : Int) (_ : IntKind.i64.has k) : ∃ Γ H, evCallH Tryd.prog Γ H 100 4 [.int .i64 a, .nilsl, .int .i64 k] [.glob 0 errT] asB = some true := by
  rcases pOf a with h | h | h | h | h | h | h | h
  · exact ⟨_, _, by rw [hd0_0, h]; rfl⟩
  · exact ⟨_, _, by rw [hd1_0, h, hdT_true 8192 0 0 _ _ rfl rfl (by decide) (qOf k)]; rfl⟩
  · exact ⟨_, _, by rw [hd2_0, h, hdT_true 16384 8192 1 _ _ rfl rfl (by decide) (qOf k)]; rfl⟩
  · exact ⟨_, _, by rw [hd3_0, h]; rfl⟩
  · exact ⟨_, _, by rw [hd4_0, h, hdT_true 32768 24576 3 _ _ rfl rfl (by decide) (qOf k)]; rfl⟩
  · exact ⟨_, _, by rw [hd5_0, h]; rfl⟩
  · exact ⟨_, _, by rw [hd6_0, h]; rfl⟩
  · exact ⟨_, _, by rw [hd7_0, h]; rfl⟩
theorem cardHeader_sl (a : Int) (_ : IntKind.i64.has a) (k : Int) (_ : IntKind.i64.has k) (off len cap : Nat) (f : Nat → Int) (hl : len ≤ cap) : ∃ Γ H, evCallH Tryd.prog Γ H 100 4 [.int .i64 a, .sl 1 off len cap, .int .i64 k] [.glob 0 errT, .ro .u8 off (off + cap) f] asB = some true := by
  by_cases h50 : (len : Int) > 50
  · have g1 : (off.ble off && ((off + 50).ble (off + cap) && Nat.ble 50 (cap - 0))) = true := by
      rw [Nat.ble_eq_true_of_le (Nat.le_refl off), Nat.ble_eq_true_of_le (show off + 50 ≤ off + cap by omega), Nat.ble_eq_true_of_le (show 50 ≤ cap - 0 by omega)]; rfl
    have g2 : (decide (0 ≤ 50) && decide ((50 : Int) ≤ (cap : Int))) = true := by
      rw [decide_eq_true (show (50 : Int) ≤ (cap : Int) by omega)]; rfl
    rcases pOf a with h | h | h | h | h | h | h | h
    · exact ⟨_, _, by rw [hd0_1, h, decide_eq_true h50, g1, g2]; rfl⟩
    · exact ⟨_, _, by rw [hd1_1, h, hdT_true 8192 0 0 _ _ rfl rfl (by decide) (qOf k), decide_eq_true h50, g1, g2]; rfl⟩
    · exact ⟨_, _, by rw [hd2_1, h, hdT_true 16384 8192 1 _ _ rfl rfl (by decide) (qOf k), decide_eq_true h50, g1, g2]; rfl⟩
    · exact ⟨_, _, by rw [hd3_1, h, decide_eq_true h50, g1, g2]; rfl⟩
    · exact ⟨_, _, by rw [hd4_1, h, hdT_true 32768 24576 3 _ _ rfl rfl (by decide) (qOf k), decide_eq_true h50, g1, g2]; rfl⟩
    · exact ⟨_, _, by rw [hd5_1, h, decide_eq_true h50, g1, g2]; rfl⟩
    · exact ⟨_, _, by rw [hd6_1, h, decide_eq_true h50, g1, g2]; rfl⟩
    · exact ⟨_, _, by rw [hd7_1, h, decide_eq_true h50, g1, g2]; rfl⟩
  · have g1 : (off.ble off && ((off + len).ble (off + cap) && len.ble cap)) = true := by
      rw [Nat.ble_eq_true_of_le (Nat.le_refl off), Nat.ble_eq_true_of_le (show off + len ≤ off + cap by omega), Nat.ble_eq_true_of_le hl]; rfl
    rcases pOf a with h | h | h | h | h | h | h | h
    · exact ⟨_, _, by rw [hd0_2, h, decide_eq_false h50, g1]; rfl⟩
    · exact ⟨_, _, by rw [hd1_2, h, hdT_true 8192 0 0 _ _ rfl rfl (by decide) (qOf k), decide_eq_false h50, g1]; rfl⟩
    · exact ⟨_, _, by rw [hd2_2, h, hdT_true 16384 8192 1 _ _ rfl rfl (by decide) (qOf k), decide_eq_false h50, g1]; rfl⟩
    · exact ⟨_, _, by rw [hd3_2, h, decide_eq_false h50, g1]; rfl⟩
    · exact ⟨_, _, by rw [hd4_2, h, hdT_true 32768 24576 3 _ _ rfl rfl (by decide) (qOf k), decide_eq_false h50, g1]; rfl⟩
    · exact ⟨_, _, by rw [hd5_2, h, decide_eq_false h50, g1]; rfl⟩
    · exact ⟨_, _, by rw [hd6_2, h, decide_eq_false h50, g1]; rfl⟩
    · exact ⟨_, _, by rw [hd7_2, h, decide_eq_false h50, g1]; rfl⟩
end Go.Proofs.YtabfnphbbdklgaaDoor

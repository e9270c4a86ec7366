/-
  The law CardLoads: what it comes to is true.
-/
import Derived.Test.YtabfnphbbdklgaaDoorDr
set_option linter.unusedVariables false
set_option linter.unusedSimpArgs false
namespace Go.Proofs.YtabfnphbbdklgaaDoor
open Go Go.R
theorem codeF_hit {m : Int} (h0 : 0 ≤ m) (h1 : m < 262144) (h : codeF m = 0) : m = 8192 ∨ m = 16384 ∨ m = 32768 ∨ m = 65536 ∨ m = 131072 := by
  unfold codeF at h
  cases a1 : (m == 0) with
  | true => rw [a1] at h; cases h
  | false =>
    rw [a1] at h
    cases a2 : (m % 8192 != 0) with
    | true => rw [a2] at h; cases h
    | false =>
      rw [a2] at h
      cases a3 : decide (m / 8192 > 320) with
      | true => rw [a3] at h; cases h
      | false =>
        rw [a3] at h
        cases a4 : isC (m / 8192) with
        | false => rw [a4] at h; cases h
        | true =>
          simp only [isC, Bool.or_eq_true, beq_iff_eq] at a4
          have : m % 8192 = 0 := by simpa using a2
          omega
theorem hits {n : Int} (h0 : 0 ≤ n) (h1 : n < 262144) (h : codeF (restF n) = 0) : n = 8192 ∨ n = 8704 ∨ n = 16384 ∨ n = 16896 ∨ n = 32768 ∨ n = 33280 ∨ n = 65536 ∨ n = 66048 ∨ n = 131072 ∨ n = 131584 := by
  unfold restF at h
  cases hh : (n % 8192 == 512) with
  | true =>
    rw [hh, cond_true] at h
    have : n % 8192 = 512 := by simpa using hh
    have := codeF_hit (by omega) (by omega) h
    omega
  | false =>
    rw [hh, cond_false] at h
    have := codeF_hit (by omega) (by omega) h
    omega
def GA : List (Summ Tryd.prog) := [sImageN, sAsH, sByteN, sCkBad, sRCk, sClass, sRClass]
def GB : List (Summ Tryd.prog) := [sImageN, sAsH, sByteN, sClass, sRClass]
def tailA (N : Nat) : Option Bool :=
  cond ((↑(N : Int).toNat : Int).tmod 8192 == 512) (cond (decide (512 ≤ (↑(N : Int).toNat : Int)) && decide ((↑(N : Int).toNat : Int) ≤ (↑(N : Int).toNat : Int))) (cond (!codeF (↑((↑(N : Int).toNat : Int).toNat - 512) : Int) == 0 && ((↑(N : Int).toNat : Int).toNat - 512).ble 1099511627776) (cond (decide (0 ≤ (N : Int)) && decide ((N : Int) ≤ 1099511627776)) (cond (codeF (↑((↑(N : Int).toNat : Int).toNat - 512) : Int) != codeF (restF (N : Int))) (some false) (cond (!true == (codeF (restF (N : Int)) != 0)) (some false) (cond (kd (N : Int) != kd (N : Int)) (some false) (cond (!isC (N : Int) == isC (N : Int)) (some false) (cond ((codeF (restF (N : Int)) != 0) == true) (some true) none))))) none) none) none) (cond (!codeF (↑(N : Int).toNat : Int) == 0 && (N : Int).toNat.ble 1099511627776) (cond (decide (0 ≤ (N : Int)) && decide ((N : Int) ≤ 1099511627776)) (cond (codeF (↑(N : Int).toNat : Int) != codeF (restF (N : Int))) (some false) (cond (!true == (codeF (restF (N : Int)) != 0)) (some false) (cond (kd (N : Int) != kd (N : Int)) (some false) (cond (!isC (N : Int) == isC (N : Int)) (some false) (cond ((codeF (restF (N : Int)) != 0) == true) (some true) none))))) none) none)
theorem bnot_beq (b : Bool) : (!(b == b)) = false := by cases b <;> rfl
theorem tailA_true (N : Nat) (hN' : N < 262144) (hb : codeF (restF (N : Int)) ≠ 0) : tailA N = some true := by
  have hbb : (codeF (restF (N : Int)) != 0) = true := by simpa using hb
  have hb0 : (codeF (restF (N : Int)) == 0) = false := by simpa using hb
  unfold tailA
  simp only [Int.toNat_natCast, hbb, bne_self_eq_false, decide_eq_true (show (0 : Int) ≤ (N : Int) by omega), decide_eq_true (show (N : Int) ≤ 1099511627776 by omega)]
  rw [tmod_pos (by omega)]
  cases hh : ((N : Int) % 8192 == 512) with
  | true =>
    have hm : (N : Int) % 8192 = 512 := by simpa using hh
    have hr : restF (N : Int) = ((N - 512 : Nat) : Int) := by unfold restF; rw [hh, cond_true]; omega
    rw [hr] at hbb hb0 ⊢
    rw [hb0, bne_self_eq_false, Nat.ble_eq_true_of_le (show N - 512 ≤ 1099511627776 by omega), decide_eq_true (show (512 : Int) ≤ (N : Int) by omega), decide_eq_true (show (N : Int) ≤ (N : Int) by omega), bnot_beq true, bnot_beq (isC _)]
    rfl
  | false =>
    have hr : restF (N : Int) = (N : Int) := by unfold restF; rw [hh, cond_false]
    rw [hr] at hbb hb0 ⊢
    rw [hb0, bne_self_eq_false, Nat.ble_eq_true_of_le (show N ≤ 1099511627776 by omega), bnot_beq true, bnot_beq (isC _)]
    rfl
theorem nOf (a : Int) : ∃ N : Nat, bitI .and .i64 a 262143 = (N : Int) ∧ N < 262144 := by
  rw [and_m18]
  obtain ⟨x, hx⟩ := Int.eq_ofNat_of_zero_le (show 0 ≤ a % 262144 by omega)
  exact ⟨x, hx, by omega⟩
theorem gd (N : Nat) (h : N < 262144) : (decide (0 ≤ (N : Int)) && decide ((N : Int) ≤ 1099511627776)) = true := by
  rw [decide_eq_true (show (0 : Int) ≤ (N : Int) by omega), decide_eq_true (show (N : Int) ≤ 1099511627776 by omega)]; rfl
theorem cardLoads_nil (a : Int) (_ : IntKind.i64.has a) (at' : Nat → Int) (wa : ∀ i, i < 2 → IntKind.i64.has (at' i)) : ∃ Γ H, evCallH Tryd.prog Γ H 100 3 [.int .i64 a, .nilsl, .aggi .i64 2 at'] [.glob 0 errT] asB = some true := by
  obtain ⟨N, hn, hlt⟩ := nOf a
  have wp := has64 (wa 0 (by decide)); have wq := has64 (wa 1 (by decide))
  by_cases hb : codeF (restF (N : Int)) = 0
  · rcases hits (by omega) (by omega) hb with h | h | h | h | h | h | h | h | h | h <;> rw [h] at hn
    · exact ⟨_, _, by rw [ldB8192_0, hn, ldT_true 8192 8192 0 0 1 _ _ _ rfl rfl rfl (by decide) (by decide) wp wq]; rfl⟩
    · exact ⟨_, _, by rw [ldB8704_0, hn, ldT_true 8704 8192 512 512 1 _ _ _ rfl rfl rfl (by decide) (by decide) wp wq]; rfl⟩
    · exact ⟨_, _, by rw [ldB16384_0, hn, ldT_true 16384 16384 0 0 2 _ _ _ rfl rfl rfl (by decide) (by decide) wp wq]; rfl⟩
    · exact ⟨_, _, by rw [ldB16896_0, hn, ldT_true 16896 16384 512 512 2 _ _ _ rfl rfl rfl (by decide) (by decide) wp wq]; rfl⟩
    · exact ⟨_, _, by rw [ldB32768_0, hn, ldT_true 32768 32768 0 0 4 _ _ _ rfl rfl rfl (by decide) (by decide) wp wq]; rfl⟩
    · exact ⟨_, _, by rw [ldB33280_0, hn, ldT_true 33280 32768 512 512 4 _ _ _ rfl rfl rfl (by decide) (by decide) wp wq]; rfl⟩
    · exact ⟨_, _, by rw [ldB65536_0, hn, ldT_true 65536 65536 0 0 8 _ _ _ rfl rfl rfl (by decide) (by decide) wp wq]; rfl⟩
    · exact ⟨_, _, by rw [ldB66048_0, hn, ldT_true 66048 65536 512 512 8 _ _ _ rfl rfl rfl (by decide) (by decide) wp wq]; rfl⟩
    · exact ⟨_, _, by rw [ldB131072_0, hn, ldT_true 131072 131072 0 0 16 _ _ _ rfl rfl rfl (by decide) (by decide) wp wq]; rfl⟩
    · exact ⟨_, _, by rw [ldB131584_0, hn, ldT_true 131584 131072 512 512 16 _ _ _ rfl rfl rfl (by decide) (by decide) wp wq]; rfl⟩
  · exact ⟨_, _, by
      rw [ldA0_ev (N : Int), hn]
      have := tailA_true N hlt hb
      unfold tailA at this
      rw [this, gd N hlt]
      simp⟩
theorem cardLoads_sl (a : Int) (_ : IntKind.i64.has a) (at' : Nat → Int) (wa : ∀ i, i < 2 → IntKind.i64.has (at' i)) (off len cap : Nat) (f : Nat → Int) (hl : len ≤ cap) : ∃ Γ H, evCallH Tryd.prog Γ H 100 3 [.int .i64 a, .sl 1 off len cap, .aggi .i64 2 at'] [.glob 0 errT, .ro .u8 off (off + cap) f] asB = some true := by
  obtain ⟨N, hn, hlt⟩ := nOf a
  have wp := has64 (wa 0 (by decide)); have wq := has64 (wa 1 (by decide))
  by_cases h50 : (len : Int) > 50
  · have g1 : (off.ble off && ((off + 50).ble (off + cap) && Nat.ble 50 (cap - 0))) = true := by
      rw [Nat.ble_eq_true_of_le (Nat.le_refl off), Nat.ble_eq_true_of_le (show off + 50 ≤ off + cap by omega), Nat.ble_eq_true_of_le (show 50 ≤ cap - 0 by omega)]; rfl
    have g2 : (decide (0 ≤ 50) && decide ((50 : Int) ≤ (cap : Int))) = true := by
      rw [decide_eq_true (show (50 : Int) ≤ (cap : Int) by omega)]; rfl
    by_cases hb : codeF (restF (N : Int)) = 0
    · rcases hits (by omega) (by omega) hb with h | h | h | h | h | h | h | h | h | h <;> rw [h] at hn
      · exact ⟨_, _, by rw [ldB8192_1, hn, ldT_true 8192 8192 0 0 1 _ _ _ rfl rfl rfl (by decide) (by decide) wp wq, decide_eq_true h50, g1, g2]; rfl⟩
      · exact ⟨_, _, by rw [ldB8704_1, hn, ldT_true 8704 8192 512 512 1 _ _ _ rfl rfl rfl (by decide) (by decide) wp wq, decide_eq_true h50, g1, g2]; rfl⟩
      · exact ⟨_, _, by rw [ldB16384_1, hn, ldT_true 16384 16384 0 0 2 _ _ _ rfl rfl rfl (by decide) (by decide) wp wq, decide_eq_true h50, g1, g2]; rfl⟩
      · exact ⟨_, _, by rw [ldB16896_1, hn, ldT_true 16896 16384 512 512 2 _ _ _ rfl rfl rfl (by decide) (by decide) wp wq, decide_eq_true h50, g1, g2]; rfl⟩
      · exact ⟨_, _, by rw [ldB32768_1, hn, ldT_true 32768 32768 0 0 4 _ _ _ rfl rfl rfl (by decide) (by decide) wp wq, decide_eq_true h50, g1, g2]; rfl⟩
      · exact ⟨_, _, by rw [ldB33280_1, hn, ldT_true 33280 32768 512 512 4 _ _ _ rfl rfl rfl (by decide) (by decide) wp wq, decide_eq_true h50, g1, g2]; rfl⟩
      · exact ⟨_, _, by rw [ldB65536_1, hn, ldT_true 65536 65536 0 0 8 _ _ _ rfl rfl rfl (by decide) (by decide) wp wq, decide_eq_true h50, g1, g2]; rfl⟩
      · exact ⟨_, _, by rw [ldB66048_1, hn, ldT_true 66048 65536 512 512 8 _ _ _ rfl rfl rfl (by decide) (by decide) wp wq, decide_eq_true h50, g1, g2]; rfl⟩
      · exact ⟨_, _, by rw [ldB131072_1, hn, ldT_true 131072 131072 0 0 16 _ _ _ rfl rfl rfl (by decide) (by decide) wp wq, decide_eq_true h50, g1, g2]; rfl⟩
      · exact ⟨_, _, by rw [ldB131584_1, hn, ldT_true 131584 131072 512 512 16 _ _ _ rfl rfl rfl (by decide) (by decide) wp wq, decide_eq_true h50, g1, g2]; rfl⟩
    · exact ⟨_, _, by
        rw [ldA1_ev (N : Int), hn]
        have := tailA_true N hlt hb
        unfold tailA at this
        rw [this, gd N hlt, decide_eq_true h50, g1, g2]
        simp⟩
  · have g1 : (off.ble off && ((off + len).ble (off + cap) && len.ble cap)) = true := by
      rw [Nat.ble_eq_true_of_le (Nat.le_refl off), Nat.ble_eq_true_of_le (show off + len ≤ off + cap by omega), Nat.ble_eq_true_of_le hl]; rfl
    by_cases hb : codeF (restF (N : Int)) = 0
    · rcases hits (by omega) (by omega) hb with h | h | h | h | h | h | h | h | h | h <;> rw [h] at hn
      · exact ⟨_, _, by rw [ldB8192_2, hn, ldT_true 8192 8192 0 0 1 _ _ _ rfl rfl rfl (by decide) (by decide) wp wq, decide_eq_false h50, g1]; rfl⟩
      · exact ⟨_, _, by rw [ldB8704_2, hn, ldT_true 8704 8192 512 512 1 _ _ _ rfl rfl rfl (by decide) (by decide) wp wq, decide_eq_false h50, g1]; rfl⟩
      · exact ⟨_, _, by rw [ldB16384_2, hn, ldT_true 16384 16384 0 0 2 _ _ _ rfl rfl rfl (by decide) (by decide) wp wq, decide_eq_false h50, g1]; rfl⟩
      · exact ⟨_, _, by rw [ldB16896_2, hn, ldT_true 16896 16384 512 512 2 _ _ _ rfl rfl rfl (by decide) (by decide) wp wq, decide_eq_false h50, g1]; rfl⟩
      · exact ⟨_, _, by rw [ldB32768_2, hn, ldT_true 32768 32768 0 0 4 _ _ _ rfl rfl rfl (by decide) (by decide) wp wq, decide_eq_false h50, g1]; rfl⟩
      · exact ⟨_, _, by rw [ldB33280_2, hn, ldT_true 33280 32768 512 512 4 _ _ _ rfl rfl rfl (by decide) (by decide) wp wq, decide_eq_false h50, g1]; rfl⟩
      · exact ⟨_, _, by rw [ldB65536_2, hn, ldT_true 65536 65536 0 0 8 _ _ _ rfl rfl rfl (by decide) (by decide) wp wq, decide_eq_false h50, g1]; rfl⟩
      · exact ⟨_, _, by rw [ldB66048_2, hn, ldT_true 66048 65536 512 512 8 _ _ _ rfl rfl rfl (by decide) (by decide) wp wq, decide_eq_false h50, g1]; rfl⟩
      · exact ⟨_, _, by rw [ldB131072_2, hn, ldT_true 131072 131072 0 0 16 _ _ _ rfl rfl rfl (by decide) (by decide) wp wq, decide_eq_false h50, g1]; rfl⟩
      · exact ⟨_, _, by rw [ldB131584_2, hn, ldT_true 131584 131072 512 512 16 _ _ _ rfl rfl rfl (by decide) (by decide) wp wq, decide_eq_false h50, g1]; rfl⟩
    · exact ⟨_, _, by
        rw [ldA2_ev (N : Int), hn]
        have := tailA_true N hlt hb
        unfold tailA at this
        rw [this, gd N hlt, decide_eq_false h50, g1]
        simp⟩
end Go.Proofs.YtabfnphbbdklgaaDoor

import Derived.Test.YtcmlhcabbnpibaaIrqF
set_option linter.unusedVariables false
set_option linter.unusedSimpArgs false
namespace Go.Proofs.Ytcmlhcabbnpibaa
open Go Go.R
theorem rbit {n d : Int} (hd : d = 1 ∨ d = 2 ∨ d = 4) : (wr .i64 ((n % 65536).tdiv d)).tmod 2 = n / d % 2 := by
  rw [tdiv_pos (by omega)]
  rcases hd with rfl | rfl | rfl <;> (rw [wrap_id (by omega) (by omega), tmod_pos (by omega)]; omega)
theorem rb1 (n d : Int) : (n / d % 2 == 1) = bt d n := by unfold bt; rw [Bool.eq_iff_iff]; simp
theorem rb0 (n d : Int) : (n / d % 2 == 0) = !bt d n := by unfold bt; rw [Bool.eq_iff_iff]; simp; omega
theorem rpick_eq (m l p : Int) : evCall Try.prog [sMod, sPut] 100 26 [.int .i64 m, .int .i64 l, .int .i64 p] [] (fun v _ => some v) = some (pickV m l p) := by
  rw [rpick_ev]
  simp only [rbit (Or.inl rfl), rbit (Or.inr (Or.inl rfl)), rbit (Or.inr (Or.inr rfl)), rb1, rb0]
  unfold pickV
  generalize bt 4 p = b1, bt 4 l = b2, bt 4 m = b3, bt 2 l = b4, bt 2 m = b5, bt 1 l = b6, bt 1 m = b7
  cases b1 <;> cases b2 <;> cases b3 <;> cases b4 <;> cases b5 <;> cases b6 <;> cases b7 <;> rfl
theorem andNot_mod8 (l n : Int) : bitI .andNot .i64 (l % 8) n = bitI .andNot .i64 (l % 8) (n % 8) := by
  have a1 := andNot_mod (k := 3) (by decide) (l % 8) n
  have a2 := andNot_mod (k := 3) (by decide) (l % 8) (n % 8)
  rw [show ((2 ^ 3 : Nat) : Int) = 8 from rfl] at a1 a2
  rw [show n % 8 % 8 = n % 8 by omega] at a2
  have b : ∀ y, 0 ≤ bitI .andNot .i64 (l % 8) y ∧ bitI .andNot .i64 (l % 8) y < 8 := by
    intro y
    rw [bitI_andNot, u64_of (by omega) (by omega)]
    have h : (l % 8).toNat ^^^ ((l % 8).toNat &&& u64 y) < 2 ^ 3 := Nat.xor_lt_two_pow (by omega) (Nat.lt_of_le_of_lt Nat.and_le_left (by omega))
    rw [wrap_id (by omega) (by omega)]
    omega
  have b1 := b n
  have b2 := b (n % 8)
  omega
theorem rraise_eq (m l n : Int) (on : Bool) : evCall Try.prog [sMod, sPut] 100 27 [.int .i64 m, .int .i64 l, .int .i64 n, .bool on] [] (fun v _ => some v) = some (.tup [.int .i64 (m % 8), .int .i64 (raiseL l n on)]) := by
  rw [rraise_ev]
  simp only [rbit (Or.inl rfl), rbit (Or.inr (Or.inl rfl)), rbit (Or.inr (Or.inr rfl))]
  unfold raiseL
  rw [andNot_mod8, show n / 1 % 2 = n % 8 / 1 % 2 by omega, show n / 2 % 2 = n % 8 / 2 % 2 by omega, show n / 4 % 2 = n % 8 / 4 % 2 by omega]
  have hN : n % 8 = 0 ∨ n % 8 = 1 ∨ n % 8 = 2 ∨ n % 8 = 3 ∨ n % 8 = 4 ∨ n % 8 = 5 ∨ n % 8 = 6 ∨ n % 8 = 7 := by omega
  have hL : l % 8 = 0 ∨ l % 8 = 1 ∨ l % 8 = 2 ∨ l % 8 = 3 ∨ l % 8 = 4 ∨ l % 8 = 5 ∨ l % 8 = 6 ∨ l % 8 = 7 := by omega
  generalize n % 8 = N at *
  generalize l % 8 = L at *
  rcases hN with rfl | rfl | rfl | rfl | rfl | rfl | rfl | rfl <;> rcases hL with rfl | rfl | rfl | rfl | rfl | rfl | rfl | rfl <;> cases on <;> rfl
theorem rwrite_eq (m l n b : Int) : evCall Try.prog [sMod, sPut] 100 28 [.int .i64 m, .int .i64 l, .int .i64 n, .int .i64 b] [] (fun v _ => some v) = some (.tup [.int .i64 (writeM m n b), .int .i64 (writeL l n)]) := by
  rw [rwrite_ev, ceq, ceq]
  have h : isO (l % 8) = true := by simp only [isO, Bool.and_eq_true, decide_eq_true_eq]; omega
  rw [h]
  unfold writeM writeL
  by_cases h2 : n = 2
  · rw [if_pos h2, if_pos h2, if_pos h2]
  · rw [if_neg h2, if_neg h2, if_neg h2]
    by_cases h3 : n = 3
    · rw [if_pos h3, if_pos h3, if_pos h3]
      simp only [Bool.and_self, cond_true]
      congr 5
      unfold putN
      simp only [cond_false]; omega
    · rw [if_neg h3, if_neg h3, if_neg h3]
theorem rread_eq (m l n : Int) : evCall Try.prog [sMod, sPut] 100 29 [.int .i64 m, .int .i64 l, .int .i64 n] [] (fun v _ => some v) = some (.int .i64 (readN m l n)) := by
  rw [rread_ev, ceq, ceq]
  unfold readN
  split
  · rfl
  · split <;> rfl
end Go.Proofs.Ytcmlhcabbnpibaa

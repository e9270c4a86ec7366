import Derived.Test.YtecbemlfhmepfaaAluP
set_option linter.unusedVariables false
set_option linter.unusedSimpArgs false
namespace Go.Proofs.Ytecbemlfhmepfaa
open Go Go.R
theorem xor_back {a m : Int} (ha : isByte a = true) : xorN (xorN a m) m = a := by
  have ha := byteI ha
  unfold xorN
  rw [Int.toNat_natCast, Nat.xor_assoc, Nat.xor_self, Nat.xor_zero]; omega
theorem not_nat {a m : Int} (ha : isByte a = true) (hm : isByte m = true) : m - andN a m = ((m.toNat ^^^ (m.toNat &&& a.toNat) : Nat) : Int) := by
  rw [← notN_eq ha hm]
  have ha := byteI ha
  have hm := byteI hm
  exact andNot_nat (by omega) (by omega) (by omega) (by omega)
theorem or_not {a m : Int} (ha : isByte a = true) (hm : isByte m = true) : orN a (m - andN a m) = orN m a := by
  rw [not_nat ha hm]
  unfold orN
  rw [Int.toNat_natCast]
  congr 1
  apply Nat.eq_of_testBit_eq
  intro i
  simp only [Nat.testBit_or, Nat.testBit_xor, Nat.testBit_and]
  cases a.toNat.testBit i <;> cases m.toNat.testBit i <;> rfl
theorem aluLogic_ok (n : Int) (_ : IntKind.i64.has n) (o : Int) (_ : IntKind.i64.has o) (p : Int) (_ : IntKind.i64.has p) :
    evCallH Try.prog [sDoP] [(20, .int .i64 (n % 256)), (22, .int .i64 (o % 256)), (28, .int .i64 (xorN (n % 256) (o % 256))), (35, .int .i64 (n % 256)), (42, .int .i64 (andN (n % 256) (o % 256))), (49, .int .i64 (orN (n % 256) (o % 256))), (56, .int .i64 (o % 256 - andN (n % 256) (o % 256))), (63, .int .i64 (orN (o % 256) (n % 256)))] 100 8 [.int .i64 n, .int .i64 o, .int .i64 p] [] asB = some true := by
  refine (lawLogic_ev n o p _ _ _ _ _ _ _ _).trans ?_
  rw [and_m8, and_m8]
  have ha := byteB n
  have hm := byteB o
  generalize n % 256 = a at *
  generalize o % 256 = m at *
  generalize p % 256 = c at *
  have hx := each_byte (op := 2) ha hm
  have hle := andN_le ha hm
  have ha' := byteI ha
  have hm' := byteI hm
  have ht : isByte (m - andN a m) = true := by simp only [isByte, Bool.and_eq_true, decide_eq_true_eq]; omega
  have hv := byteI (each_byte (op := 0) ha hm)
  have hv' : 0 ≤ orN a m ∧ orN a m < 256 := hv
  rw [byteM ha, byteM hm, byteM (show isByte (xorN a m) = true from hx), byteM ht]
  rw [show dR 2 a m c = xorN a m from rfl, show dR 2 (xorN a m) m c = xorN (xorN a m) m from rfl, show dR 1 a m c = andN a m from rfl, show dR 0 a m c = orN a m from rfl, show dR 8 a m c = m - andN a m from rfl, show dR 7 a (m - andN a m) c = orN a (m - andN a m) from rfl]
  rw [xor_back ha, or_not ha hm, notN_eq ha hm, orI hm ha, wrap_id (n := andN a m + orN a m) (by omega) (by omega), wrap_id (n := a + m) (by omega) (by omega), wrap_id (n := orN a m - andN a m) (by omega) (by omega)]
  rw [xorN_eq ha hm, show andN a m + orN a m = a + m by rw [orN_eq ha hm]; omega, show orN a m - andN a m = a + m - 2 * andN a m by rw [orN_eq ha hm]; omega]
  simp only [beq_self_eq_true, cond_true]
theorem and125 {q c : Int} (hq : isByte q = true) (hc : isByte c = true) (h : q / 4 % 32 = c / 4 % 32) (h2 : q % 2 = c % 2) : bitI .and .i64 q 125 = bitI .and .i64 c 125 := by
  have a1 : ∀ x, x < 256 → Nat.beq (x &&& 125) (x / 4 % 32 * 4 + x % 2) = true := allB_spec (by decide +kernel)
  have hs := byteI hq
  have hm := byteI hc
  have e1 := Nat.eq_of_beq_eq_true (a1 q.toNat (by omega))
  have e2 := Nat.eq_of_beq_eq_true (a1 c.toNat (by omega))
  rw [and_nat (by omega) (by omega) (by omega) (by omega), and_nat (by omega) (by omega) (by omega) (by omega), show Int.toNat 125 = 125 from rfl, e1, e2]
  omega
theorem and130 {q : Int} (hq : isByte q = true) : bitI .and .i64 q 130 = q / 128 * 128 + q / 2 % 2 * 2 := by
  have a1 : ∀ x, x < 256 → Nat.beq (x &&& 130) (x / 128 * 128 + x / 2 % 2 * 2) = true := allB_spec (by decide +kernel)
  have hs := byteI hq
  have e1 := Nat.eq_of_beq_eq_true (a1 q.toNat (by omega))
  rw [and_nat (by omega) (by omega) (by omega) (by omega), show Int.toNat 130 = 130 from rfl, e1]
  omega
theorem and_lit (n c : Int) (h0 : 0 ≤ c) (h1 : c < 256) : 0 ≤ bitI .and .i64 n c ∧ bitI .and .i64 n c < 256 := by
  rw [bitI_and, u64_of h0 (by omega)]
  have : u64 n &&& c.toNat ≤ c.toNat := Nat.and_le_right
  rw [wrap_id (by omega) (by omega)]
  omega
/-- a mask below 256 sees a number's byte -/
theorem low8 (n c : Int) (h0 : 0 ≤ c) (h1 : c < 256) : bitI .and .i64 n c = bitI .and .i64 (n % 256) c := by
  have a1 := and_mod (k := 8) (by decide) n c
  have a2 := and_mod (k := 8) (by decide) (n % 256) c
  rw [show ((2 ^ 8 : Nat) : Int) = 256 from rfl] at a1 a2
  have b1 := and_lit n c h0 h1
  have b2 := and_lit (n % 256) c h0 h1
  rw [show n % 256 % 256 = n % 256 by omega] at a2
  omega
end Go.Proofs.Ytecbemlfhmepfaa

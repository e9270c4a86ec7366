import Derived.Test.YtecbemlfhmepfaaAluL
set_option linter.unusedVariables false
set_option linter.unusedSimpArgs false
namespace Go.Proofs.Ytecbemlfhmepfaa
open Go Go.R
/-- what an operation leaves: the result, the flags -/
def dR (op a m p : Int) : Int :=
  if isEach op = true then eachV op a m else if op = 3 then adcR a m p else if op = 4 then sbcR a m p else if isShift op = true then shiftR op m p else if op = 13 then (m + 1) % 256 else if op = 14 then (m + 255) % 256 else if op = 15 then m else a
def dQ (op a m p : Int) : Int :=
  if op = 0 ∨ op = 1 ∨ op = 2 then nz p (eachV op a m) else if op = 3 then adcQ a m p else if op = 4 then sbcQ a m p else if op = 5 then setF (nz p ((a - m) % 256)) 1 (decide (a ≥ m)) else if op = 6 then testV p m (andN a m == 0)
  else if op = 7 ∨ op = 8 then testV p m (eachV op a m == 0) else if isShift op = true then shiftQ op m p else if op = 13 then nz p ((m + 1) % 256) else if op = 14 then nz p ((m + 255) % 256) else if op = 15 then nz p m else p
theorem xor255_all : ∀ m, m < 256 → Nat.beq (m ^^^ 255) (255 - m) = true := allB_spec (by decide +kernel)
theorem xor255 {m : Int} (h : isByte m = true) : bitI .xor .i64 m 255 = 255 - m := by
  have h := byteI h
  have h3 := Nat.eq_of_beq_eq_true (xor255_all m.toNat (by omega))
  rw [xor_nat (by omega) (by omega) (by omega) (by omega), show Int.toNat 255 = 255 from rfl, h3]; omega
theorem byte255 {m : Int} (h : isByte m = true) : isByte (255 - m) = true := by
  have h := byteI h
  simp only [isByte, Bool.and_eq_true, decide_eq_true_eq]; omega
theorem orI {a m : Int} (ha : isByte a = true) (hm : isByte m = true) : bitI .or .i64 a m = orN a m := by
  have ha := byteI ha
  have hm := byteI hm
  exact or_nat (by omega) (by omega) (by omega) (by omega)
theorem orC {a m : Int} : orN m a = orN a m := by unfold orN; rw [Nat.or_comm]
theorem andI {a m : Int} (ha : isByte a = true) (hm : isByte m = true) : bitI .and .i64 a m = andN a m := by
  have ha := byteI ha
  have hm := byteI hm
  exact and_nat (by omega) (by omega) (by omega) (by omega)
theorem xorI {a m : Int} (ha : isByte a = true) (hm : isByte m = true) : bitI .xor .i64 a m = xorN a m := by
  have ha := byteI ha
  have hm := byteI hm
  exact xor_nat (by omega) (by omega) (by omega) (by omega)
theorem each_byte {op a m : Int} (ha : isByte a = true) (hm : isByte m = true) : isByte (eachV op a m) = true := by
  have h1 := orN_eq ha hm
  have h2 := xorN_eq ha hm
  have h3 := andN_le ha hm
  have h4 : orN a m < 2 ^ 8 := by
    have ha := byteI ha
    have hm := byteI hm
    have : a.toNat ||| m.toNat < 2 ^ 8 := Nat.or_lt_two_pow (by omega) (by omega)
    unfold orN; omega
  have h5 : xorN a m < 2 ^ 8 := by
    have ha := byteI ha
    have hm := byteI hm
    have : a.toNat ^^^ m.toNat < 2 ^ 8 := Nat.xor_lt_two_pow (by omega) (by omega)
    unfold xorN; omega
  have h6 : 0 ≤ orN a m := by unfold orN; omega
  have h7 : 0 ≤ xorN a m := by unfold xorN; omega
  have ha := byteI ha
  have hm := byteI hm
  simp only [isByte, Bool.and_eq_true, decide_eq_true_eq]
  unfold eachV
  split
  · omega
  · split
    · omega
    · split
      · omega
      · omega
theorem isD_bt {p : Int} : (bitI .and .i64 p 8 == 0) = !isD p := by
  rw [(bt8 p).1]
  unfold bt isD
  rw [Bool.eq_iff_iff]; simp
theorem modB {a : Int} (h : isByte a = true) (n : Int) (e : n % 256 = a) : (n % 256 == a) = true := by rw [e]; simp
end Go.Proofs.Ytecbemlfhmepfaa

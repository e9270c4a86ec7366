import Derived.Test.YtecbemlfhmepfaaAluOA
import Derived.Test.YtecbemlfhmepfaaAluQ
set_option linter.unusedVariables false
set_option linter.unusedSimpArgs false
namespace Go.Proofs.Ytecbemlfhmepfaa
open Go Go.R
/-- D, I, B and T stay -/
def midB (q p : Int) : Prop := isByte q = true ∧ q / 4 % 16 = p / 4 % 16
theorem mid_set {q p f : Int} {on : Bool} (h : midB q p) (hf : isFlag f = true) : midB (setF q f on) p := by
  obtain ⟨h1, h2⟩ := h
  refine ⟨setF_byte h1 hf, ?_⟩
  rw [← h2]
  have := byteI h1
  unfold setF
  rcases flag_cases hf with rfl | rfl | rfl | rfl <;> cases on <;> simp only [cond_true, cond_false] <;> omega
theorem mid_nz {q p b : Int} (h : midB q p) : midB (nz q b) p := mid_set (mid_set h rfl) rfl
theorem mid_test {q p m : Int} {on : Bool} (h : midB q p) : midB (testV q m on) p := mid_set (mid_set (mid_set h rfl) rfl) rfl
theorem mid_sum {a m q p : Int} (h : midB q p) : midB (sumQ a m q) p := mid_set (mid_set (mid_nz h) rfl) rfl
theorem shift_byte {op m p : Int} (hm : isByte m = true) : isByte (shiftR op m p) = true := by
  have hm := byteI hm
  simp only [isByte, Bool.and_eq_true, decide_eq_true_eq]
  unfold shiftR
  split
  · omega
  · split
    · omega
    · split
      · omega
      · omega
theorem dR_byte {op a m p : Int} (ha : isByte a = true) (hm : isByte m = true) : isByte (dR op a m p) = true := by
  unfold dR
  split
  · exact each_byte ha hm
  · split
    · unfold adcR; cases isD p
      · exact byteB _
      · exact addR_byte
    · split
      · unfold sbcR; cases isD p
        · exact byteB _
        · exact subR_byte
      · split
        · exact shift_byte hm
        · split
          · exact byteB _
          · split
            · exact byteB _
            · split
              · exact hm
              · exact ha
theorem dQ_mid {op a m p : Int} (hp : isByte p = true) : midB (dQ op a m p) p := by
  have h0 : midB p p := ⟨hp, rfl⟩
  unfold dQ
  split
  · exact mid_nz h0
  · split
    · unfold adcQ; cases isD p
      · exact mid_sum h0
      · exact mid_set (mid_nz h0) rfl
    · split
      · unfold sbcQ; cases isD p
        · exact mid_sum h0
        · exact mid_set (mid_nz h0) rfl
      · split
        · exact mid_set (mid_nz h0) rfl
        · split
          · exact mid_test h0
          · split
            · exact mid_test h0
            · split
              · exact mid_set (mid_nz h0) rfl
              · split
                · exact mid_nz h0
                · split
                  · exact mid_nz h0
                  · split
                    · exact mid_nz h0
                    · exact h0
theorem and60 {q : Int} (hq : isByte q = true) : bitI .and .i64 q 60 = q / 4 % 16 * 4 := by
  have a1 : ∀ x, x < 256 → Nat.beq (x &&& 60) (x / 4 % 16 * 4) = true := allB_spec (by decide +kernel)
  have hs := byteI hq
  have e1 := Nat.eq_of_beq_eq_true (a1 q.toNat (by omega))
  rw [and_nat (by omega) (by omega) (by omega) (by omega), show Int.toNat 60 = 60 from rfl, e1]
  omega
theorem aluAll_ok (a : Int) (_ : IntKind.i64.has a) (m : Int) (_ : IntKind.i64.has m) (p : Int) (_ : IntKind.i64.has p) :
    evCallH Try.prog [sDoP] [] 100 4 [.int .i64 a, .int .i64 m, .int .i64 p] [] asB = some true := by
  refine (lawAll_ev a m p).trans ?_
  rw [low8 p 60 (by omega) (by omega)]
  have ha := byteB a
  have hm := byteB m
  have hp := byteB p
  generalize a % 256 = a at *
  generalize m % 256 = m at *
  generalize p % 256 = c at *
  have lo : ∀ op, decide (dR op a m c < 0) = false := fun op => decide_eq_false (by have := byteI (dR_byte (op := op) (p := c) ha hm); omega)
  have hi : ∀ op, decide (dR op a m c > 255) = false := fun op => decide_eq_false (by have := byteI (dR_byte (op := op) (p := c) ha hm); omega)
  have qlo : ∀ op, decide (dQ op a m c < 0) = false := fun op => decide_eq_false (by have := byteI (dQ_mid (op := op) (a := a) (m := m) hp).1; omega)
  have qhi : ∀ op, decide (dQ op a m c > 255) = false := fun op => decide_eq_false (by have := byteI (dQ_mid (op := op) (a := a) (m := m) hp).1; omega)
  have q60 : ∀ op, (bitI .and .i64 (dQ op a m c) 60 != bitI .and .i64 c 60) = false := fun op => by
    have h := dQ_mid (op := op) (a := a) (m := m) hp
    rw [and60 h.1, and60 hp, h.2, bne_self_eq_false]
  simp only [lo, hi, qlo, qhi, q60, cond_false]
end Go.Proofs.Ytecbemlfhmepfaa

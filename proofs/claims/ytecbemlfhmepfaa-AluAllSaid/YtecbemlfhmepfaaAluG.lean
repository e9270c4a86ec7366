import Derived.Test.YtecbemlfhmepfaaAluF
set_option linter.unusedVariables false
set_option linter.unusedSimpArgs false
namespace Go.Proofs.Ytecbemlfhmepfaa
open Go Go.R
def andN (a m : Int) : Int := ((a.toNat &&& m.toNat : Nat) : Int)
def orN (a m : Int) : Int := ((a.toNat ||| m.toNat : Nat) : Int)
def xorN (a m : Int) : Int := ((a.toNat ^^^ m.toNat : Nat) : Int)
theorem and_bits {A M : Nat} (hA : A < 256) (hM : M < 256) : A &&& M = (A / 1 % 2) * (M / 1 % 2) * 1 + (A / 2 % 2) * (M / 2 % 2) * 2 + (A / 4 % 2) * (M / 4 % 2) * 4 + (A / 8 % 2) * (M / 8 % 2) * 8 + (A / 16 % 2) * (M / 16 % 2) * 16 + (A / 32 % 2) * (M / 32 % 2) * 32 + (A / 64 % 2) * (M / 64 % 2) * 64 + (A / 128 % 2) * (M / 128 % 2) * 128 := by
  have h0 := and_step A M
  have h1 := and_step (A / 2) (M / 2)
  have h2 := and_step (A / 4) (M / 4)
  have h3 := and_step (A / 8) (M / 8)
  have h4 := and_step (A / 16) (M / 16)
  have h5 := and_step (A / 32) (M / 32)
  have h6 := and_step (A / 64) (M / 64)
  have h7 := and_step (A / 128) (M / 128)
  simp only [Nat.div_div_eq_div_mul, Nat.reduceMul] at h0 h1 h2 h3 h4 h5 h6 h7
  rw [show A / 256 = 0 by omega, Nat.zero_and] at h7
  rw [Nat.div_one, Nat.div_one]
  omega
theorem or_and (a m : Nat) : (a ||| m) + (a &&& m) = a + m := by
  induction a using Nat.strongRecOn generalizing m with
  | _ a ih =>
    by_cases h : a = 0
    · subst h; simp
    · have h1 := and_step a m
      have h2 := or_step a m
      have h3 := ih (a / 2) (by omega) (m / 2)
      omega
theorem xor_and (a m : Nat) : (a ^^^ m) + 2 * (a &&& m) = a + m := by
  induction a using Nat.strongRecOn generalizing m with
  | _ a ih =>
    by_cases h : a = 0
    · subst h; simp
    · have h1 := and_step a m
      have h2 := xor_step a m
      have h3 := ih (a / 2) (by omega) (m / 2)
      omega
theorem orN_eq {a m : Int} (ha : isByte a = true) (hm : isByte m = true) : orN a m = a + m - andN a m := by
  have ha := byteI ha
  have hm := byteI hm
  have := or_and a.toNat m.toNat
  unfold orN andN; omega
theorem xorN_eq {a m : Int} (ha : isByte a = true) (hm : isByte m = true) : xorN a m = a + m - 2 * andN a m := by
  have ha := byteI ha
  have hm := byteI hm
  have := xor_and a.toNat m.toNat
  unfold xorN andN; omega
theorem notN_eq {a m : Int} (ha : isByte a = true) (hm : isByte m = true) : bitI .andNot .i64 m a = m - andN a m := by
  have ha := byteI ha
  have hm := byteI hm
  rw [andNot_nat (by omega) (by omega) (by omega) (by omega)]
  have h1 := xor_and m.toNat (m.toNat &&& a.toNat)
  rw [← Nat.and_assoc, Nat.and_self] at h1
  unfold andN
  rw [Nat.and_comm a.toNat]
  have : m.toNat &&& a.toNat ≤ m.toNat := Nat.and_le_left
  omega
theorem bprod (x y : Int) : 0 ≤ x % 2 * (y % 2) ∧ x % 2 * (y % 2) ≤ 1 ∧ x % 2 * (y % 2) ≤ x % 2 ∧ x % 2 * (y % 2) ≤ y % 2 := by
  rcases Int.emod_two_eq x with h | h <;> rcases Int.emod_two_eq y with h' | h' <;> rw [h, h'] <;> decide
theorem andN_bits {a m : Int} (ha : isByte a = true) (hm : isByte m = true) : andN a m = (a / 1 % 2) * (m / 1 % 2) * 1 + (a / 2 % 2) * (m / 2 % 2) * 2 + (a / 4 % 2) * (m / 4 % 2) * 4 + (a / 8 % 2) * (m / 8 % 2) * 8 + (a / 16 % 2) * (m / 16 % 2) * 16 + (a / 32 % 2) * (m / 32 % 2) * 32 + (a / 64 % 2) * (m / 64 % 2) * 64 + (a / 128 % 2) * (m / 128 % 2) * 128 := by
  have ha := byteI ha
  have hm := byteI hm
  obtain ⟨A, rfl⟩ := Int.eq_ofNat_of_zero_le ha.1
  obtain ⟨M, rfl⟩ := Int.eq_ofNat_of_zero_le hm.1
  have h := congrArg (fun n : Nat => (n : Int)) (and_bits (A := A) (M := M) (by omega) (by omega))
  unfold andN
  rw [Int.toNat_natCast, Int.toNat_natCast]
  refine h.trans ?_
  push_cast
  rfl
theorem andN_le {a m : Int} (ha : isByte a = true) (hm : isByte m = true) : 0 ≤ andN a m ∧ andN a m ≤ a ∧ andN a m ≤ m := by
  have ha := byteI ha
  have hm := byteI hm
  have h1 : a.toNat &&& m.toNat ≤ a.toNat := Nat.and_le_left
  have h2 : a.toNat &&& m.toNat ≤ m.toNat := Nat.and_le_right
  unfold andN; omega
theorem wr_is {x y : Int} (h : x = y) (h1 : -9223372036854775808 ≤ y) (h2 : y < 9223372036854775808) : wr .i64 x = y := by rw [h]; exact wrap_id h1 h2
def eachV (op a m : Int) : Int := if op = 0 ∨ op = 7 then orN a m else if op = 1 then andN a m else if op = 2 then xorN a m else m - andN a m
theorem sumB {a : Int} (ha : isByte a = true) : a / 1 % 2 * 1 + a / 2 % 2 * 2 + a / 4 % 2 * 4 + a / 8 % 2 * 8 + a / 16 % 2 * 16 + a / 32 % 2 * 32 + a / 64 % 2 * 64 + a / 128 % 2 * 128 = a := by
  have ha := byteI ha
  omega
theorem orT (x1 x2 x4 x8 x16 x32 x64 x128 y1 y2 y4 y8 y16 y32 y64 y128 : Int) : 0 + (x1 + y1 - x1 * y1) * 1 + (x2 + y2 - x2 * y2) * 2 + (x4 + y4 - x4 * y4) * 4 + (x8 + y8 - x8 * y8) * 8 + (x16 + y16 - x16 * y16) * 16 + (x32 + y32 - x32 * y32) * 32 + (x64 + y64 - x64 * y64) * 64 + (x128 + y128 - x128 * y128) * 128 = (x1 * 1 + x2 * 2 + x4 * 4 + x8 * 8 + x16 * 16 + x32 * 32 + x64 * 64 + x128 * 128) + (y1 * 1 + y2 * 2 + y4 * 4 + y8 * 8 + y16 * 16 + y32 * 32 + y64 * 64 + y128 * 128) - (x1 * y1 * 1 + x2 * y2 * 2 + x4 * y4 * 4 + x8 * y8 * 8 + x16 * y16 * 16 + x32 * y32 * 32 + x64 * y64 * 64 + x128 * y128 * 128) := by
  simp only [Int.sub_mul, Int.add_mul]; omega
theorem xorT (x1 x2 x4 x8 x16 x32 x64 x128 y1 y2 y4 y8 y16 y32 y64 y128 : Int) : 0 + (x1 + y1 - 2 * x1 * y1) * 1 + (x2 + y2 - 2 * x2 * y2) * 2 + (x4 + y4 - 2 * x4 * y4) * 4 + (x8 + y8 - 2 * x8 * y8) * 8 + (x16 + y16 - 2 * x16 * y16) * 16 + (x32 + y32 - 2 * x32 * y32) * 32 + (x64 + y64 - 2 * x64 * y64) * 64 + (x128 + y128 - 2 * x128 * y128) * 128 = (x1 * 1 + x2 * 2 + x4 * 4 + x8 * 8 + x16 * 16 + x32 * 32 + x64 * 64 + x128 * 128) + (y1 * 1 + y2 * 2 + y4 * 4 + y8 * 8 + y16 * 16 + y32 * 32 + y64 * 64 + y128 * 128) - 2 * (x1 * y1 * 1 + x2 * y2 * 2 + x4 * y4 * 4 + x8 * y8 * 8 + x16 * y16 * 16 + x32 * y32 * 32 + x64 * y64 * 64 + x128 * y128 * 128) := by
  simp only [Int.sub_mul, Int.add_mul, Int.mul_assoc]; omega
theorem notT (x1 x2 x4 x8 x16 x32 x64 x128 y1 y2 y4 y8 y16 y32 y64 y128 : Int) : 0 + (y1 - x1 * y1) * 1 + (y2 - x2 * y2) * 2 + (y4 - x4 * y4) * 4 + (y8 - x8 * y8) * 8 + (y16 - x16 * y16) * 16 + (y32 - x32 * y32) * 32 + (y64 - x64 * y64) * 64 + (y128 - x128 * y128) * 128 = (y1 * 1 + y2 * 2 + y4 * 4 + y8 * 8 + y16 * 16 + y32 * 32 + y64 * 64 + y128 * 128) - (x1 * y1 * 1 + x2 * y2 * 2 + x4 * y4 * 4 + x8 * y8 * 8 + x16 * y16 * 16 + x32 * y32 * 32 + x64 * y64 * 64 + x128 * y128 * 128) := by
  simp only [Int.sub_mul, Int.add_mul]; omega
theorem andT (x1 x2 x4 x8 x16 x32 x64 x128 y1 y2 y4 y8 y16 y32 y64 y128 : Int) : 0 + (x1 * y1) * 1 + (x2 * y2) * 2 + (x4 * y4) * 4 + (x8 * y8) * 8 + (x16 * y16) * 16 + (x32 * y32) * 32 + (x64 * y64) * 64 + (x128 * y128) * 128 = (x1 * y1 * 1 + x2 * y2 * 2 + x4 * y4 * 4 + x8 * y8 * 8 + x16 * y16 * 16 + x32 * y32 * 32 + x64 * y64 * 64 + x128 * y128 * 128) := by omega
def isEach (op : Int) : Bool := op == 0 || op == 1 || op == 2 || op == 7 || op == 8
theorem each_eq {op a m : Int} (ho : isEach op = true) (ha : isByte a = true) (hm : isByte m = true) : evCall Try.prog [sMod, sRWord] 100 24 [.int .i64 op, .int .i64 a, .int .i64 m] [] (fun v _ => some v) = some (.int .i64 (eachV op a m)) := by
  have e1 := bitx (d := 1) ha (by omega)
  have e2 := bitx (d := 2) ha (by omega)
  have e3 := bitx (d := 4) ha (by omega)
  have e4 := bitx (d := 8) ha (by omega)
  have e5 := bitx (d := 16) ha (by omega)
  have e6 := bitx (d := 32) ha (by omega)
  have e7 := bitx (d := 64) ha (by omega)
  have e8 := bitx (d := 128) ha (by omega)
  have f1 := bitx (d := 1) hm (by omega)
  have f2 := bitx (d := 2) hm (by omega)
  have f3 := bitx (d := 4) hm (by omega)
  have f4 := bitx (d := 8) hm (by omega)
  have f5 := bitx (d := 16) hm (by omega)
  have f6 := bitx (d := 32) hm (by omega)
  have f7 := bitx (d := 64) hm (by omega)
  have f8 := bitx (d := 128) hm (by omega)
  have hb := andN_bits ha hm
  have sa := sumB ha
  have sm := sumB hm
  have hle := andN_le ha hm
  have ho' : op = 0 ∨ op = 1 ∨ op = 2 ∨ op = 7 ∨ op = 8 := by simp only [isEach, Bool.or_eq_true, beq_iff_eq] at ho; omega
  have hA := byteI ha
  have hM := byteI hm
  have g1 := orN_eq ha hm
  have g2 := xorN_eq ha hm
  rcases ho' with rfl | rfl | rfl | rfl | rfl
  · rw [each0_ev]
    simp only [e1, e2, e3, e4, e5, e6, e7, e8, f1, f2, f3, f4, f5, f6, f7, f8, wr_add_l, wr_add_r, wr_sub_l, wr_sub_r, wr_mul_l, wr_mul_r]
    show _ = some (V.int .i64 (orN a m))
    rw [g1]
    refine congrArg (fun x => some (V.int .i64 x)) (wr_is ?_ (by omega) (by omega))
    refine (orT _ _ _ _ _ _ _ _ _ _ _ _ _ _ _ _).trans ?_
    rw [sa, sm, ← hb]
  · rw [each1_ev]
    simp only [e1, e2, e3, e4, e5, e6, e7, e8, f1, f2, f3, f4, f5, f6, f7, f8, wr_add_l, wr_add_r, wr_sub_l, wr_sub_r, wr_mul_l, wr_mul_r]
    show _ = some (V.int .i64 (andN a m))
    refine congrArg (fun x => some (V.int .i64 x)) (wr_is ?_ (by omega) (by omega))
    refine (andT _ _ _ _ _ _ _ _ _ _ _ _ _ _ _ _).trans ?_
    rw [← hb]
  · rw [each2_ev]
    simp only [e1, e2, e3, e4, e5, e6, e7, e8, f1, f2, f3, f4, f5, f6, f7, f8, wr_add_l, wr_add_r, wr_sub_l, wr_sub_r, wr_mul_l, wr_mul_r]
    show _ = some (V.int .i64 (xorN a m))
    rw [g2]
    refine congrArg (fun x => some (V.int .i64 x)) (wr_is ?_ (by omega) (by omega))
    refine (xorT _ _ _ _ _ _ _ _ _ _ _ _ _ _ _ _).trans ?_
    rw [sa, sm, ← hb]
  · rw [each7_ev]
    simp only [e1, e2, e3, e4, e5, e6, e7, e8, f1, f2, f3, f4, f5, f6, f7, f8, wr_add_l, wr_add_r, wr_sub_l, wr_sub_r, wr_mul_l, wr_mul_r]
    show _ = some (V.int .i64 (orN a m))
    rw [g1]
    refine congrArg (fun x => some (V.int .i64 x)) (wr_is ?_ (by omega) (by omega))
    refine (orT _ _ _ _ _ _ _ _ _ _ _ _ _ _ _ _).trans ?_
    rw [sa, sm, ← hb]
  · rw [each8_ev]
    simp only [e1, e2, e3, e4, e5, e6, e7, e8, f1, f2, f3, f4, f5, f6, f7, f8, wr_add_l, wr_add_r, wr_sub_l, wr_sub_r, wr_mul_l, wr_mul_r]
    show _ = some (V.int .i64 (m - andN a m))
    refine congrArg (fun x => some (V.int .i64 x)) (wr_is ?_ (by omega) (by omega))
    refine (notT _ _ _ _ _ _ _ _ _ _ _ _ _ _ _ _).trans ?_
    rw [sm, ← hb]
def sEach : Summ Try.prog := mkPure [sMod, sRWord] hN hM 24 100 (fun args => match args with | [.int .i64 op, .int .i64 a, .int .i64 m] => some (isEach op && isByte a && isByte m, .int .i64 (eachV op a m)) | _ => none) (by
  intro args v h
  split at h
  · simp only [Option.some.injEq, Prod.mk.injEq, Bool.and_eq_true] at h; obtain ⟨hc, rfl⟩ := h; exact ⟨rfl, rfl, [], each_eq hc.1.1 hc.1.2 hc.2⟩
  · cases h)
end Go.Proofs.Ytecbemlfhmepfaa

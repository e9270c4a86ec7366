import Derived.Test.YtcmlhcabbnpibaaNzL
set_option linter.unusedVariables false
set_option linter.unusedSimpArgs false
namespace Go.Proofs.Ytcmlhcabbnpibaa
open Go Go.R
theorem jump_in (s n : Int) : 1 ≤ jumpI s n ∧ jumpI s n < 262144 := (jump_link s n).2
theorem jump_def (s n : Int) : jumpI s n = ((itX n.toNat (nst s).toNat : Nat) : Int) := rfl
theorem jump_add {s a b : Int} (ha : 0 ≤ a) (hb : 0 ≤ b) : jumpI (jumpI s a) b = jumpI s (a + b) := by
  have h := jump_in s a
  rw [jump_def (jumpI s a) b, nst_id h.1 h.2, jump_def s a, jump_def s (a + b)]
  rw [Int.toNat_natCast, ← itX_add, show (a + b).toNat = b.toNat + a.toNat by omega]
theorem jump_one {s a : Int} (ha : 0 ≤ a) : nstep (jumpI s a) = jumpI s (a + 1) := by
  have h := jump_in s a
  rw [step_link h.1 h.2, jump_def s a, jump_def s (a + 1)]
  rw [Int.toNat_natCast, show (a + 1).toNat = a.toNat + 1 by omega]; rfl
theorem noiseParts_ok (s : Int) (_ : IntKind.i64.has s) (a : Int) (_ : IntKind.i64.has a) (b : Int) (_ : IntKind.i64.has b) :
    evCallH Try.prog [sStep, sOut, sJump] [(9, .int .i64 (a % 2305843009213693952)), (11, .int .i64 (b % 2305843009213693952)), (14, .int .i64 (jumpI s (a % 2305843009213693952))), (17, .int .i64 (jumpI s (a % 2305843009213693952 + b % 2305843009213693952))), (22, .int .i64 (jumpI s (a % 2305843009213693952 + b % 2305843009213693952))), (26, .int .i64 (jumpI s (a % 2305843009213693952 + 1))), (30, .int .i64 (jumpI s (a % 2305843009213693952 + 1)))] 100 5 [.int .i64 s, .int .i64 a, .int .i64 b] [] asB = some true := by
  refine (lawParts_ev s a b _ _ _ _ _ _ _).trans ?_
  rw [and_m61, and_m61]
  have h1 : 0 ≤ a % 2305843009213693952 ∧ a % 2305843009213693952 < 2305843009213693952 := by omega
  have h2 : 0 ≤ b % 2305843009213693952 ∧ b % 2305843009213693952 < 2305843009213693952 := by omega
  generalize a % 2305843009213693952 = A at *
  generalize b % 2305843009213693952 = C at *
  rw [wrap_id (n := A + C) (by omega) (by omega), wrap_id (n := A + 1) (by omega) (by omega), jump_add h1.1 h2.1, jump_one h1.1]
  have hx := jump_in s A
  rw [decide_eq_true (show A < 9223372036854775808 by omega), decide_eq_true (show C < 9223372036854775808 by omega), decide_eq_true (show A + C < 9223372036854775808 by omega), decide_eq_true (show A + 1 < 9223372036854775808 by omega), decide_eq_true (show jumpI s A > 0 by omega), decide_eq_true (show jumpI s A < 262144 by omega)]
  simp only [beq_self_eq_true, cond_true]
theorem step_half {a b p q : Int} (a0 : 1 ≤ a) (a1 : a ≤ 131072) (b0 : 1 ≤ b) (b1 : b ≤ 131072) (pa : p = 0 ∨ p = 1) (pb : q = 0 ∨ q = 1) (h : a / 2 + p * 131072 = b / 2 + q * 131072) : a / 2 = b / 2 ∧ p = q := by omega
theorem par_half {a b u1 u2 u3 u4 : Int} (h : a / 2 = b / 2) (e : (a % 2 + u4 + u1 + u2 + u3) % 2 = (b % 2 + u4 + u1 + u2 + u3) % 2) : a = b := by omega
theorem div_div (x : Int) : x / 2048 = x / 2 / 1024 := by omega
theorem div_div2 (x : Int) : x / 4096 = x / 2 / 2048 := by omega
theorem div_div3 (x : Int) : x / 131072 = x / 2 / 65536 := by omega
theorem step_inj {a b : Int} (a0 : 1 ≤ a) (a1 : a ≤ 131072) (b0 : 1 ≤ b) (b1 : b ≤ 131072) (h : nstep a = nstep b) : a = b := by
  unfold nstep at h
  rw [nst_id a0 (Int.lt_of_le_of_lt a1 (by decide)), nst_id b0 (Int.lt_of_le_of_lt b1 (by decide))] at h
  obtain ⟨e1, e2⟩ := step_half a0 a1 b0 b1 (parN_01 a) (parN_01 b) h
  clear h
  unfold parN at e2
  rw [div_div a, div_div b, div_div2 a, div_div2 b, div_div3 a, div_div3 b, e1] at e2
  exact par_half e1 e2
theorem noiseApart_ok (s : Int) (_ : IntKind.i64.has s) (t : Int) (_ : IntKind.i64.has t) :
    evCallH Try.prog [sStep, sOut] [(7, .int .i64 (1 + s % 131072)), (10, .int .i64 (1 + t % 131072))] 100 4 [.int .i64 s, .int .i64 t] [] asB = some true := by
  refine (lawApart_ev s t _ _).trans ?_
  rw [and_m17, and_m17, wrap_id (n := 1 + s % 131072) (by omega) (by omega), wrap_id (n := 1 + t % 131072) (by omega) (by omega), beq_self_eq_true, beq_self_eq_true, cond_true, cond_true]
  have e : (nstep (1 + s % 131072) == nstep (1 + t % 131072)) = (1 + s % 131072 == 1 + t % 131072) := by
    rw [Bool.eq_iff_iff, beq_iff_eq, beq_iff_eq]
    exact ⟨fun h => step_inj (by omega) (by omega) (by omega) (by omega) h, fun h => by rw [h]⟩
  rw [e, beq_self_eq_true]; rfl
theorem noiseTells_ok (s : Int) (_ : IntKind.i64.has s) (n : Int) (_ : IntKind.i64.has n) (b : Int) (_ : IntKind.i64.has b) :
    evCallH Try.prog [sStep, sOut, sJump, sRJump, sRStep, sPeriod, sRPeriod] [] 100 6 [.int .i64 s, .int .i64 n, .int .i64 b] [] asB = some true := by
  refine (lawTells_ev s n b).trans ?_
  have h1 : n.tmod 5000 = if 0 ≤ n ∨ (5000 : Int) ∣ n then n % 5000 else n % 5000 - 5000 := by rw [Int.tmod_eq_emod]; split <;> omega
  have hr : n.tmod 5000 < 5000 := by split at h1 <;> omega
  rw [(jump_link s (n.tmod 5000)).1, decide_eq_true (show n.tmod 5000 < 9223372036854775808 by omega), decide_eq_true (show n.tmod 5000 < 4611686018427387904 by omega)]
  have h2 := nst_in s
  rw [show jumpR s 0 = nst s from rfl, tmod_pos (n := nst s) (m := 2) (by omega), wrap_id (n := nst s % 2 * 31) (by omega) (by omega)]
  simp only [beq_self_eq_true, cond_true]
end Go.Proofs.Ytcmlhcabbnpibaa

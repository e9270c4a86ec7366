import Derived.Test.YtabfnphbbdklgaaBkE
import Derived.Test.YtabfnphbbdklgaaBkG
set_option linter.unusedVariables false
set_option linter.unusedSimpArgs false
namespace Go.Proofs.Ytabfnphbbdklgaa
open Go Go.R
theorem banksTells_ok (n : Int) (_ : IntKind.i64.has n) (l : Int) (_ : IntKind.i64.has l) (p : Int) (_ : IntKind.i64.has p) : evCallH Try.prog [sPage, sRPage, sLatch, sRLatch] [] 900 7 [.int .i64 n, .int .i64 l, .int .i64 p] [] asB = some true := by
  refine (lawTells_ev n l p).trans ?_
  rw [beq_self_eq_true, beq_self_eq_true]; rfl
theorem pageV_in {n l p : Int} (h : okN n = true) (h0 : 0 ≤ p) (h1 : p < 128) : pageV n l p = pageK n l p := by unfold pageV; rw [if_pos ⟨h, h0, h1⟩]
theorem banksLatches_ok (l : Int) (_ : IntKind.i64.has l) (k : Int) (_ : IntKind.i64.has k) (p : Int) (_ : IntKind.i64.has p) : evCallH Try.prog [sPage, sRPage, sLatch, sRLatch] [] 900 9 [.int .i64 l, .int .i64 k, .int .i64 p] [] asB = some true := by
  refine (lawLatches_ev l k p).trans ?_
  rw [and_m2, and_m6]
  have e1 : latchV 320 l (wr Go.IntKind.i64 (8176 + k % 4)) = k % 4 := by
    rw [wrap_id (by omega) (by omega)]; unfold latchV; rw [if_pos (by omega)]; omega
  have e2 : latchV 320 (k % 4) 8175 = k % 4 := by unfold latchV; rw [if_neg (by omega)]
  have e3 : latchV 320 (k % 4) 8180 = k % 4 := by unfold latchV; rw [if_neg (by omega)]
  have e4 : latchV 64 (k % 4) 8176 = k % 4 := by unfold latchV; rw [if_neg (by omega)]
  rw [e1, e2, e3, e4]
  simp (disch := omega) only [wrap_id]
  rw [pageV_in rfl (by omega) (by omega), pageV_in rfl (by omega) (by omega)]
  have e5 : pageK 320 (k % 4) (64 + p % 64) = 64 + 64 * (k % 4) + p % 64 := by
    unfold pageK; rw [if_neg (by omega), if_neg (by omega), if_pos rfl, if_neg (by omega)]; omega
  have e6 : pageK 320 (k % 4) (p % 64) = p % 64 := by
    unfold pageK; rw [if_neg (by omega), if_neg (by omega), if_pos rfl, if_pos (by omega)]
  rw [e5, e6]
  simp only [beq_self_eq_true, cond_true]
theorem and_m1' (n : Int) : bitI .and .i64 n 1 = n % 2 := and_mask 1 (by decide) n 1 rfl
theorem banksRound_ok (k : Int) (_ : IntKind.i64.has k) (l : Int) (_ : IntKind.i64.has l) (p : Int) (_ : IntKind.i64.has p) : evCallH Try.prog [sPage, sRPage, sLatch, sRLatch] [] 900 6 [.int .i64 k, .int .i64 l, .int .i64 p] [] asB = some true := by
  refine (lawRound_ev k l p).trans ?_
  rw [and_m3, and_m7, and_m6]
  rw [show p % 128 % 64 = p % 64 by omega, wrap_id (n := 64 + p % 64) (by omega) (by omega)]
  have a1 : pageV 48 l (p % 64) = p % 64 % 32 := by rw [pageV_in rfl (by omega) (by omega)]; unfold pageK; rw [if_pos rfl, if_pos (by omega)]
  have a2 : pageV 48 l (64 + p % 64) = 32 + (64 + p % 64) % 16 := by rw [pageV_in rfl (by omega) (by omega)]; unfold pageK; rw [if_pos rfl, if_neg (by omega)]
  have a3 : pageV 96 l (p % 64) = p % 64 := by rw [pageV_in rfl (by omega) (by omega)]; unfold pageK; rw [if_neg (by omega), if_pos rfl, if_pos (by omega)]
  have a4 : pageV 96 l (64 + p % 64) = 64 + (64 + p % 64) % 32 := by rw [pageV_in rfl (by omega) (by omega)]; unfold pageK; rw [if_neg (by omega), if_pos rfl, if_neg (by omega)]
  rw [a1, a2, a3, a4]
  rw [decide_eq_true (show p % 64 % 32 < 32 by omega), decide_eq_true (show 32 + (64 + p % 64) % 16 ≥ 32 by omega), decide_eq_true (show 32 + (64 + p % 64) % 16 < 48 by omega), decide_eq_true (show p % 64 < 64 by omega), decide_eq_true (show 64 + (64 + p % 64) % 32 ≥ 64 by omega), decide_eq_true (show 64 + (64 + p % 64) % 32 < 96 by omega)]
  simp only [cond_true]
  have hp : pageV 1 l (p % 128) = p % 128 % 1 := by rw [pageV_in rfl (by omega) (by omega)]; rfl
  have pk : ∀ n : Int, (n = 1 ∨ n = 2 ∨ n = 4 ∨ n = 8 ∨ n = 16 ∨ n = 32 ∨ n = 64 ∨ n = 128) → pageV n l (p % 128) = p % 128 % n := by
    intro n hn
    rw [pageV_in (kind0 hn).2 (by omega) (by omega)]
    unfold pageK; rw [if_neg (by omega), if_neg (by omega), if_neg (by omega)]
  have mk : bitI .and .i64 (p % 128) 0 = 0 := by
    have := and_mod (k := 0) (by decide) (p % 128) 0
    have h2 := and_nat (x := p % 128) (y := 0) (by omega) (by omega) (by omega) (by omega)
    rw [h2]; simp
  have hk : k % 8 = 0 ∨ k % 8 = 1 ∨ k % 8 = 2 ∨ k % 8 = 3 ∨ k % 8 = 4 ∨ k % 8 = 5 ∨ k % 8 = 6 ∨ k % 8 = 7 := by omega
  rcases hk with h | h | h | h | h | h | h | h <;> rw [h]
  · rw [show wr Go.IntKind.i64 (1 * 2 ^ min (wr Go.IntKind.u64 0).toNat 64) = 1 from rfl, show wr Go.IntKind.i64 (1 - 1) = 0 from rfl, pk 1 (by omega), mk, show p % 128 % 1 = 0 by omega]; rfl
  · rw [show wr Go.IntKind.i64 (1 * 2 ^ min (wr Go.IntKind.u64 1).toNat 64) = 2 from rfl, show wr Go.IntKind.i64 (2 - 1) = 1 from rfl, pk 2 (by omega), and_m1', bne_self_eq_false]; rfl
  · rw [show wr Go.IntKind.i64 (1 * 2 ^ min (wr Go.IntKind.u64 2).toNat 64) = 4 from rfl, show wr Go.IntKind.i64 (4 - 1) = 3 from rfl, pk 4 (by omega), and_m2, bne_self_eq_false]; rfl
  · rw [show wr Go.IntKind.i64 (1 * 2 ^ min (wr Go.IntKind.u64 3).toNat 64) = 8 from rfl, show wr Go.IntKind.i64 (8 - 1) = 7 from rfl, pk 8 (by omega), and_m3, bne_self_eq_false]; rfl
  · rw [show wr Go.IntKind.i64 (1 * 2 ^ min (wr Go.IntKind.u64 4).toNat 64) = 16 from rfl, show wr Go.IntKind.i64 (16 - 1) = 15 from rfl, pk 16 (by omega), and_m4, bne_self_eq_false]; rfl
  · rw [show wr Go.IntKind.i64 (1 * 2 ^ min (wr Go.IntKind.u64 5).toNat 64) = 32 from rfl, show wr Go.IntKind.i64 (32 - 1) = 31 from rfl, pk 32 (by omega), and_m5, bne_self_eq_false]; rfl
  · rw [show wr Go.IntKind.i64 (1 * 2 ^ min (wr Go.IntKind.u64 6).toNat 64) = 64 from rfl, show wr Go.IntKind.i64 (64 - 1) = 63 from rfl, pk 64 (by omega), and_m6, bne_self_eq_false]; rfl
  · rw [show wr Go.IntKind.i64 (1 * 2 ^ min (wr Go.IntKind.u64 7).toNat 64) = 128 from rfl, show wr Go.IntKind.i64 (128 - 1) = 127 from rfl, pk 128 (by omega), and_m7, bne_self_eq_false]; rfl
theorem cardClasses_ok (n : Int) (_ : IntKind.i64.has n) : evCallH Try.prog [sClass] [(12, .int .i64 (n.tmod 1099511627776)), (40, .int .i64 (kindN (n.tmod 1099511627776))), (41, .bool (okN (n.tmod 1099511627776))), (47, .bool (okN (wr .i64 (2 * n.tmod 1099511627776))))] 9000 3 [.int .i64 n] [] asB = some true := by
  refine (lawClasses_ev n _ _ _ _).trans ?_
  have hr : -1099511627776 < n.tmod 1099511627776 ∧ n.tmod 1099511627776 < 1099511627776 := by
    have h1 : n.tmod 1099511627776 = if 0 ≤ n ∨ (1099511627776 : Int) ∣ n then n % 1099511627776 else n % 1099511627776 - 1099511627776 := by rw [Int.tmod_eq_emod]; split <;> omega
    have h2 := Int.emod_nonneg n (show (1099511627776 : Int) ≠ 0 by decide)
    have h3 := Int.emod_lt_of_pos n (show (0 : Int) < 1099511627776 by decide)
    have h4 : (0 ≤ n ∨ (1099511627776 : Int) ∣ n) ∨ n % 1099511627776 ≠ 0 := by
      by_cases h : n % 1099511627776 = 0
      · exact .inl (.inr (Int.dvd_of_emod_eq_zero h))
      · exact .inr h
    split at h1
    · omega
    · rename_i hc
      rcases h4 with h4 | h4
      · exact absurd h4 hc
      · omega
  generalize n.tmod 1099511627776 = m at *
  rw [beq_self_eq_true, show (bif m == 48 || m == 96 then (1 : Int) else bif m == 320 then 2 else 0) = kindN m from rfl, show (m == 1 || m == 2 || m == 4 || m == 8 || m == 16 || m == 32 || m == 64 || m == 128 || m == 48 || m == 96 || m == 320) = okN m from rfl]
  rw [show (wr Go.IntKind.i64 (2 * m) == 1 || wr Go.IntKind.i64 (2 * m) == 2 || wr Go.IntKind.i64 (2 * m) == 4 || wr Go.IntKind.i64 (2 * m) == 8 || wr Go.IntKind.i64 (2 * m) == 16 || wr Go.IntKind.i64 (2 * m) == 32 || wr Go.IntKind.i64 (2 * m) == 64 || wr Go.IntKind.i64 (2 * m) == 128 || wr Go.IntKind.i64 (2 * m) == 48 || wr Go.IntKind.i64 (2 * m) == 96 || wr Go.IntKind.i64 (2 * m) == 320) = okN (wr .i64 (2 * m)) from rfl]
  rw [beq_self_eq_true, beq_self_eq_true, beq_self_eq_true]
  simp only [cond_true]
  cases h : okN m with
  | false => rfl
  | true => rcases okN_cases h with rfl | rfl | rfl | rfl | rfl | rfl | rfl | rfl | rfl | rfl | rfl <;> rfl
end Go.Proofs.Ytabfnphbbdklgaa

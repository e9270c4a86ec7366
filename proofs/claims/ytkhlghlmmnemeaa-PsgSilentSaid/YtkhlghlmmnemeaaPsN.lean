import Derived.Test.YtkhlghlmmnemeaaPsM
set_option linter.unusedVariables false
set_option linter.unusedSimpArgs false
namespace Go.Proofs.Ytkhlghlmmnemeaa
open Go Go.R
theorem inR6 {k : Nat} (hk : k < 6) : inR (k : Int) 6 = true := by simp [inR]; omega
theorem fits {n : Nat} (hn : n ≤ 244) : n.ble 244 = true := by simpa using hn
section
variable {f : Nat → Int} (h : okP f = true) (b : Int)
include h
theorem wrF_ok (at_ : Int) : wrF f at_ b = cut (wrG f at_ (b % 256)) := by unfold wrF; rw [if_pos h]
theorem w0 : ∃ H, evCallH Try.prog [sValid, sByte] H 300 19 [.aggi .i64 244 f, .int .i64 0, .int .i64 b] [] (fun v _ => some v) = some (.aggi .i64 244 (wrF f 0 b)) := by
  refine ⟨_, (write0_ev f b (b % 256)).trans ?_⟩
  rw [ok_shift, h, beq_self_eq_true, beq_self_eq_true, and_m3, wrF_ok h]; rfl
theorem w1 : ∃ H, evCallH Try.prog [sValid, sByte] H 300 19 [.aggi .i64 244 f, .int .i64 1, .int .i64 b] [] (fun v _ => some v) = some (.aggi .i64 244 (wrF f 1 b)) := by
  refine ⟨_, (write1_ev f b (b % 256)).trans ?_⟩
  rw [ok_shift, h, beq_self_eq_true, beq_self_eq_true, wrF_ok h]; rfl
theorem w8 : ∃ H, evCallH Try.prog [sValid, sByte] H 300 19 [.aggi .i64 244 f, .int .i64 8, .int .i64 b] [] (fun v _ => some v) = some (.aggi .i64 244 (wrF f 8 b)) := by
  refine ⟨_, (write8_ev f b (b % 256)).trans ?_⟩
  rw [ok_shift, h, beq_self_eq_true, beq_self_eq_true, wrF_ok h]; rfl
theorem w9 : ∃ H, evCallH Try.prog [sValid, sByte] H 300 19 [.aggi .i64 244 f, .int .i64 9, .int .i64 b] [] (fun v _ => some v) = some (.aggi .i64 244 (wrF f 9 b)) := by
  refine ⟨_, (write9_ev f b (b % 256)).trans ?_⟩
  rw [ok_shift, h, beq_self_eq_true, beq_self_eq_true, wrF_ok h]; rfl
theorem w_chan (at_ : Int) (ha : at_ ≠ 0 ∧ at_ ≠ 1 ∧ at_ ≠ 8 ∧ at_ ≠ 9) : wrF f at_ b = cut (if f 0 < 6 then wrC f (4 + (f 0).toNat * 40) at_ (b % 256) (decide (f 0 ≥ 4)) else f) := by
  rw [wrF_ok h]; unfold wrG; rw [if_neg ha.1, if_neg ha.2.1, if_neg ha.2.2.1, if_neg ha.2.2.2]
theorem w2 : ∃ H, evCallH Try.prog [sValid, sByte] H 300 19 [.aggi .i64 244 f, .int .i64 2, .int .i64 b] [] (fun v _ => some v) = some (.aggi .i64 244 (wrF f 2 b)) := by
  refine ⟨_, (write2_ev f b (b % 256)).trans ?_⟩
  rw [ok_shift, h, beq_self_eq_true, beq_self_eq_true, w_chan h b 2 (by decide)]
  rcases sel_cases h with ⟨h6, k, hk, hf, hs, ht⟩ | h6
  · obtain ⟨g1, g2, g3⟩ := ch_bounds h hk
    rw [if_pos h6, decide_eq_true h6, hs, ht, hf, inR6 hk, fits (by omega)]
    rw [show 4 + k * 40 + 0 = 4 + k * 40 from rfl, freq_lo g1.1 g1.2 (by omega) (by omega)]; rfl
  · rw [if_neg h6, decide_eq_false h6]; rfl
theorem w3 : ∃ H, evCallH Try.prog [sValid, sByte] H 300 19 [.aggi .i64 244 f, .int .i64 3, .int .i64 b] [] (fun v _ => some v) = some (.aggi .i64 244 (wrF f 3 b)) := by
  refine ⟨_, (write3_ev f b (b % 256)).trans ?_⟩
  rw [ok_shift, h, beq_self_eq_true, beq_self_eq_true, w_chan h b 3 (by decide)]
  rcases sel_cases h with ⟨h6, k, hk, hf, hs, ht⟩ | h6
  · obtain ⟨g1, g2, g3⟩ := ch_bounds h hk
    rw [if_pos h6, decide_eq_true h6, hs, ht, hf, inR6 hk, fits (by omega)]
    rw [show 4 + k * 40 + 0 = 4 + k * 40 from rfl, freq_hi (by omega) (by omega)]; rfl
  · rw [if_neg h6, decide_eq_false h6]; rfl
theorem w4 : ∃ H, evCallH Try.prog [sValid, sByte] H 300 19 [.aggi .i64 244 f, .int .i64 4, .int .i64 b] [] (fun v _ => some v) = some (.aggi .i64 244 (wrF f 4 b)) := by
  refine ⟨_, (write4_ev f b (b % 256)).trans ?_⟩
  rw [ok_shift, h, beq_self_eq_true, beq_self_eq_true, w_chan h b 4 (by decide)]
  rcases sel_cases h with ⟨h6, k, hk, hf, hs, ht⟩ | h6
  · rw [if_pos h6, decide_eq_true h6, hs, ht, hf, inR6 hk, fits (show 4 + k * 40 + 1 + 1 ≤ 244 by omega), fits (show 4 + k * 40 + 36 + 1 ≤ 244 by omega), dda_on (by omega) (by omega)]
    by_cases hd : b % 256 / 64 = 1
    · rw [decide_eq_true hd]; unfold wrC; rw [if_neg (by decide), if_neg (by decide), if_pos rfl, if_pos hd]; rfl
    · rw [decide_eq_false hd]; unfold wrC; rw [if_neg (by decide), if_neg (by decide), if_pos rfl, if_neg hd]; rfl
  · rw [if_neg h6, decide_eq_false h6]; rfl
theorem w5 : ∃ H, evCallH Try.prog [sValid, sByte] H 300 19 [.aggi .i64 244 f, .int .i64 5, .int .i64 b] [] (fun v _ => some v) = some (.aggi .i64 244 (wrF f 5 b)) := by
  refine ⟨_, (write5_ev f b (b % 256)).trans ?_⟩
  rw [ok_shift, h, beq_self_eq_true, beq_self_eq_true, w_chan h b 5 (by decide)]
  rcases sel_cases h with ⟨h6, k, hk, hf, hs, ht⟩ | h6
  · rw [if_pos h6, decide_eq_true h6, hs, ht, hf, inR6 hk, fits (by omega)]; rfl
  · rw [if_neg h6, decide_eq_false h6]; rfl
theorem w6 : ∃ H, evCallH Try.prog [sValid, sByte] H 300 19 [.aggi .i64 244 f, .int .i64 6, .int .i64 b] [] (fun v _ => some v) = some (.aggi .i64 244 (wrF f 6 b)) := by
  refine ⟨_, (write6_ev f b (b % 256)).trans ?_⟩
  rw [ok_shift, h, beq_self_eq_true, beq_self_eq_true, w_chan h b 6 (by decide)]
  rcases sel_cases h with ⟨h6, k, hk, hf, hs, ht⟩ | h6
  · obtain ⟨g1, g2, g3⟩ := ch_bounds h hk
    obtain ⟨v, hv⟩ := Int.eq_ofNat_of_zero_le g3.1
    rw [if_pos h6, decide_eq_true h6, hs, ht, hf, inR6 hk, fits (show 4 + k * 40 + 1 + 1 ≤ 244 by omega), fits (show 4 + k * 40 + 36 + 1 ≤ 244 by omega), fits (show 4 + k * 40 + 39 + 1 ≤ 244 by omega), and_6b, and_m5]
    unfold wrC
    rw [if_neg (by decide), if_neg (by decide), if_neg (by decide), if_neg (by decide), if_pos rfl]
    by_cases hd : f (4 + k * 40 + 1) / 64 % 2 = 1
    · rw [if_pos hd, show (64 * (f (4 + k * 40 + 1) / 64 % 2) != 0) = true by rw [hd]; rfl]; rfl
    · rw [if_neg hd, show (64 * (f (4 + k * 40 + 1) / 64 % 2) != 0) = false by rw [show f (4 + k * 40 + 1) / 64 % 2 = 0 by omega]; rfl]
      have hw : upd1 f (4 + k * 40 + 4 + v) (b % 256 % 32) (4 + k * 40 + 36) = f (4 + k * 40 + 36) := upd1_self _ _ _ (by omega)
      rw [hv] at hw ⊢
      have e1 : scaled (v : Int) 1 = v := by rw [scaled_eq]; simp
      rw [e1, hw, show inR (v : Int) 32 = true by simp [inR]; omega, fits (show 4 + k * 40 + 4 + v + 1 ≤ 244 by omega), wrap_id (n := (v : Int) + 1) (by omega) (by omega), tmod_pos (by omega), Int.toNat_natCast]
      rfl
  · rw [if_neg h6, decide_eq_false h6]; rfl
theorem w7 : ∃ H, evCallH Try.prog [sValid, sByte] H 300 19 [.aggi .i64 244 f, .int .i64 7, .int .i64 b] [] (fun v _ => some v) = some (.aggi .i64 244 (wrF f 7 b)) := by
  refine ⟨_, (write7_ev f b (b % 256)).trans ?_⟩
  rw [ok_shift, h, beq_self_eq_true, beq_self_eq_true, w_chan h b 7 (by decide)]
  rcases sel_cases h with ⟨h6, k, hk, hf, hs, ht⟩ | h6
  · rw [if_pos h6, decide_eq_true h6, hs, ht, hf, inR6 hk, fits (by omega)]
    unfold wrC
    rw [if_neg (by decide), if_neg (by decide), if_neg (by decide), if_neg (by decide), if_neg (by decide), if_pos rfl]
    cases decide ((k : Int) ≥ 4) <;> rfl
  · rw [if_neg h6, decide_eq_false h6]; rfl
theorem wN {at_ : Int} (ha : at_ < 0 ∨ 9 < at_) : ∃ H, evCallH Try.prog [sValid, sByte] H 300 19 [.aggi .i64 244 f, .int .i64 at_, .int .i64 b] [] (fun v _ => some v) = some (.aggi .i64 244 (wrF f at_ b)) := by
  refine ⟨_, (writeN_ev f at_ b (b % 256)).trans ?_⟩
  have ne : ∀ n : Int, 0 ≤ n → n ≤ 9 → (at_ == n) = false := fun n h0 h9 => beq_eq_false_iff_ne.2 (by omega)
  rw [ok_shift, h, beq_self_eq_true, beq_self_eq_true, w_chan h b at_ (by omega), ne 0 (by decide) (by decide), ne 1 (by decide) (by decide), ne 8 (by decide) (by decide), ne 9 (by decide) (by decide), ne 2 (by decide) (by decide), ne 3 (by decide) (by decide), ne 4 (by decide) (by decide), ne 5 (by decide) (by decide), ne 6 (by decide) (by decide), ne 7 (by decide) (by decide)]
  rcases sel_cases h with ⟨h6, k, hk, hf, hs, ht⟩ | h6
  · rw [if_pos h6, decide_eq_true h6, hf, inR6 hk]
    unfold wrC
    rw [if_neg (by omega), if_neg (by omega), if_neg (by omega), if_neg (by omega), if_neg (by omega), if_neg (by omega)]; rfl
  · rw [if_neg h6, decide_eq_false h6]; rfl
end
theorem ten (at_ : Int) : (at_ < 0 ∨ 9 < at_) ∨ at_ = 0 ∨ at_ = 1 ∨ at_ = 2 ∨ at_ = 3 ∨ at_ = 4 ∨ at_ = 5 ∨ at_ = 6 ∨ at_ = 7 ∨ at_ = 8 ∨ at_ = 9 := by omega
theorem write_all (f : Nat → Int) (at_ b : Int) : ∃ H, evCallH Try.prog [sValid, sByte] H 300 19 [.aggi .i64 244 f, .int .i64 at_, .int .i64 b] [] (fun v _ => some v) = some (.aggi .i64 244 (wrF f at_ b)) := by
  cases h : okP f with
  | false =>
    refine ⟨_, (writeBad_ev f at_ b).trans ?_⟩
    rw [ok_shift, h]; unfold wrF; rw [h]; rfl
  | true =>
    rcases ten at_ with ha | rfl | rfl | rfl | rfl | rfl | rfl | rfl | rfl | rfl | rfl
    · exact wN h b ha
    · exact w0 h b
    · exact w1 h b
    · exact w2 h b
    · exact w3 h b
    · exact w4 h b
    · exact w5 h b
    · exact w6 h b
    · exact w7 h b
    · exact w8 h b
    · exact w9 h b
def sWrite : Summ Try.prog := mkPure [sValid, sByte] hN hM 19 300 (fun args => match args with | [.aggi .i64 244 f, .int .i64 at_, .int .i64 b] => some (true, .aggi .i64 244 (wrF f at_ b)) | _ => none) (by
  intro args v h; split at h
  · simp only [Option.some.injEq, Prod.mk.injEq, true_and] at h; subst h; exact ⟨rfl, rfl, write_all _ _ _⟩
  · cases h)
end Go.Proofs.Ytkhlghlmmnemeaa

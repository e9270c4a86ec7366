import Derived.Test.YtkhlghlmmnemeaaPsN
set_option linter.unusedVariables false
set_option linter.unusedSimpArgs false
namespace Go.Proofs.Ytkhlghlmmnemeaa
open Go Go.R
theorem same2 {α : Type} (c : Bool) (x : α) : cond c x x = x := by cases c <;> rfl
theorem inR6' {k : Nat} (hk : k < 6) : decide ((k : Int) > 5) = false := decide_eq_false (by omega)
section
variable {f : Nat → Int} (h : okP f = true) (b : Int)
include h
theorem r0 : ∃ H, evCallH Try.prog [sRValid, sRByte] H 300 20 [.aggi .i64 244 f, .int .i64 0, .int .i64 b] [] (fun v _ => some v) = some (.aggi .i64 244 (wrF f 0 b)) := by
  refine ⟨_, (rwrite0_ev f b (b % 256)).trans ?_⟩
  rw [ok_shift, h, beq_self_eq_true, beq_self_eq_true, same2, tmod_pos (by omega), wrF_ok h]; rfl
theorem r1 : ∃ H, evCallH Try.prog [sRValid, sRByte] H 300 20 [.aggi .i64 244 f, .int .i64 1, .int .i64 b] [] (fun v _ => some v) = some (.aggi .i64 244 (wrF f 1 b)) := by
  refine ⟨_, (rwrite1_ev f b (b % 256)).trans ?_⟩
  rw [ok_shift, h, beq_self_eq_true, beq_self_eq_true, same2, wrF_ok h]; rfl
theorem r8 : ∃ H, evCallH Try.prog [sRValid, sRByte] H 300 20 [.aggi .i64 244 f, .int .i64 8, .int .i64 b] [] (fun v _ => some v) = some (.aggi .i64 244 (wrF f 8 b)) := by
  refine ⟨_, (rwrite8_ev f b (b % 256)).trans ?_⟩
  rw [ok_shift, h, beq_self_eq_true, beq_self_eq_true, same2, wrF_ok h]; rfl
theorem r9 : ∃ H, evCallH Try.prog [sRValid, sRByte] H 300 20 [.aggi .i64 244 f, .int .i64 9, .int .i64 b] [] (fun v _ => some v) = some (.aggi .i64 244 (wrF f 9 b)) := by
  refine ⟨_, (rwrite9_ev f b (b % 256)).trans ?_⟩
  rw [ok_shift, h, beq_self_eq_true, beq_self_eq_true, same2, wrF_ok h]; rfl
theorem r2 : ∃ H, evCallH Try.prog [sRValid, sRByte] H 300 20 [.aggi .i64 244 f, .int .i64 2, .int .i64 b] [] (fun v _ => some v) = some (.aggi .i64 244 (wrF f 2 b)) := by
  refine ⟨_, (rwrite2_ev f b (b % 256)).trans ?_⟩
  rw [ok_shift, h, beq_self_eq_true, beq_self_eq_true, w_chan h b 2 (by decide)]
  rcases sel_cases h with ⟨h6, k, hk, hf, hs, ht⟩ | h6
  · obtain ⟨g1, g2, g3⟩ := ch_bounds h hk
    rw [if_pos h6, hs, ht, hf, inR6' hk, inR6 hk, fits (by omega)]
    rw [show 4 + k * 40 + 0 = 4 + k * 40 from rfl, tdiv_pos g1.1, wrap_id (n := f (4 + k * 40) / 256) (by omega) (by omega), wrap_id (n := f (4 + k * 40) / 256 * 256) (by omega) (by omega), wrap_id (n := f (4 + k * 40) / 256 * 256 + b % 256) (by omega) (by omega)]
    show some (V.aggi Go.IntKind.i64 244 (cut (upd f (4 + k * 40) 40 (fun j => upd1 (own40 f (4 + k * 40)) 0 (f (4 + k * 40) / 256 * 256 + b % 256) (0 + j))))) = _
    rw [back1 f _ 0 _ (by decide)]; rfl
  · rw [if_neg h6, decide_eq_true (show f 0 > 5 by omega)]; rfl
theorem r3 : ∃ H, evCallH Try.prog [sRValid, sRByte] H 300 20 [.aggi .i64 244 f, .int .i64 3, .int .i64 b] [] (fun v _ => some v) = some (.aggi .i64 244 (wrF f 3 b)) := by
  refine ⟨_, (rwrite3_ev f b (b % 256)).trans ?_⟩
  rw [ok_shift, h, beq_self_eq_true, beq_self_eq_true, w_chan h b 3 (by decide)]
  rcases sel_cases h with ⟨h6, k, hk, hf, hs, ht⟩ | h6
  · obtain ⟨g1, g2, g3⟩ := ch_bounds h hk
    rw [if_pos h6, hs, ht, hf, inR6' hk, inR6 hk, fits (by omega)]
    rw [show 4 + k * 40 + 0 = 4 + k * 40 from rfl, tmod_pos (n := f (4 + k * 40)) g1.1, tmod_pos (n := b % 256) (by omega), wrap_id (n := b % 256 % 16 * 256) (by omega) (by omega), wrap_id (n := f (4 + k * 40) % 256 + b % 256 % 16 * 256) (by omega) (by omega)]
    show some (V.aggi Go.IntKind.i64 244 (cut (upd f (4 + k * 40) 40 (fun j => upd1 (own40 f (4 + k * 40)) 0 (f (4 + k * 40) % 256 + b % 256 % 16 * 256) (0 + j))))) = _
    rw [back1 f _ 0 _ (by decide)]; rfl
  · rw [if_neg h6, decide_eq_true (show f 0 > 5 by omega)]; rfl
theorem r4 : ∃ H, evCallH Try.prog [sRValid, sRByte] H 300 20 [.aggi .i64 244 f, .int .i64 4, .int .i64 b] [] (fun v _ => some v) = some (.aggi .i64 244 (wrF f 4 b)) := by
  refine ⟨_, (rwrite4_ev f b (b % 256)).trans ?_⟩
  rw [ok_shift, h, beq_self_eq_true, beq_self_eq_true, w_chan h b 4 (by decide)]
  rcases sel_cases h with ⟨h6, k, hk, hf, hs, ht⟩ | h6
  · rw [if_pos h6, hs, ht, hf, inR6' hk, inR6 hk, fits (by omega)]
    rw [tdiv_pos (n := b % 256) (by omega), wrap_id (n := b % 256 / 64) (by omega) (by omega)]
    unfold wrC
    rw [if_neg (by decide), if_neg (by decide), if_pos rfl]
    by_cases hd : b % 256 / 64 = 1
    · rw [if_pos hd, show (b % 256 / 64 == 1) = true by rw [hd]; rfl]
      show some (V.aggi Go.IntKind.i64 244 (cut (upd f (4 + k * 40) 40 (fun j => upd1 (fun j => upd1 (own40 f (4 + k * 40)) 1 (b % 256) j) 36 0 (0 + j))))) = _
      rw [back2 f _ 1 36 _ _ (by decide) (by decide)]
    · rw [if_neg hd, beq_eq_false_iff_ne.2 hd]
      show some (V.aggi Go.IntKind.i64 244 (cut (upd f (4 + k * 40) 40 (fun j => upd1 (own40 f (4 + k * 40)) 1 (b % 256) (0 + j))))) = _
      rw [back1 f _ 1 _ (by decide)]
  · rw [if_neg h6, decide_eq_true (show f 0 > 5 by omega)]; rfl
theorem r5 : ∃ H, evCallH Try.prog [sRValid, sRByte] H 300 20 [.aggi .i64 244 f, .int .i64 5, .int .i64 b] [] (fun v _ => some v) = some (.aggi .i64 244 (wrF f 5 b)) := by
  refine ⟨_, (rwrite5_ev f b (b % 256)).trans ?_⟩
  rw [ok_shift, h, beq_self_eq_true, beq_self_eq_true, w_chan h b 5 (by decide)]
  rcases sel_cases h with ⟨h6, k, hk, hf, hs, ht⟩ | h6
  · rw [if_pos h6, hs, ht, hf, inR6' hk, inR6 hk, fits (by omega)]
    show some (V.aggi Go.IntKind.i64 244 (cut (upd f (4 + k * 40) 40 (fun j => upd1 (own40 f (4 + k * 40)) 2 (b % 256) (0 + j))))) = _
    rw [back1 f _ 2 _ (by decide)]; rfl
  · rw [if_neg h6, decide_eq_true (show f 0 > 5 by omega)]; rfl
theorem r6 : ∃ H, evCallH Try.prog [sRValid, sRByte] H 300 20 [.aggi .i64 244 f, .int .i64 6, .int .i64 b] [] (fun v _ => some v) = some (.aggi .i64 244 (wrF f 6 b)) := by
  refine ⟨_, (rwrite6_ev f b (b % 256)).trans ?_⟩
  rw [ok_shift, h, beq_self_eq_true, beq_self_eq_true, w_chan h b 6 (by decide)]
  rcases sel_cases h with ⟨h6, k, hk, hf, hs, ht⟩ | h6
  · obtain ⟨g1, g2, g3⟩ := ch_bounds h hk
    obtain ⟨v, hv⟩ := Int.eq_ofNat_of_zero_le g3.1
    rw [if_pos h6, hs, ht, hf, inR6' hk, inR6 hk, fits (by omega), tdiv_pos (n := f (4 + k * 40 + 1)) g2.1, wrap_id (n := f (4 + k * 40 + 1) / 64) (by omega) (by omega), tmod_pos (n := f (4 + k * 40 + 1) / 64) (by omega), tmod_pos (n := b % 256) (m := 32) (by omega)]
    unfold wrC
    rw [if_neg (by decide), if_neg (by decide), if_neg (by decide), if_neg (by decide), if_pos rfl]
    by_cases hd : f (4 + k * 40 + 1) / 64 % 2 = 1
    · rw [if_pos hd, show (f (4 + k * 40 + 1) / 64 % 2 == 1) = true by rw [hd]; rfl]
      show some (V.aggi Go.IntKind.i64 244 (cut (upd f (4 + k * 40) 40 (fun j => upd1 (own40 f (4 + k * 40)) 39 (b % 256 % 32) (0 + j))))) = _
      rw [back1 f _ 39 _ (by decide)]
    · rw [if_neg hd, beq_eq_false_iff_ne.2 hd]
      have e1 : scaled (f (4 + k * 40 + 36)) 1 = v := by rw [hv, scaled_eq]; simp
      have hw : upd1 (own40 f (4 + k * 40)) (4 + v) (b % 256 % 32) 36 = f (4 + k * 40 + 36) := by rw [upd1_self _ _ _ (by omega), own40_in _ _ (by decide)]
      have e2 : (wr Go.IntKind.i64 (upd1 (own40 f (4 + k * 40)) (4 + v) (b % 256 % 32) 36 + 1)).tmod 32 = (f (4 + k * 40 + 36) + 1) % 32 := by
        rw [hw, wrap_id (by omega) (by omega), tmod_pos (by omega)]
      rw [e1, show inR (f (4 + k * 40 + 36)) 32 = true by rw [hv]; simp [inR]; omega, show (4 + v + 1).ble 40 = true by simp; omega]
      show some (V.aggi Go.IntKind.i64 244 (cut (upd f (4 + k * 40) 40 (fun j => upd1 (fun j => upd1 (own40 f (4 + k * 40)) (4 + v) (b % 256 % 32) j) 36 ((wr Go.IntKind.i64 (upd1 (own40 f (4 + k * 40)) (4 + v) (b % 256 % 32) 36 + 1)).tmod 32) (0 + j))))) = _
      rw [e2, back2 f _ (4 + v) 36 _ _ (by omega) (by decide), hv, Int.toNat_natCast, Nat.add_assoc (4 + k * 40) 4 v]
  · rw [if_neg h6, decide_eq_true (show f 0 > 5 by omega)]; rfl
theorem r7 : ∃ H, evCallH Try.prog [sRValid, sRByte] H 300 20 [.aggi .i64 244 f, .int .i64 7, .int .i64 b] [] (fun v _ => some v) = some (.aggi .i64 244 (wrF f 7 b)) := by
  refine ⟨_, (rwrite7_ev f b (b % 256)).trans ?_⟩
  rw [ok_shift, h, beq_self_eq_true, beq_self_eq_true, w_chan h b 7 (by decide)]
  rcases sel_cases h with ⟨h6, k, hk, hf, hs, ht⟩ | h6
  · rw [if_pos h6, hs, ht, hf, inR6' hk, inR6 hk, fits (by omega)]
    unfold wrC
    rw [if_neg (by decide), if_neg (by decide), if_neg (by decide), if_neg (by decide), if_neg (by decide), if_pos rfl]
    cases decide ((k : Int) ≥ 4)
    · show some (V.aggi Go.IntKind.i64 244 (cut (upd f (4 + k * 40) 40 (fun j => own40 f (4 + k * 40) (0 + j))))) = _
      rw [back0]; rfl
    · show some (V.aggi Go.IntKind.i64 244 (cut (upd f (4 + k * 40) 40 (fun j => upd1 (own40 f (4 + k * 40)) 3 (b % 256) (0 + j))))) = _
      rw [back1 f _ 3 _ (by decide)]; rfl
  · rw [if_neg h6, decide_eq_true (show f 0 > 5 by omega)]; rfl
theorem rN {at_ : Int} (ha : at_ < 0 ∨ 9 < at_) : ∃ H, evCallH Try.prog [sRValid, sRByte] H 300 20 [.aggi .i64 244 f, .int .i64 at_, .int .i64 b] [] (fun v _ => some v) = some (.aggi .i64 244 (wrF f at_ b)) := by
  refine ⟨_, (rwriteN_ev f at_ b (b % 256)).trans ?_⟩
  have ne : ∀ n : Int, 0 ≤ n → n ≤ 9 → (at_ == n) = false := fun n h0 h9 => beq_eq_false_iff_ne.2 (by omega)
  have hw : wrF f at_ b = cut f := by
    rw [w_chan h b at_ (by omega)]
    by_cases h6 : f 0 < 6
    · rw [if_pos h6]; unfold wrC
      rw [if_neg (by omega), if_neg (by omega), if_neg (by omega), if_neg (by omega), if_neg (by omega), if_neg (by omega)]
    · rw [if_neg h6]
  rw [ok_shift, h, beq_self_eq_true, beq_self_eq_true, hw, ne 0 (by decide) (by decide), ne 1 (by decide) (by decide), ne 8 (by decide) (by decide), ne 9 (by decide) (by decide)]
  cases decide (f 0 > 5)
  · rcases ha with ha | ha
    · rw [decide_eq_true (show at_ < 2 by omega)]; rfl
    · rw [decide_eq_false (show ¬ at_ < 2 by omega), decide_eq_true (show at_ > 7 by omega)]; rfl
  · rfl
end
theorem rwrite_all (f : Nat → Int) (at_ b : Int) : ∃ H, evCallH Try.prog [sRValid, sRByte] H 300 20 [.aggi .i64 244 f, .int .i64 at_, .int .i64 b] [] (fun v _ => some v) = some (.aggi .i64 244 (wrF f at_ b)) := by
  cases h : okP f with
  | false =>
    refine ⟨_, (rwriteBad_ev f at_ b).trans ?_⟩
    rw [ok_shift, h]; unfold wrF; rw [h]; rfl
  | true =>
    rcases ten at_ with ha | rfl | rfl | rfl | rfl | rfl | rfl | rfl | rfl | rfl | rfl
    · exact rN h b ha
    · exact r0 h b
    · exact r1 h b
    · exact r2 h b
    · exact r3 h b
    · exact r4 h b
    · exact r5 h b
    · exact r6 h b
    · exact r7 h b
    · exact r8 h b
    · exact r9 h b
def sRWrite : Summ Try.prog := mkPure [sRValid, sRByte] hN hM 20 300 (fun args => match args with | [.aggi .i64 244 f, .int .i64 at_, .int .i64 b] => some (true, .aggi .i64 244 (wrF f at_ b)) | _ => none) (by
  intro args v h; split at h
  · simp only [Option.some.injEq, Prod.mk.injEq, true_and] at h; subst h; exact ⟨rfl, rfl, rwrite_all _ _ _⟩
  · cases h)
def freshF : Nat → Int := fun j => upd (fun j => 0) 0 244 (fun j => upd1 (fun j => upd1 (fun j => upd1 (fun j => upd1 (fun j => upd1 (fun j => upd1 (fun j => 0) 42 1 j) 82 1 j) 122 1 j) 162 1 j) 202 1 j) 242 1 (0 + j)) (0 + j)
def sFresh : Summ Try.prog := mkPure [] hN hM 17 300 (fun args => match args with | [] => some (true, .aggi .i64 244 freshF) | _ => none) (by
  intro args v h; split at h
  · simp only [Option.some.injEq, Prod.mk.injEq, true_and] at h; subst h; exact ⟨rfl, rfl, _, fresh_ev⟩
  · cases h)
end Go.Proofs.Ytkhlghlmmnemeaa

import Derived.Test.YtcmlhcabbnpibaaNzE
set_option linter.unusedVariables false
set_option linter.unusedSimpArgs false
namespace Go.Proofs.Ytcmlhcabbnpibaa
open Go Go.R
/-! ### the reference's steps, one by one -/
def itI : Nat → Int → Int
  | 0, s => s
  | n + 1, s => nstep (itI n s)
def jumpR (s n : Int) : Int := itI n.toNat (nst s)
theorem rj_block : sub [1, 1, 0, 1] (bodyOf Try.prog 19) = .block 0 (.loop (sub [1, 1, 0, 1, 0, 0] (bodyOf Try.prog 19))) := by kernel_rfl
theorem rj_calls {s n : Int} (hn : n < 4611686018427387904) (B : Base) (ρ : Rho) (w : World) (hr : Rel B ρ [] w) : Calls Try.prog 19 (reals ρ [.int .i64 s, .int .i64 n]).toArray w fun e w' => ∃ x, e = .returned x ∧ After B ρ [] (fun v _ => some v) (.int .i64 (jumpR s n)) x w' := by
  refine loop_call hN hM (by kernel_rfl) [1, 1, 0, 1] (rjTo_ev s n) (fun B ρ0 a w hs => ?_) (fun rest => rjFrom_ev (jumpR s n) n (n.toNat : Int) rest) hr rfl
  rw [show ntOf Try.prog 19 [.int .i64 s, .int .i64 n] = 16 by kernel_rfl] at hs ⊢
  rw [rj_block]
  refine loop_unit (Γ := [sRState, sRStep]) (n := 100) (H := []) (live := [0, 1, 5]) hN hM n.toNat (fun j => [.int .i64 (itI j (nst s)), .int .i64 n, .int .i64 (j : Nat)]) (fun _ => []) (fun j hj rest => ?_) (fun rest => ?_) hs
  · refine (rjBody_ev (itI j (nst s)) n j rest).trans ?_
    rw [decide_eq_true (show (j : Int) < n by omega), cond_true, wrap_id (n := (j : Int) + 1) (by omega) (by omega)]
    rfl
  · refine (rjBody_ev (itI n.toNat (nst s)) n n.toNat rest).trans ?_
    rw [decide_eq_false (show ¬ ((n.toNat : Nat) : Int) < n by omega), cond_false]
    rfl
def sRJump : Summ Try.prog := mkPureC 19 (fun args => match args with | [.int .i64 s, .int .i64 n] => some (decide (n < 4611686018427387904), .int .i64 (jumpR s n)) | _ => none) (by
  intro args v h; split at h
  · simp only [Option.some.injEq, Prod.mk.injEq, decide_eq_true_eq] at h; obtain ⟨hc, rfl⟩ := h; exact ⟨rfl, rfl, rj_calls hc⟩
  · cases h)
/-! ### what a state becomes -/
def outI (f : Nat → Int) (s : Int) : Nat → Int
  | 0 => 0
  | j + 1 => if s / 2 ^ j % 2 = 1 then bitI .xor .i64 (outI f s j) (f j) else outI f s j
def ofI (f : Nat → Int) (s : Int) : Int := outI f s 18
theorem of_block : sub [1, 1, 0, 1] (bodyOf Try.prog 36) = .block 0 (.loop (sub [1, 1, 0, 1, 0, 0] (bodyOf Try.prog 36))) := by kernel_rfl
theorem of_calls {f : Nat → Int} {s : Int} (B : Base) (ρ : Rho) (w : World) (hr : Rel B ρ [] w) : Calls Try.prog 36 (reals ρ [.aggi .i64 18 f, .int .i64 s]).toArray w fun e w' => ∃ x, e = .returned x ∧ After B ρ [] (fun v _ => some v) (.int .i64 (ofI f s)) x w' := by
  have h1 := ofTo_ev f s
  rw [show (fun j => f (0 + j)) = f from funext fun j => by rw [Nat.zero_add]] at h1
  refine loop_call hN hM (by kernel_rfl) [1, 1, 0, 1] h1 (fun B ρ0 a w hs => ?_) (fun rest => ofFrom_ev f (Blk.ints 51 Go.IntKind.i64 18 f) s (ofI f s) (18 : Nat) rest) hr rfl
  rw [show ntOf Try.prog 36 [.aggi .i64 18 f, .int .i64 s] = 23 by kernel_rfl] at hs ⊢
  rw [of_block]
  refine loop_unit (Γ := []) (n := 100) (H := []) (live := [1, 5, 8, 9]) hN hM 18 (fun j => [.int .i64 s, .int .i64 (outI f s j), .aggi .i64 18 f, .int .i64 (j : Nat)]) (fun _ => [Blk.ints 51 Go.IntKind.i64 18 f]) (fun j hj rest => ?_) (fun rest => ?_) hs
  · refine (ofBody_ev f _ s (outI f s j) j rest).trans ?_
    have e1 : (inR (j : Int) 18 && (scaled (j : Int) 1 + 1).ble 18) = true := by
      rw [scaled_eq]; simp [inR]; omega
    have e2 : scaled (j : Int) 1 = j := by rw [scaled_eq]; simp
    have e3 : s.fdiv (2 ^ min (j : Int).toNat 64) = s / 2 ^ j := by
      rw [Int.toNat_natCast, Nat.min_eq_left (by omega)]
      exact fdiv_pos s (Int.le_of_lt (Int.pow_pos (by decide)))
    rw [decide_eq_true (show (j : Int) < 18 by omega), cond_true, e1, cond_true, decide_eq_true (show (0 : Int) ≤ j by omega), cond_true, e2, e3, and_0b, wrap_id (n := (j : Int) + 1) (by omega) (by omega)]
    by_cases h : s / 2 ^ j % 2 = 1
    · rw [show (s / 2 ^ j % 2 == 1) = true by rw [h]; rfl, cond_true]
      simp only [outI, if_pos h]
      rfl
    · rw [beq_eq_false_iff_ne.2 h, cond_false]
      simp only [outI, if_neg h]
      rfl
  · exact (ofBody_ev f _ s (outI f s 18) (18 : Nat) rest).trans rfl
def sOf : Summ Try.prog := mkPureC 36 (fun args => match args with | [.aggi .i64 18 f, .int .i64 s] => some (true, .int .i64 (ofI f s)) | _ => none) (by
  intro args v h; split at h
  · simp only [Option.some.injEq, Prod.mk.injEq, true_and] at h; subst h; exact ⟨rfl, rfl, of_calls⟩
  · cases h)
end Go.Proofs.Ytcmlhcabbnpibaa

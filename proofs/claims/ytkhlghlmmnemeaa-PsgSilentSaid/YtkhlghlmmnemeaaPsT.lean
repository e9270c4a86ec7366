import Derived.Test.YtkhlghlmmnemeaaPsS
set_option linter.unusedVariables false
set_option linter.unusedSimpArgs false
namespace Go.Proofs.Ytkhlghlmmnemeaa
open Go Go.R
theorem oth_block : sub [1, 1, 1, 0, 1] (bodyOf Try.prog 7) = .block 0 (.loop (sub [1, 1, 1, 0, 1, 0, 0] (bodyOf Try.prog 7))) := by kernel_rfl
theorem bad_cell {f : Nat → Int} (h : okP f = false) (a b : Int) {j : Nat} (hj : j < 244) : wrF f a b j = f j := by
  unfold wrF; rw [h, if_neg (by decide), cut_in f hj]
theorem good_cell {f : Nat → Int} (h : okP f = true) (a b : Int) {j : Nat} (hj : j < 244) : wrF f a b j = wrG f a (b % 256) j := by
  unfold wrF; rw [if_pos h, cut_in _ hj]
def othG (f : Nat → Int) (a b : Int) : Nat → Int := fun j => upd (fun j => 0) 0 244 (fun j => wrF (fun j => f (0 + j)) a b j) j
theorem othG_in (f : Nat → Int) (a b : Int) {j : Nat} (hj : j < 244) : othG f a b j = wrF f a b j := by
  unfold othG upd
  rw [show (Nat.ble 0 j && Nat.ble (j + 1) (0 + 244)) = true by simp; omega, cond_true, Nat.sub_zero, shift0]
theorem oth_body {f : Nat → Int} (h : okP f = true) (a b : Int) (k : Nat) (hk : k < 6) (rest : Env) :
    ev Try.prog [] 300 [] 77 (sub [1, 1, 1, 0, 1, 0, 0] (bodyOf Try.prog 7)) (zipE [1, 2, 3, 7, 8] [.int .i64 a, .int .i64 b, .ptr 0 0, .ptr 1 0, .int .i64 (k : Nat)] rest) [.ints 32 .i64 244 f, .ints 32 .i64 244 (othG f a b)] (Kl [1, 2, 3, 7, 8]) =
      some (.tup (exV .normal :: [.int .i64 a, .int .i64 b, .ptr 0 0, .ptr 1 0, .int .i64 ((k + 1 : Nat) : Int)]), [.ints 32 .i64 244 f, .ints 32 .i64 244 (othG f a b)]) := by
  refine (othBody_ev f (othG f a b) a b k rest).trans ?_
  have e1 : inR (k : Int) 6 = true := inR6 hk
  have e2 : scaled (k : Int) 40 = k * 40 := by rw [scaled_eq]; simp
  have e3 : (4 + k * 40 + 40).ble 244 = true := fits (by omega)
  rw [decide_eq_true (show (k : Int) < 6 by omega), cond_true, e1, e2, e3, wrap_id (n := (k : Int) + 1) (by omega) (by omega)]
  simp only [cond_true]
  by_cases hc : (k : Int) = f 0 ∧ 2 ≤ a ∧ a ≤ 7
  · rw [show ((k : Int) != f 0) = false by rw [hc.1]; exact bne_self_eq_false _, decide_eq_false (show ¬ a < 2 by omega), decide_eq_false (show ¬ a > 7 by omega)]
    rfl
  · have cell : ∀ i, i < 40 → othG f a b (4 + k * 40 + i) = f (4 + k * 40 + i) := by
      intro i hi
      rw [othG_in f a b (by omega), good_cell h a b (by omega)]
      refine wrG_head h (by omega) ?_
      by_cases h2 : a < 2
      · exact .inl h2
      · by_cases h7 : 7 < a
        · exact .inr (.inl h7)
        · refine .inr (.inr ?_)
          have h0 := ok_in h (j := 0) (m := 7) (by decide) rfl
          have : f 0 ≠ k := fun e => hc ⟨e.symm, by omega, by omega⟩
          omega
    simp (disch := decide) only [cell, beq_self_eq_true, Bool.and_true, Bool.not_true, cond_false, same2]
    cases ((k : Int) != f 0) <;> cases decide (a < 2) <;> cases decide (a > 7) <;> rfl
theorem psgOthers_calls (f : Nat → Int) (_ : ∀ i, i < 244 → IntKind.i64.has (f i)) (a : Int) (_ : IntKind.i64.has a) (b : Int) (_ : IntKind.i64.has b) (B : Base) (ρ : Rho) (w : World) (hr : Rel B ρ [] w) :
    Calls Try.prog 7 (reals ρ [.aggi .i64 244 f, .int .i64 a, .int .i64 b]).toArray w fun e w' => ∃ x, e = .returned x ∧ After B ρ [] asB true x w' := by
  cases h : okP f with
  | false =>
    refine evCallH_sound hN hM ((othBad_ev f a b).trans ?_) hr rfl
    rw [shift0, h]
    simp (disch := decide) only [bad_cell h, beq_self_eq_true, Bool.and_true, Bool.true_and, cond_true]
  | true =>
    have h1 := othTo_ev f a b
    rw [ok_shift, h, beq_self_eq_true, cond_true] at h1
    refine loop_call hN hM (by kernel_rfl) [1, 1, 1, 0, 1] h1 (fun B ρ0 x w hs => ?_) (fun rest => (othFrom_ev f (othG f a b) a b (6 : Nat) rest).trans ?_) hr rfl
    · rw [show ntOf Try.prog 7 [.aggi .i64 244 f, .int .i64 a, .int .i64 b] = 77 by kernel_rfl] at hs ⊢
      rw [oth_block]
      refine loop_unit (Γ := []) (n := 300) (H := []) (live := [1, 2, 3, 7, 8]) hN hM 6 (fun k => [.int .i64 a, .int .i64 b, .ptr 0 0, .ptr 1 0, .int .i64 (k : Nat)]) (fun _ => [.ints 32 .i64 244 f, .ints 32 .i64 244 (othG f a b)]) (fun k hk rest => ?_) (fun rest => ?_) hs
      · exact oth_body h a b k hk rest
      · exact (othBody_ev f (othG f a b) a b (6 : Nat) rest).trans rfl
    · have g0 : othG f a b 0 = wrG f a (b % 256) 0 := by rw [othG_in f a b (by decide), good_cell h a b (by decide)]
      have g1 : othG f a b 1 = wrG f a (b % 256) 1 := by rw [othG_in f a b (by decide), good_cell h a b (by decide)]
      have hok : okP (othG f a b) = true := by
        rw [ok_congr (g := wrG f a (b % 256)) (fun j hj => by rw [othG_in f a b hj, good_cell h a b hj])]
        exact wrG_okP h (by omega) (by omega)
      rw [ok_shift, hok, cond_true, g0, g1, and_m3]
      have last : cond (a == 1) (some true) (some (wrG f a (b % 256) 1 == f 1)) = some true := by
        by_cases h1 : a = 1
        · subst h1; rfl
        · rw [wrG_1 h h1, beq_self_eq_true, same2]
      rw [last]
      by_cases h0 : a = 0
      · subst h0
        rw [show wrG f 0 (b % 256) 0 = b % 256 % 8 from rfl, show b % 256 % 8 = b % 8 by omega]
        simp only [beq_self_eq_true, cond_true]
      · rw [beq_eq_false_iff_ne.2 h0]
        cases (wrG f a (b % 256) 0 == b % 8) <;> rfl
end Go.Proofs.Ytkhlghlmmnemeaa

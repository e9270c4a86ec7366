import Derived.Test.YtcmlhcabbnpibaaNzI
import Derived.Test.YtcmlhcabbnpibaaNzJ
set_option linter.unusedVariables false
set_option linter.unusedSimpArgs false
namespace Go.Proofs.Ytcmlhcabbnpibaa
open Go Go.R
/-! ### the steps, linear over bits -/
def parB (t : Nat) : Bool := t.testBit 0 ^^ t.testBit 1 ^^ t.testBit 11 ^^ t.testBit 12 ^^ t.testBit 17
def stX (t : Nat) : Nat := t / 2 ^^^ (bif parB t then 131072 else 0)
def itX : Nat → Nat → Nat
  | 0, t => t
  | n + 1, t => stX (itX n t)
theorem parB_xor (a b : Nat) : parB (a ^^^ b) = (parB a ^^ parB b) := by
  unfold parB
  simp only [Nat.testBit_xor]
  have key : ∀ x0 x1 x2 x3 x4 y0 y1 y2 y3 y4 : Bool, ((x0 ^^ y0) ^^ (x1 ^^ y1) ^^ (x2 ^^ y2) ^^ (x3 ^^ y3) ^^ (x4 ^^ y4)) = ((x0 ^^ x1 ^^ x2 ^^ x3 ^^ x4) ^^ (y0 ^^ y1 ^^ y2 ^^ y3 ^^ y4)) := by decide
  exact key _ _ _ _ _ _ _ _ _ _
theorem stX_xor (a b : Nat) : stX (a ^^^ b) = stX a ^^^ stX b := by
  unfold stX
  rw [parB_xor]
  have h : (a ^^^ b) / 2 = a / 2 ^^^ b / 2 := by
    apply Nat.eq_of_testBit_eq; intro i
    simp [Nat.testBit_div_two, Nat.testBit_xor]
  rw [h]
  have e : (bif (parB a ^^ parB b) then 131072 else 0) = (bif parB a then 131072 else 0) ^^^ (bif parB b then 131072 else 0) := by
    cases parB a <;> cases parB b <;> rfl
  rw [e]
  apply Nat.eq_of_testBit_eq; intro i
  simp only [Nat.testBit_xor]
  have key : ∀ x y z u : Bool, ((x ^^ y) ^^ (z ^^ u)) = ((x ^^ z) ^^ (y ^^ u)) := by decide
  exact key _ _ _ _
theorem itX_xor (n a b : Nat) : itX n (a ^^^ b) = itX n a ^^^ itX n b := by
  induction n with
  | zero => rfl
  | succ n ih => simp only [itX]; rw [ih, stX_xor]
theorem itX_zero (n : Nat) : itX n 0 = 0 := by
  induction n with
  | zero => rfl
  | succ n ih => simp only [itX]; rw [ih]; rfl
theorem itX_add (a b t : Nat) : itX (a + b) t = itX a (itX b t) := by
  induction a with
  | zero => rw [Nat.zero_add]; rfl
  | succ a ih => rw [show a + 1 + b = (a + b) + 1 by omega]; simp only [itX]; rw [ih]
theorem stX_lt {t : Nat} (h : t < 262144) : stX t < 262144 := by
  unfold stX
  refine Nat.xor_lt_two_pow (n := 18) (by omega) ?_
  cases parB t <;> decide
theorem itX_lt (n : Nat) {t : Nat} (h : t < 262144) : itX n t < 262144 := by
  induction n with
  | zero => exact h
  | succ n ih => exact stX_lt ih
theorem xor_top {b j : Nat} (h : b < 2 ^ j) : b ^^^ 2 ^ j = b + 2 ^ j := by
  have h1 := Nat.two_pow_add_eq_or_of_lt h 1
  rw [Nat.mul_one] at h1
  rw [Nat.add_comm b, h1]
  apply Nat.eq_of_testBit_eq; intro i
  rw [Nat.testBit_xor, Nat.testBit_or, Nat.testBit_two_pow]
  by_cases hi : j = i
  · subst hi; rw [Nat.testBit_lt_two_pow h]; simp
  · simp [hi]
theorem tb_dec (t i : Nat) : t.testBit i = decide (t / 2 ^ i % 2 = 1) := Nat.testBit_eq_decide_div_mod_eq
theorem par_link (t : Nat) : parN (t : Int) = (bif parB t then 1 else 0) := by
  unfold parB parN
  rw [tb_dec, tb_dec, tb_dec, tb_dec, tb_dec]
  simp only [Nat.reducePow, Nat.div_one]
  have e0 : ((t : Int) % 2) = ((t % 2 : Nat) : Int) := by omega
  have e1 : ((t : Int) / 2 % 2) = ((t / 2 % 2 : Nat) : Int) := by omega
  have e2 : ((t : Int) / 2048 % 2) = ((t / 2048 % 2 : Nat) : Int) := by omega
  have e3 : ((t : Int) / 4096 % 2) = ((t / 4096 % 2 : Nat) : Int) := by omega
  have e4 : ((t : Int) / 131072 % 2) = ((t / 131072 % 2 : Nat) : Int) := by omega
  rw [e0, e1, e2, e3, e4]
  have h0 : t % 2 = 0 ∨ t % 2 = 1 := by omega
  have h1 : t / 2 % 2 = 0 ∨ t / 2 % 2 = 1 := by omega
  have h2 : t / 2048 % 2 = 0 ∨ t / 2048 % 2 = 1 := by omega
  have h3 : t / 4096 % 2 = 0 ∨ t / 4096 % 2 = 1 := by omega
  have h4 : t / 131072 % 2 = 0 ∨ t / 131072 % 2 = 1 := by omega
  rcases h0 with h0 | h0 <;> rcases h1 with h1 | h1 <;> rcases h2 with h2 | h2 <;> rcases h3 with h3 | h3 <;> rcases h4 with h4 | h4 <;> rw [h0, h1, h2, h3, h4] <;> rfl
theorem step_link {s : Int} (h0 : 1 ≤ s) (h1 : s < 262144) : nstep s = (stX s.toNat : Nat) := by
  obtain ⟨t, rfl⟩ := Int.eq_ofNat_of_zero_le (show 0 ≤ s by omega)
  unfold nstep stX
  rw [nst_id h0 h1, par_link, Int.toNat_natCast]
  cases parB t
  · simp only [cond_false, Nat.xor_zero]; omega
  · simp only [cond_true]
    have := xor_top (b := t / 2) (j := 17) (by omega)
    rw [show (2 : Nat) ^ 17 = 131072 from rfl] at this
    rw [this]; omega
/-- so many steps on -/
def jumpI (s n : Int) : Int := (itX n.toNat (nst s).toNat : Nat)
theorem itI_link (n : Nat) {s : Int} (h0 : 1 ≤ s) (h1 : s < 262144) : itI n s = (itX n s.toNat : Nat) ∧ 1 ≤ itI n s ∧ itI n s < 262144 := by
  induction n with
  | zero => exact ⟨by simp only [itI, itX]; omega, h0, h1⟩
  | succ n ih =>
    obtain ⟨a, b, c⟩ := ih
    have := nstep_in (itI n s)
    refine ⟨?_, this⟩
    show nstep (itI n s) = _
    rw [step_link b c, a, Int.toNat_natCast]; rfl
theorem jump_link (s n : Int) : jumpR s n = jumpI s n ∧ 1 ≤ jumpI s n ∧ jumpI s n < 262144 := by
  have h := nst_in s
  obtain ⟨a, b, c⟩ := itI_link n.toNat h.1 h.2
  unfold jumpR jumpI
  rw [← a]; exact ⟨rfl, b, c⟩
/-! ### the steps' table -/
def Good (M : Nat → Int) (m : Nat) : Prop := ∀ j, j < 18 → M j = (itX m (2 ^ j) : Nat)
theorem out_good {M : Nat → Int} {m s : Nat} (h : Good M m) (hs : s < 262144) : ∀ j, j ≤ 18 → outI M s j = (itX m (s % 2 ^ j) : Nat) := by
  intro j
  induction j with
  | zero => intro _; simp only [outI, Nat.pow_zero, Nat.mod_one]; rw [itX_zero]; rfl
  | succ j ih =>
    intro hj
    have ih := ih (by omega)
    simp only [outI]
    have hpow : 2 ^ j ≤ 2 ^ 17 := Nat.pow_le_pow_right (by decide) (by omega)
    have hlt : s % 2 ^ j < 2 ^ j := Nat.mod_lt _ (Nat.two_pow_pos j)
    have hmod : s % 2 ^ (j + 1) = s % 2 ^ j + 2 ^ j * (s / 2 ^ j % 2) := Nat.mod_pow_succ
    have hb : ((s : Int) / 2 ^ j % 2) = ((s / 2 ^ j % 2 : Nat) : Int) := by push_cast; rfl
    rw [hb]
    by_cases hbit : s / 2 ^ j % 2 = 1
    · rw [if_pos (by rw [hbit]; rfl), ih, h j (by omega), hmod, hbit, Nat.mul_one, ← xor_top hlt, itX_xor]
      have l1 := itX_lt m (t := s % 2 ^ j) (by omega)
      have l2 := itX_lt m (t := 2 ^ j) (by omega)
      rw [xor_nat (by omega) (by omega) (by omega) (by omega), Int.toNat_natCast, Int.toNat_natCast]
    · rw [if_neg (by omega), ih, hmod, show s / 2 ^ j % 2 = 0 by omega, Nat.mul_zero, Nat.add_zero]
theorem of_good {M : Nat → Int} {m s : Nat} (h : Good M m) (hs : s < 262144) : ofI M s = (itX m s : Nat) := by
  unfold ofI
  rw [out_good h hs 18 (Nat.le_refl _), Nat.mod_eq_of_lt (by omega)]
def nextM (M : Nat → Int) : Nat → Int := fun j => upd M 0 18 (fun j => twF (fun j => M (0 + j)) j) j
theorem good_next {M : Nat → Int} {m : Nat} (h : Good M m) : Good (nextM M) (m + m) := by
  intro j hj
  have e : (fun j => M (0 + j)) = M := funext fun j => by rw [Nat.zero_add]
  have hpow : 2 ^ j ≤ 2 ^ 17 := Nat.pow_le_pow_right (by decide) (by omega)
  have l := itX_lt m (t := 2 ^ j) (by omega)
  unfold nextM upd
  rw [e, show (Nat.ble 0 j && Nat.ble (j + 1) (0 + 18)) = true by simp; omega, cond_true, Nat.sub_zero]
  show twF M j = _
  rw [twF_eq _ _ hj, h j hj, of_good h l, itX_add]
def M0 : Nat → Int := fun j => upd1 (fun j => upd1 (fun j => upd1 (fun j => upd1 (fun j => upd1 (fun j => upd1 (fun j => upd1 (fun j => upd1 (fun j => upd1 (fun j => upd1 (fun j => upd1 (fun j => upd1 (fun j => upd1 (fun j => upd1 (fun j => upd1 (fun j => upd1 (fun j => upd1 (fun j => upd1 (fun j => 0) 0 131072 j) 1 131073 j) 2 2 j) 3 4 j) 4 8 j) 5 16 j) 6 32 j) 7 64 j) 8 128 j) 9 256 j) 10 512 j) 11 132096 j) 12 133120 j) 13 4096 j) 14 8192 j) 15 16384 j) 16 32768 j) 17 196608 j
theorem good_0 : Good M0 1 := by
  intro j h
  have hj : j = 0 ∨ j = 1 ∨ j = 2 ∨ j = 3 ∨ j = 4 ∨ j = 5 ∨ j = 6 ∨ j = 7 ∨ j = 8 ∨ j = 9 ∨ j = 10 ∨ j = 11 ∨ j = 12 ∨ j = 13 ∨ j = 14 ∨ j = 15 ∨ j = 16 ∨ j = 17 := by omega
  rcases hj with rfl | rfl | rfl | rfl | rfl | rfl | rfl | rfl | rfl | rfl | rfl | rfl | rfl | rfl | rfl | rfl | rfl | rfl <;> decide +kernel
def Mk : Nat → Nat → Int
  | 0 => M0
  | k + 1 => nextM (Mk k)
theorem good_k (k : Nat) : Good (Mk k) (2 ^ k) := by
  induction k with
  | zero => exact good_0
  | succ k ih => rw [show 2 ^ (k + 1) = 2 ^ k + 2 ^ k by rw [Nat.pow_succ]; omega]; exact good_next ih
/-! ### the jump -/
theorem jp_block : sub [1, 1, 1, 1, 0, 1] (bodyOf Try.prog 18) = .block 2 (.loop (sub [1, 1, 1, 1, 0, 1, 0, 0] (bodyOf Try.prog 18))) := by kernel_rfl
theorem turns (m : Nat) (hm : m < 9223372036854775808) : ∃ N, N ≤ 63 ∧ m % 2 ^ N = m ∧ (∀ j, j < N → 2 ^ j ≤ m) ∧ m < 2 ^ N := by
  by_cases h : m = 0
  · subst h; exact ⟨0, by omega, rfl, fun j hj => by omega, by decide⟩
  · have h1 := Nat.log2_self_le h
    have h2 : m < 2 ^ (m.log2 + 1) := Nat.lt_log2_self
    refine ⟨m.log2 + 1, ?_, Nat.mod_eq_of_lt h2, fun j hj => Nat.le_trans (Nat.pow_le_pow_right (by decide) (by omega)) h1, h2⟩
    have := (Nat.log2_lt h).2 (show m < 2 ^ 63 from hm)
    omega
theorem jp_calls {s n : Int} (hn : n < 9223372036854775808) (B : Base) (ρ : Rho) (w : World) (hr : Rel B ρ [] w) : Calls Try.prog 18 (reals ρ [.int .i64 s, .int .i64 n]).toArray w fun e w' => ∃ x, e = .returned x ∧ After B ρ [] (fun v _ => some v) (.int .i64 (jumpI s n)) x w' := by
  obtain ⟨N, hN63, hmod, hle, hlt⟩ := turns n.toNat (by omega)
  have hs := nst_in s
  obtain ⟨t, ht⟩ := Int.eq_ofNat_of_zero_le (show 0 ≤ nst s by omega)
  have ht' : t < 262144 := by omega
  have hfin : jumpI s n = (itX (n.toNat % 2 ^ N) t : Nat) := by unfold jumpI; rw [ht, Int.toNat_natCast, hmod]
  refine loop_call hN hM (by kernel_rfl) [1, 1, 1, 1, 0, 1] (jpTo_ev s n) (fun B ρ0 a w hs => ?_) (fun rest => jpFrom_ev (Mk N) (jumpI s n) n (N : Nat) rest) hr rfl
  rw [show ntOf Try.prog 18 [.int .i64 s, .int .i64 n] = 44 by kernel_rfl] at hs ⊢
  rw [jp_block]
  refine loop_unit (Γ := [sOf, sTwice]) (n := 100) (H := []) (live := [0, 1, 5, 25]) hN hM N (fun j => [.int .i64 (itX (n.toNat % 2 ^ j) t : Nat), .int .i64 n, .ptr 0 0, .int .i64 (j : Nat)]) (fun j => [Blk.ints 51 .i64 18 (Mk j)]) (fun j hj rest => ?_) (fun rest => ?_) (by
    rw [Nat.pow_zero, Nat.mod_one, show itX 0 t = t from rfl, ← ht]; exact hs)
  · refine (jpBody_ev (Mk j) (itX (n.toNat % 2 ^ j) t : Nat) n j rest).trans ?_
    have hpow : 2 ^ j ≤ 2 ^ 62 := Nat.pow_le_pow_right (by decide) (by omega)
    have hpi : (2 : Int) ^ j = ((2 ^ j : Nat) : Int) := by push_cast; rfl
    have hpp := Nat.two_pow_pos j
    have hle' := hle j hj
    have e1 : (fun i => Mk j (0 + i)) = Mk j := funext fun i => by rw [Nat.zero_add]
    have hx := itX_lt (n.toNat % 2 ^ j) ht'
    rw [decide_eq_true (show (j : Int) < 63 by omega), cond_true, decide_eq_true (show (0 : Int) ≤ j by omega), cond_true, cond_true, Int.toNat_natCast, Nat.min_eq_left (show j ≤ 64 by omega), Int.one_mul, hpi, wrap_id (n := ((2 ^ j : Nat) : Int)) (by omega) (by omega), decide_eq_false (show ¬ n < ((2 ^ j : Nat) : Int) by omega), cond_false, fdiv_pos n (show (0 : Int) ≤ ((2 ^ j : Nat) : Int) by omega), and_0b, wrap_id (n := (j : Int) + 1) (by omega) (by omega)]
    have hb : n / ((2 ^ j : Nat) : Int) % 2 = ((n.toNat / 2 ^ j % 2 : Nat) : Int) := by
      obtain ⟨k, hk⟩ := Int.eq_ofNat_of_zero_le (show 0 ≤ n by omega)
      rw [hk, Int.toNat_natCast]; push_cast; rfl
    have hms : n.toNat % 2 ^ (j + 1) = n.toNat % 2 ^ j + 2 ^ j * (n.toNat / 2 ^ j % 2) := Nat.mod_pow_succ
    rw [hb]
    by_cases hbit : n.toNat / 2 ^ j % 2 = 1
    · rw [hbit, show (((1 : Nat) : Int) == 1) = true from rfl, cond_true]
      have e2 : ofI (fun i => Mk j (0 + i)) ((itX (n.toNat % 2 ^ j) t : Nat) : Int) = ((itX (n.toNat % 2 ^ (j + 1)) t : Nat) : Int) := by
        rw [e1, of_good (good_k j) hx, hms, hbit, Nat.mul_one, ← itX_add, Nat.add_comm]
      rw [e2]; rfl
    · rw [show n.toNat / 2 ^ j % 2 = 0 by omega, show (((0 : Nat) : Int) == 1) = false from rfl, cond_false]
      have e2 : n.toNat % 2 ^ (j + 1) = n.toNat % 2 ^ j := by rw [hms, show n.toNat / 2 ^ j % 2 = 0 by omega, Nat.mul_zero, Nat.add_zero]
      simp only [e2]; rfl
  · refine (jpBody_ev (Mk N) (itX (n.toNat % 2 ^ N) t : Nat) n N rest).trans ?_
    rw [← hfin]
    by_cases h : N = 63
    · subst h; rfl
    · have hpow : 2 ^ N ≤ 2 ^ 62 := Nat.pow_le_pow_right (by decide) (by omega)
      have hpi : (2 : Int) ^ N = ((2 ^ N : Nat) : Int) := by push_cast; rfl
      have hpp := Nat.two_pow_pos N
      rw [decide_eq_true (show (N : Int) < 63 by omega), cond_true, decide_eq_true (show (0 : Int) ≤ N by omega), cond_true, Int.toNat_natCast, Nat.min_eq_left (show N ≤ 64 by omega), Int.one_mul, hpi, wrap_id (n := ((2 ^ N : Nat) : Int)) (by omega) (by omega), decide_eq_true (show n < ((2 ^ N : Nat) : Int) by omega), cond_true]
      rfl
def sJump : Summ Try.prog := mkPureC 18 (fun args => match args with | [.int .i64 s, .int .i64 n] => some (decide (n < 9223372036854775808), .int .i64 (jumpI s n)) | _ => none) (by
  intro args v h; split at h
  · simp only [Option.some.injEq, Prod.mk.injEq, decide_eq_true_eq] at h; obtain ⟨hc, rfl⟩ := h; exact ⟨rfl, rfl, jp_calls hc⟩
  · cases h)
end Go.Proofs.Ytcmlhcabbnpibaa

import Derived.Test.YtecbemlfhmepfaaAluA
set_option linter.unusedVariables false
set_option linter.unusedSimpArgs false
namespace Go.Proofs.Ytecbemlfhmepfaa
open Go Go.R
/-- a test for all numbers below another one -/
def allB (f : Nat → Bool) (n : Nat) : Bool := Nat.rec true (fun n ih => f n && ih) n
theorem allB_spec {f : Nat → Bool} {n : Nat} (h : allB f n = true) : ∀ k, k < n → f k = true := by
  induction n with
  | zero => intro k hk; omega
  | succ n ih =>
    have h' : (f n && allB f n) = true := h
    simp only [Bool.and_eq_true] at h'
    intro k hk
    by_cases e : k = n
    · subst e; exact h'.1
    · exact ih h'.2 k (by omega)
theorem mod_tells {n m : Int} (h0 : 0 < m) (h1 : m < 4611686018427387904) : evCall Try.prog [] 100 31 [.int .i64 n, .int .i64 m] [] (fun v _ => some v) = some (.int .i64 (n % m)) := by
  rw [mod_ev]
  have hm : (!m == 0) = true := by
    have : (m == 0) = false := beq_eq_false_iff_ne.2 (by omega)
    rw [this]; rfl
  rw [hm, cond_true]
  have e0 := Int.emod_nonneg n (show m ≠ 0 by omega)
  have e1 := Int.emod_lt_of_pos n h0
  have ht : n.tmod m = if 0 ≤ n ∨ m ∣ n then n % m else n % m - m := by
    rw [Int.tmod_eq_emod]
    split <;> omega
  by_cases h : 0 ≤ n ∨ m ∣ n
  · rw [if_pos h] at ht
    have : decide (n.tmod m < 0) = false := by rw [ht]; simp; omega
    rw [this, cond_false, ht]
  · rw [if_neg h] at ht
    have : decide (n.tmod m < 0) = true := by rw [ht]; simp; omega
    rw [this, cond_true, ht, wrap_id (by omega) (by omega)]
    congr 3; omega
def sMod : Summ Try.prog := mkPure [] hN hM 31 100 (fun args => match args with | [.int .i64 n, .int .i64 m] => some (decide (0 < m) && decide (m < 4611686018427387904), .int .i64 (n % m)) | _ => none) (by
  intro args v h
  split at h
  · simp only [Option.some.injEq, Prod.mk.injEq, Bool.and_eq_true, decide_eq_true_eq] at h
    obtain ⟨hc, rfl⟩ := h
    exact ⟨rfl, rfl, [], mod_tells hc.1 hc.2⟩
  · cases h)
def sByte : Summ Try.prog := mkPure [] hN hM 16 100 (fun args => match args with | [.int .i64 n] => some (true, .int .i64 (n % 256)) | _ => none) (by
  intro args v h
  split at h
  · simp only [Option.some.injEq, Prod.mk.injEq, true_and] at h; subst h; exact ⟨rfl, rfl, [], (byte_ev _).trans (by rw [and_m8])⟩
  · cases h)
/-- a flag, set or not -/
def setF (p f : Int) (on : Bool) : Int := p - p / f % 2 * f + cond on f 0
def isFlag (f : Int) : Bool := f == 1 || f == 2 || f == 64 || f == 128
def isByte (n : Int) : Bool := decide (0 ≤ n) && decide (n < 256)
theorem or_all (f : Nat) (h : f = 1 ∨ f = 2 ∨ f = 64 ∨ f = 128) : ∀ p, p < 256 → Nat.beq ((p ||| f) + p / f % 2 * f) (p + f) = true := by
  rcases h with rfl | rfl | rfl | rfl <;> exact allB_spec (by decide +kernel)
theorem not_all (f : Nat) (h : f = 1 ∨ f = 2 ∨ f = 64 ∨ f = 128) : ∀ p, p < 256 → Nat.beq ((p ^^^ (p &&& f)) + p / f % 2 * f) p = true := by
  rcases h with rfl | rfl | rfl | rfl <;> exact allB_spec (by decide +kernel)
theorem flag_cases {f : Int} (h : isFlag f = true) : f = 1 ∨ f = 2 ∨ f = 64 ∨ f = 128 := by
  simp only [isFlag, Bool.or_eq_true, beq_iff_eq] at h; omega
theorem with_eq {p f : Int} {on : Bool} (hp : isByte p = true) (hf : isFlag f = true) : evCall Try.prog [] 100 20 [.int .i64 p, .int .i64 f, .bool on] [] (fun v _ => some v) = some (.int .i64 (setF p f on)) := by
  rw [withh_ev]
  simp only [isByte, Bool.and_eq_true, decide_eq_true_eq] at hp
  have hf := flag_cases hf
  obtain ⟨k, rfl⟩ := Int.eq_ofNat_of_zero_le hp.1
  obtain ⟨g, rfl⟩ := Int.eq_ofNat_of_zero_le (show 0 ≤ f by omega)
  have h1 := Nat.eq_of_beq_eq_true (or_all g (by omega) k (by omega))
  have h2 := Nat.eq_of_beq_eq_true (not_all g (by omega) k (by omega))
  rw [or_nat (by omega) (by omega) (by omega) (by omega), andNot_nat (by omega) (by omega) (by omega) (by omega)]
  unfold setF
  cases on
  · simp only [cond_false, Int.toNat_natCast, Option.some.injEq, V.int.injEq, true_and]
    have : ((k : Int) / (g : Int) % 2 * (g : Int)) = ((k / g % 2 * g : Nat) : Int) := by push_cast; rfl
    rw [this]; omega
  · simp only [cond_true, Int.toNat_natCast, Option.some.injEq, V.int.injEq, true_and]
    have : ((k : Int) / (g : Int) % 2 * (g : Int)) = ((k / g % 2 * g : Nat) : Int) := by push_cast; rfl
    rw [this]; omega
theorem set_eq {p f : Int} {on : Bool} (hp : isByte p = true) (hf : isFlag f = true) : evCall Try.prog [] 100 27 [.int .i64 p, .int .i64 f, .bool on] [] (fun v _ => some v) = some (.int .i64 (setF p f on)) := by
  rw [set_ev]
  simp only [isByte, Bool.and_eq_true, decide_eq_true_eq] at hp
  unfold setF
  rcases flag_cases hf with rfl | rfl | rfl | rfl
  all_goals
    rw [tdiv_pos hp.1, wrap_id (n := p / _) (by omega) (by omega), tmod_pos (by omega), wrap_id (n := p / _ % 2 * _) (by omega) (by omega), wrap_id (n := p - _) (by omega) (by omega)]
    cases on
    · simp
    · rw [wrap_id (by omega) (by omega)]; simp
def sWith : Summ Try.prog := mkPure [] hN hM 20 100 (fun args => match args with | [.int .i64 p, .int .i64 f, .bool on] => some (isByte p && isFlag f, .int .i64 (setF p f on)) | _ => none) (by
  intro args v h
  split at h
  · simp only [Option.some.injEq, Prod.mk.injEq, Bool.and_eq_true] at h; obtain ⟨hc, rfl⟩ := h; exact ⟨rfl, rfl, [], with_eq hc.1 hc.2⟩
  · cases h)
def sSet : Summ Try.prog := mkPure [] hN hM 27 100 (fun args => match args with | [.int .i64 p, .int .i64 f, .bool on] => some (isByte p && isFlag f, .int .i64 (setF p f on)) | _ => none) (by
  intro args v h
  split at h
  · simp only [Option.some.injEq, Prod.mk.injEq, Bool.and_eq_true] at h; obtain ⟨hc, rfl⟩ := h; exact ⟨rfl, rfl, [], set_eq hc.1 hc.2⟩
  · cases h)
theorem setF_byte {p f : Int} {on : Bool} (hp : isByte p = true) (hf : isFlag f = true) : isByte (setF p f on) = true := by
  simp only [isByte, Bool.and_eq_true, decide_eq_true_eq] at hp ⊢
  unfold setF
  rcases flag_cases hf with rfl | rfl | rfl | rfl <;> cases on <;> simp only [cond_true, cond_false] <;> omega
end Go.Proofs.Ytecbemlfhmepfaa

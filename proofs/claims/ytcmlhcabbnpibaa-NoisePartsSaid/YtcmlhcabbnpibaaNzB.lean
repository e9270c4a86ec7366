import Derived.Test.YtcmlhcabbnpibaaNzA
set_option linter.unusedVariables false
set_option linter.unusedSimpArgs false
namespace Go.Proofs.Ytcmlhcabbnpibaa
open Go Go.R
def allN (f : Nat → Bool) (n : Nat) : Bool := Nat.rec true (fun n ih => f n && ih) n
theorem allN_spec {f : Nat → Bool} {n : Nat} (h : allN f n = true) : ∀ k, k < n → f k = true := by
  induction n with
  | zero => intro k hk; omega
  | succ n ih =>
    have h' : (f n && allN f n) = true := h
    simp only [Bool.and_eq_true] at h'
    intro k hk
    by_cases e : k = n
    · subst e; exact h'.1
    · exact ih h'.2 k (by omega)
/-- a number as a state of the noise -/
def nst (s : Int) : Int := if s % 262144 = 0 then 1 else s % 262144
def isNS (s : Int) : Bool := decide (1 ≤ s) && decide (s < 262144)
theorem nst_in (s : Int) : 1 ≤ nst s ∧ nst s < 262144 := by unfold nst; split <;> omega
theorem nst_id {s : Int} (h0 : 1 ≤ s) (h1 : s < 262144) : nst s = s := by unfold nst; rw [if_neg (by omega)]; omega
/-- whether an odd number of the five bits are set -/
def parN (t : Int) : Int := (t % 2 + t / 2 % 2 + t / 2048 % 2 + t / 4096 % 2 + t / 131072 % 2) % 2
def tapN (t : Int) : Int := t % 2 + t / 2 % 2 * 2 + t / 2048 % 2 * 2048 + t / 4096 % 2 * 4096 + t / 131072 % 2 * 131072
def nstep (s : Int) : Int := nst s / 2 + parN (nst s) * 131072
theorem state_eq (s : Int) : evCall Try.prog [] 100 34 [.int .i64 s] [] (fun v _ => some v) = some (.int .i64 (nst s)) := by
  rw [state_ev, and_m18]
  unfold nst
  by_cases h : s % 262144 = 0
  · rw [if_pos h, h]; rfl
  · rw [if_neg h, beq_eq_false_iff_ne.2 h]; rfl
theorem rstate_eq (s : Int) : evCall Try.prog [sMod] 100 38 [.int .i64 s] [] (fun v _ => some v) = some (.int .i64 (nst s)) := by
  rw [rstate_ev]
  unfold nst
  by_cases h : s % 262144 = 0
  · rw [if_pos h, h]; rfl
  · rw [if_neg h, beq_eq_false_iff_ne.2 h]; rfl
theorem out_eq (s : Int) : evCall Try.prog [] 100 17 [.int .i64 s] [] (fun v _ => some v) = some (.int .i64 (nst s % 2 * 31)) := by
  rw [out_ev, and_m18, and_0b]
  unfold nst
  by_cases h : s % 262144 = 0
  · rw [if_pos h, h]; rfl
  · rw [if_neg h, beq_eq_false_iff_ne.2 h, wrap_id (by omega) (by omega)]; rfl
/-- how many clocks a number takes -/
def per (b : Int) : Int := if b % 32 = 31 then 64 else 128 * (31 - b % 32)
theorem period_eq (b : Int) : evCall Try.prog [] 100 15 [.int .i64 b] [] (fun v _ => some v) = some (.int .i64 (per b)) := by
  rw [period_ev, and_m5, wrap_id (n := 31 - b % 32) (by omega) (by omega), wrap_id (by omega) (by omega)]
  unfold per
  by_cases h : b % 32 = 31
  · rw [show (31 - b % 32 != 0) = false by rw [bne_eq_false_iff_eq]; omega, cond_false, if_pos h]
  · rw [show (31 - b % 32 != 0) = true by rw [bne_iff_ne]; omega, cond_true, if_neg h]
theorem rperiod_eq (b : Int) : evCall Try.prog [sMod] 100 21 [.int .i64 b] [] (fun v _ => some v) = some (.int .i64 (per b)) := by
  rw [rperiod_ev, wrap_id (n := 31 - b % 32) (by omega) (by omega), wrap_id (by omega) (by omega)]
  unfold per
  by_cases h : b % 32 = 31
  · rw [show (31 - b % 32 == 0) = true by rw [beq_iff_eq]; omega, cond_true, if_pos h]
  · rw [show (31 - b % 32 == 0) = false by rw [beq_eq_false_iff_ne]; omega, cond_false, if_neg h]
/-- the odd ones -/
def tapOf (i : Nat) : Int := ((i % 2 + i / 2 % 2 * 2 + i / 4 % 2 * 2048 + i / 8 % 2 * 4096 + i / 16 % 2 * 131072 : Nat) : Int)
theorem odd_all : (List.range 32).map (fun i => evCall Try.prog [] 100 35 [.int .i64 (tapOf i)] [] (fun v _ => some v)) = (List.range 32).map (fun i => some (.int .i64 (parN (tapOf i)))) := by kernel_rfl
theorem odd_at (i : Nat) (h : i < 32) : evCall Try.prog [] 100 35 [.int .i64 (tapOf i)] [] (fun v _ => some v) = some (.int .i64 (parN (tapOf i))) := by
  have := congrArg (fun l => l[i]?) odd_all
  simpa [h] using this
theorem bit01 (x : Int) : x % 2 = 0 ∨ x % 2 = 1 := by omega
theorem odd_eq {n : Int} (h : (n == tapN n) = true) : evCall Try.prog [] 100 35 [.int .i64 n] [] (fun v _ => some v) = some (.int .i64 (parN n)) := by
  rw [beq_iff_eq] at h
  unfold tapN at h
  have h0 := bit01 n
  have h1 := bit01 (n / 2)
  have h2 := bit01 (n / 2048)
  have h3 := bit01 (n / 4096)
  have h4 := bit01 (n / 131072)
  generalize n % 2 = b0 at *
  generalize n / 2 % 2 = b1 at *
  generalize n / 2048 % 2 = b2 at *
  generalize n / 4096 % 2 = b3 at *
  generalize n / 131072 % 2 = b4 at *
  obtain ⟨i, hi, e⟩ : ∃ i, i < 32 ∧ b0 + b1 * 2 + b2 * 2048 + b3 * 4096 + b4 * 131072 = tapOf i := by
    refine ⟨(b0 + b1 * 2 + b2 * 4 + b3 * 8 + b4 * 16).toNat, by omega, ?_⟩
    rcases h0 with rfl | rfl <;> rcases h1 with rfl | rfl <;> rcases h2 with rfl | rfl <;> rcases h3 with rfl | rfl <;> rcases h4 with rfl | rfl <;> decide
  rw [h, e]
  exact odd_at i hi
def sState : Summ Try.prog := mkPure [] hN hM 34 100 (fun args => match args with | [.int .i64 s] => some (true, .int .i64 (nst s)) | _ => none) (by
  intro args v h; split at h
  · simp only [Option.some.injEq, Prod.mk.injEq, true_and] at h; subst h; exact ⟨rfl, rfl, _, state_eq _⟩
  · cases h)
def sRState : Summ Try.prog := mkPure [sMod] hN hM 38 100 (fun args => match args with | [.int .i64 s] => some (true, .int .i64 (nst s)) | _ => none) (by
  intro args v h; split at h
  · simp only [Option.some.injEq, Prod.mk.injEq, true_and] at h; subst h; exact ⟨rfl, rfl, _, rstate_eq _⟩
  · cases h)
def sOut : Summ Try.prog := mkPure [] hN hM 17 100 (fun args => match args with | [.int .i64 s] => some (true, .int .i64 (nst s % 2 * 31)) | _ => none) (by
  intro args v h; split at h
  · simp only [Option.some.injEq, Prod.mk.injEq, true_and] at h; subst h; exact ⟨rfl, rfl, _, out_eq _⟩
  · cases h)
def sPeriod : Summ Try.prog := mkPure [] hN hM 15 100 (fun args => match args with | [.int .i64 s] => some (true, .int .i64 (per s)) | _ => none) (by
  intro args v h; split at h
  · simp only [Option.some.injEq, Prod.mk.injEq, true_and] at h; subst h; exact ⟨rfl, rfl, _, period_eq _⟩
  · cases h)
def sRPeriod : Summ Try.prog := mkPure [sMod] hN hM 21 100 (fun args => match args with | [.int .i64 s] => some (true, .int .i64 (per s)) | _ => none) (by
  intro args v h; split at h
  · simp only [Option.some.injEq, Prod.mk.injEq, true_and] at h; subst h; exact ⟨rfl, rfl, _, rperiod_eq _⟩
  · cases h)
def sOdd : Summ Try.prog := mkPure [] hN hM 35 100 (fun args => match args with | [.int .i64 n] => some (n == tapN n, .int .i64 (parN n)) | _ => none) (by
  intro args v h; split at h
  · simp only [Option.some.injEq, Prod.mk.injEq] at h; obtain ⟨hc, rfl⟩ := h; exact ⟨rfl, rfl, _, odd_eq hc⟩
  · cases h)
/-- the five bits of a state -/
theorem and_taps {t : Int} (h0 : 0 ≤ t) (h1 : t < 262144) : bitI .and .i64 t 137219 = tapN t := by
  have a1 : ∀ h, h < 512 → Nat.beq (h &&& 268) (h / 4 % 2 * 4 + h / 8 % 2 * 8 + h / 256 % 2 * 256) = true := allN_spec (by decide +kernel)
  have a2 : ∀ l, l < 512 → Nat.beq (l &&& 3) (l % 4) = true := allN_spec (by decide +kernel)
  rw [and_nat (by omega) (by omega) (by omega) (by omega), show Int.toNat 137219 = 137219 from rfl]
  obtain ⟨k, rfl⟩ := Int.eq_ofNat_of_zero_le h0
  rw [Int.toNat_natCast]
  have b1 : (k &&& 137219) / 512 = k / 512 &&& 268 := by
    have := Nat.and_div_two_pow (a := k) (b := 137219) (n := 9); simpa using this
  have b2 : (k &&& 137219) % 512 = k % 512 &&& 3 := by
    have := Nat.and_mod_two_pow (a := k) (b := 137219) (n := 9); simpa using this
  have c1 := Nat.eq_of_beq_eq_true (a1 (k / 512) (by omega))
  have c2 := Nat.eq_of_beq_eq_true (a2 (k % 512) (by omega))
  rw [c1] at b1; rw [c2] at b2
  rw [show k / 512 / 4 = k / 2048 by omega, show k / 512 / 8 = k / 4096 by omega, show k / 512 / 256 = k / 131072 by omega] at b1
  rw [show k % 512 % 4 = k % 2 + k / 2 % 2 * 2 by omega] at b2
  generalize k &&& 137219 = x at *
  unfold tapN
  have e : x = 512 * (x / 512) + x % 512 := by omega
  rw [b1, b2] at e
  rw [e]

  omega
theorem par_tap (t : Int) : parN (tapN t) = parN t := by
  unfold tapN
  rw [show parN t = (t % 2 + t / 2 % 2 + t / 2048 % 2 + t / 4096 % 2 + t / 131072 % 2) % 2 from rfl]
  have h0 := bit01 t
  have h1 := bit01 (t / 2)
  have h2 := bit01 (t / 2048)
  have h3 := bit01 (t / 4096)
  have h4 := bit01 (t / 131072)
  generalize t % 2 = b0 at *
  generalize t / 2 % 2 = b1 at *
  generalize t / 2048 % 2 = b2 at *
  generalize t / 4096 % 2 = b3 at *
  generalize t / 131072 % 2 = b4 at *
  rcases h0 with rfl | rfl <;> rcases h1 with rfl | rfl <;> rcases h2 with rfl | rfl <;> rcases h3 with rfl | rfl <;> rcases h4 with rfl | rfl <;> rfl
theorem tap_tap (t : Int) : tapN (tapN t) = tapN t := by
  rw [show tapN t = t % 2 + t / 2 % 2 * 2 + t / 2048 % 2 * 2048 + t / 4096 % 2 * 4096 + t / 131072 % 2 * 131072 from rfl]
  have h0 := bit01 t
  have h1 := bit01 (t / 2)
  have h2 := bit01 (t / 2048)
  have h3 := bit01 (t / 4096)
  have h4 := bit01 (t / 131072)
  generalize t % 2 = b0 at *
  generalize t / 2 % 2 = b1 at *
  generalize t / 2048 % 2 = b2 at *
  generalize t / 4096 % 2 = b3 at *
  generalize t / 131072 % 2 = b4 at *
  rcases h0 with rfl | rfl <;> rcases h1 with rfl | rfl <;> rcases h2 with rfl | rfl <;> rcases h3 with rfl | rfl <;> rcases h4 with rfl | rfl <;> rfl
theorem or_top {x c : Int} (h0 : 0 ≤ x) (h1 : x < 131072) (hc : c = 0 ∨ c = 1) : bitI .or .i64 x (c * 131072) = x + c * 131072 := by
  rw [or_nat (by omega) (by omega) (by omega) (by omega)]
  rcases hc with rfl | rfl
  · rw [show ((0 : Int) * 131072).toNat = 0 from rfl, Nat.or_zero]; omega
  · have := Nat.two_pow_add_eq_or_of_lt (i := 17) (b := x.toNat) (by omega) 1
    rw [show (2 : Nat) ^ 17 * 1 = 131072 from rfl] at this
    rw [show ((1 : Int) * 131072).toNat = 131072 from rfl, Nat.or_comm, ← this]; omega
end Go.Proofs.Ytcmlhcabbnpibaa

import Derived.Test.YtkhlghlmmnemeaaVl
import Derived.Test.YtkhlghlmmnemeaaN
set_option linter.unusedVariables false
set_option linter.unusedSimpArgs false
namespace Go.Proofs.Ytkhlghlmmnemeaa.Nz
open Go Go.R
theorem period_ev (b : Int) : evCall Try.prog [] 100 44 [.int .i64 b] [] (fun v _ => some v) =
  cond (wr Go.IntKind.i64 (31 - bitI BinOp.and Go.IntKind.i64 b 31) != 0) (some (V.int Go.IntKind.i64 (wr Go.IntKind.i64 (128 * wr Go.IntKind.i64 (31 - bitI BinOp.and Go.IntKind.i64 b 31))))) (some (V.int Go.IntKind.i64 64)) := by kernel_rfl
theorem state_ev (s : Int) : evCall Try.prog [] 100 53 [.int .i64 s] [] (fun v _ => some v) =
  cond (bitI BinOp.and Go.IntKind.i64 s 262143 == 0) (some (V.int Go.IntKind.i64 1)) (some (V.int Go.IntKind.i64 (bitI BinOp.and Go.IntKind.i64 s 262143))) := by kernel_rfl
theorem out_ev (s : Int) : evCall Try.prog [] 100 48 [.int .i64 s] [] (fun v _ => some v) =
  cond (bitI BinOp.and Go.IntKind.i64 s 262143 == 0) (some (V.int Go.IntKind.i64 31)) (some (V.int Go.IntKind.i64 (wr Go.IntKind.i64 (bitI BinOp.and Go.IntKind.i64 (bitI BinOp.and Go.IntKind.i64 s 262143) 1 * 31)))) := by kernel_rfl
theorem rperiod_ev (b : Int) : evCall Try.prog [Vl.sMod] 100 49 [.int .i64 b] [] (fun v _ => some v) =
  cond (wr Go.IntKind.i64 (31 - b % 32) == 0) (some (V.int Go.IntKind.i64 64)) (some (V.int Go.IntKind.i64 (wr Go.IntKind.i64 (128 * wr Go.IntKind.i64 (31 - b % 32))))) := by kernel_rfl
theorem rstate_ev (s : Int) : evCall Try.prog [Vl.sMod] 100 51 [.int .i64 s] [] (fun v _ => some v) =
  cond (s % 262144 == 0) (some (V.int Go.IntKind.i64 1)) (some (V.int Go.IntKind.i64 (s % 262144))) := by kernel_rfl
theorem rbit0_ev (s : Int) : evCall Try.prog [] 100 52 [.int .i64 s, .int .i64 0] [] (fun v _ => some v) =
  some (V.int Go.IntKind.i64 ((wr Go.IntKind.i64 (s.tdiv 1)).tmod 2)) := by kernel_rfl
theorem rbit1_ev (s : Int) : evCall Try.prog [] 100 52 [.int .i64 s, .int .i64 1] [] (fun v _ => some v) =
  some (V.int Go.IntKind.i64 ((wr Go.IntKind.i64 (s.tdiv 2)).tmod 2)) := by kernel_rfl
theorem rbit11_ev (s : Int) : evCall Try.prog [] 100 52 [.int .i64 s, .int .i64 11] [] (fun v _ => some v) =
  some (V.int Go.IntKind.i64 ((wr Go.IntKind.i64 (s.tdiv 2048)).tmod 2)) := by kernel_rfl
theorem rbit12_ev (s : Int) : evCall Try.prog [] 100 52 [.int .i64 s, .int .i64 12] [] (fun v _ => some v) =
  some (V.int Go.IntKind.i64 ((wr Go.IntKind.i64 (s.tdiv 4096)).tmod 2)) := by kernel_rfl
theorem rbit17_ev (s : Int) : evCall Try.prog [] 100 52 [.int .i64 s, .int .i64 17] [] (fun v _ => some v) =
  some (V.int Go.IntKind.i64 ((wr Go.IntKind.i64 (s.tdiv 131072)).tmod 2)) := by kernel_rfl
end Go.Proofs.Ytkhlghlmmnemeaa.Nz

namespace Go.Proofs.Ytkhlghlmmnemeaa.Nz
open Go Go.R
def allN (f : Nat → Bool) (n : Nat) : Bool := Nat.rec true (fun n ih => f n && ih) n
theorem allN_spec {f : Nat → Bool} {n : Nat} (h : allN f n = true) : ∀ k, k < n → f k = true := by
  induction n with
  | zero => intro k hk; omega
  | succ n ih =>
    have h' : (f n && allN f n) = true := h
    simp only [Bool.and_eq_true] at h'
    intro k hk
    by_cases e : k = n
    · subst e; exact h'.1
    · exact ih h'.2 k (by omega)
/-- a number as a state of the noise -/
def nst (s : Int) : Int := if s % 262144 = 0 then 1 else s % 262144
def isNS (s : Int) : Bool := decide (1 ≤ s) && decide (s < 262144)
theorem nst_in (s : Int) : 1 ≤ nst s ∧ nst s < 262144 := by unfold nst; split <;> omega
theorem nst_id {s : Int} (h0 : 1 ≤ s) (h1 : s < 262144) : nst s = s := by unfold nst; rw [if_neg (by omega)]; omega
/-- whether an odd number of the five bits are set -/
def parN (t : Int) : Int := (t % 2 + t / 2 % 2 + t / 2048 % 2 + t / 4096 % 2 + t / 131072 % 2) % 2
def tapN (t : Int) : Int := t % 2 + t / 2 % 2 * 2 + t / 2048 % 2 * 2048 + t / 4096 % 2 * 4096 + t / 131072 % 2 * 131072
def nstep (s : Int) : Int := nst s / 2 + parN (nst s) * 131072
theorem state_eq (s : Int) : evCall Try.prog [] 100 53 [.int .i64 s] [] (fun v _ => some v) = some (.int .i64 (nst s)) := by
  rw [state_ev, and_m18]
  unfold nst
  by_cases h : s % 262144 = 0
  · rw [if_pos h, h]; rfl
  · rw [if_neg h, beq_eq_false_iff_ne.2 h]; rfl
theorem rstate_eq (s : Int) : evCall Try.prog [Vl.sMod] 100 51 [.int .i64 s] [] (fun v _ => some v) = some (.int .i64 (nst s)) := by
  rw [rstate_ev]
  unfold nst
  by_cases h : s % 262144 = 0
  · rw [if_pos h, h]; rfl
  · rw [if_neg h, beq_eq_false_iff_ne.2 h]; rfl
theorem out_eq (s : Int) : evCall Try.prog [] 100 48 [.int .i64 s] [] (fun v _ => some v) = some (.int .i64 (nst s % 2 * 31)) := by
  rw [out_ev, and_m18, and_0b]
  unfold nst
  by_cases h : s % 262144 = 0
  · rw [if_pos h, h]; rfl
  · rw [if_neg h, beq_eq_false_iff_ne.2 h, wrap_id (by omega) (by omega)]; rfl
/-- how many clocks a number takes -/
def per (b : Int) : Int := if b % 32 = 31 then 64 else 128 * (31 - b % 32)
theorem period_eq (b : Int) : evCall Try.prog [] 100 44 [.int .i64 b] [] (fun v _ => some v) = some (.int .i64 (per b)) := by
  rw [period_ev, and_m5, wrap_id (n := 31 - b % 32) (by omega) (by omega), wrap_id (by omega) (by omega)]
  unfold per
  by_cases h : b % 32 = 31
  · rw [show (31 - b % 32 != 0) = false by rw [bne_eq_false_iff_eq]; omega, cond_false, if_pos h]
  · rw [show (31 - b % 32 != 0) = true by rw [bne_iff_ne]; omega, cond_true, if_neg h]
theorem rperiod_eq (b : Int) : evCall Try.prog [Vl.sMod] 100 49 [.int .i64 b] [] (fun v _ => some v) = some (.int .i64 (per b)) := by
  rw [rperiod_ev, wrap_id (n := 31 - b % 32) (by omega) (by omega), wrap_id (by omega) (by omega)]
  unfold per
  by_cases h : b % 32 = 31
  · rw [show (31 - b % 32 == 0) = true by rw [beq_iff_eq]; omega, cond_true, if_pos h]
  · rw [show (31 - b % 32 == 0) = false by rw [beq_eq_false_iff_ne]; omega, cond_false, if_neg h]
/-- the odd ones -/
def tapOf (i : Nat) : Int := ((i % 2 + i / 2 % 2 * 2 + i / 4 % 2 * 2048 + i / 8 % 2 * 4096 + i / 16 % 2 * 131072 : Nat) : Int)
theorem odd_all : (List.range 32).map (fun i => evCall Try.prog [] 100 54 [.int .i64 (tapOf i)] [] (fun v _ => some v)) = (List.range 32).map (fun i => some (.int .i64 (parN (tapOf i)))) := by kernel_rfl
theorem odd_at (i : Nat) (h : i < 32) : evCall Try.prog [] 100 54 [.int .i64 (tapOf i)] [] (fun v _ => some v) = some (.int .i64 (parN (tapOf i))) := by
  have := congrArg (fun l => l[i]?) odd_all
  simpa [h] using this
theorem bit01 (x : Int) : x % 2 = 0 ∨ x % 2 = 1 := by omega
theorem odd_eq {n : Int} (h : (n == tapN n) = true) : evCall Try.prog [] 100 54 [.int .i64 n] [] (fun v _ => some v) = some (.int .i64 (parN n)) := by
  rw [beq_iff_eq] at h
  unfold tapN at h
  have h0 := bit01 n
  have h1 := bit01 (n / 2)
  have h2 := bit01 (n / 2048)
  have h3 := bit01 (n / 4096)
  have h4 := bit01 (n / 131072)
  generalize n % 2 = b0 at *
  generalize n / 2 % 2 = b1 at *
  generalize n / 2048 % 2 = b2 at *
  generalize n / 4096 % 2 = b3 at *
  generalize n / 131072 % 2 = b4 at *
  obtain ⟨i, hi, e⟩ : ∃ i, i < 32 ∧ b0 + b1 * 2 + b2 * 2048 + b3 * 4096 + b4 * 131072 = tapOf i := by
    refine ⟨(b0 + b1 * 2 + b2 * 4 + b3 * 8 + b4 * 16).toNat, by omega, ?_⟩
    rcases h0 with rfl | rfl <;> rcases h1 with rfl | rfl <;> rcases h2 with rfl | rfl <;> rcases h3 with rfl | rfl <;> rcases h4 with rfl | rfl <;> decide
  rw [h, e]
  exact odd_at i hi
def sState : Summ Try.prog := mkPure [] hN hM 53 100 (fun args => match args with | [.int .i64 s] => some (true, .int .i64 (nst s)) | _ => none) (by
  intro args v h; split at h
  · simp only [Option.some.injEq, Prod.mk.injEq, true_and] at h; subst h; exact ⟨rfl, rfl, _, state_eq _⟩
  · cases h)
def sRState : Summ Try.prog := mkPure [Vl.sMod] hN hM 51 100 (fun args => match args with | [.int .i64 s] => some (true, .int .i64 (nst s)) | _ => none) (by
  intro args v h; split at h
  · simp only [Option.some.injEq, Prod.mk.injEq, true_and] at h; subst h; exact ⟨rfl, rfl, _, rstate_eq _⟩
  · cases h)
def sOut : Summ Try.prog := mkPure [] hN hM 48 100 (fun args => match args with | [.int .i64 s] => some (true, .int .i64 (nst s % 2 * 31)) | _ => none) (by
  intro args v h; split at h
  · simp only [Option.some.injEq, Prod.mk.injEq, true_and] at h; subst h; exact ⟨rfl, rfl, _, out_eq _⟩
  · cases h)
def sPeriod : Summ Try.prog := mkPure [] hN hM 44 100 (fun args => match args with | [.int .i64 s] => some (true, .int .i64 (per s)) | _ => none) (by
  intro args v h; split at h
  · simp only [Option.some.injEq, Prod.mk.injEq, true_and] at h; subst h; exact ⟨rfl, rfl, _, period_eq _⟩
  · cases h)
def sRPeriod : Summ Try.prog := mkPure [Vl.sMod] hN hM 49 100 (fun args => match args with | [.int .i64 s] => some (true, .int .i64 (per s)) | _ => none) (by
  intro args v h; split at h
  · simp only [Option.some.injEq, Prod.mk.injEq, true_and] at h; subst h; exact ⟨rfl, rfl, _, rperiod_eq _⟩
  · cases h)
def sOdd : Summ Try.prog := mkPure [] hN hM 54 100 (fun args => match args with | [.int .i64 n] => some (n == tapN n, .int .i64 (parN n)) | _ => none) (by
  intro args v h; split at h
  · simp only [Option.some.injEq, Prod.mk.injEq] at h; obtain ⟨hc, rfl⟩ := h; exact ⟨rfl, rfl, _, odd_eq hc⟩
  · cases h)
/-- the five bits of a state -/
theorem and_taps {t : Int} (h0 : 0 ≤ t) (h1 : t < 262144) : bitI .and .i64 t 137219 = tapN t := by
  have a1 : ∀ h, h < 512 → Nat.beq (h &&& 268) (h / 4 % 2 * 4 + h / 8 % 2 * 8 + h / 256 % 2 * 256) = true := allN_spec (by decide +kernel)
  have a2 : ∀ l, l < 512 → Nat.beq (l &&& 3) (l % 4) = true := allN_spec (by decide +kernel)
  rw [and_nat (by omega) (by omega) (by omega) (by omega), show Int.toNat 137219 = 137219 from rfl]
  obtain ⟨k, rfl⟩ := Int.eq_ofNat_of_zero_le h0
  rw [Int.toNat_natCast]
  have b1 : (k &&& 137219) / 512 = k / 512 &&& 268 := by
    have := Nat.and_div_two_pow (a := k) (b := 137219) (n := 9); simpa using this
  have b2 : (k &&& 137219) % 512 = k % 512 &&& 3 := by
    have := Nat.and_mod_two_pow (a := k) (b := 137219) (n := 9); simpa using this
  have c1 := Nat.eq_of_beq_eq_true (a1 (k / 512) (by omega))
  have c2 := Nat.eq_of_beq_eq_true (a2 (k % 512) (by omega))
  rw [c1] at b1; rw [c2] at b2
  rw [show k / 512 / 4 = k / 2048 by omega, show k / 512 / 8 = k / 4096 by omega, show k / 512 / 256 = k / 131072 by omega] at b1
  rw [show k % 512 % 4 = k % 2 + k / 2 % 2 * 2 by omega] at b2
  generalize k &&& 137219 = x at *
  unfold tapN
  have e : x = 512 * (x / 512) + x % 512 := by omega
  rw [b1, b2] at e
  rw [e]

  omega
theorem par_tap (t : Int) : parN (tapN t) = parN t := by
  unfold tapN
  rw [show parN t = (t % 2 + t / 2 % 2 + t / 2048 % 2 + t / 4096 % 2 + t / 131072 % 2) % 2 from rfl]
  have h0 := bit01 t
  have h1 := bit01 (t / 2)
  have h2 := bit01 (t / 2048)
  have h3 := bit01 (t / 4096)
  have h4 := bit01 (t / 131072)
  generalize t % 2 = b0 at *
  generalize t / 2 % 2 = b1 at *
  generalize t / 2048 % 2 = b2 at *
  generalize t / 4096 % 2 = b3 at *
  generalize t / 131072 % 2 = b4 at *
  rcases h0 with rfl | rfl <;> rcases h1 with rfl | rfl <;> rcases h2 with rfl | rfl <;> rcases h3 with rfl | rfl <;> rcases h4 with rfl | rfl <;> rfl
theorem tap_tap (t : Int) : tapN (tapN t) = tapN t := by
  rw [show tapN t = t % 2 + t / 2 % 2 * 2 + t / 2048 % 2 * 2048 + t / 4096 % 2 * 4096 + t / 131072 % 2 * 131072 from rfl]
  have h0 := bit01 t
  have h1 := bit01 (t / 2)
  have h2 := bit01 (t / 2048)
  have h3 := bit01 (t / 4096)
  have h4 := bit01 (t / 131072)
  generalize t % 2 = b0 at *
  generalize t / 2 % 2 = b1 at *
  generalize t / 2048 % 2 = b2 at *
  generalize t / 4096 % 2 = b3 at *
  generalize t / 131072 % 2 = b4 at *
  rcases h0 with rfl | rfl <;> rcases h1 with rfl | rfl <;> rcases h2 with rfl | rfl <;> rcases h3 with rfl | rfl <;> rcases h4 with rfl | rfl <;> rfl
theorem or_top {x c : Int} (h0 : 0 ≤ x) (h1 : x < 131072) (hc : c = 0 ∨ c = 1) : bitI .or .i64 x (c * 131072) = x + c * 131072 := by
  rw [or_nat (by omega) (by omega) (by omega) (by omega)]
  rcases hc with rfl | rfl
  · rw [show ((0 : Int) * 131072).toNat = 0 from rfl, Nat.or_zero]; omega
  · have := Nat.two_pow_add_eq_or_of_lt (i := 17) (b := x.toNat) (by omega) 1
    rw [show (2 : Nat) ^ 17 * 1 = 131072 from rfl] at this
    rw [show ((1 : Int) * 131072).toNat = 131072 from rfl, Nat.or_comm, ← this]; omega
end Go.Proofs.Ytkhlghlmmnemeaa.Nz

namespace Go.Proofs.Ytkhlghlmmnemeaa.Nz
open Go Go.R
theorem rstep_ev (s : Int) (t : Int) : evCallH Try.prog [sRState] [(5, .int .i64 t)] 100 43 [.int .i64 s] [] (fun v _ => some v) =
  cond (nst s == t) (some (V.int Go.IntKind.i64 (nst (wr Go.IntKind.i64 (wr Go.IntKind.i64 (t.tdiv 2) + wr Go.IntKind.i64 ((wr Go.IntKind.i64 (wr Go.IntKind.i64 (wr Go.IntKind.i64 (wr Go.IntKind.i64 ((wr Go.IntKind.i64 (t.tdiv 1)).tmod 2 + (wr Go.IntKind.i64 (t.tdiv 2)).tmod 2) + (wr Go.IntKind.i64 (t.tdiv 2048)).tmod 2) + (wr Go.IntKind.i64 (t.tdiv 4096)).tmod 2) + (wr Go.IntKind.i64 (t.tdiv 131072)).tmod 2)).tmod 2 * 131072)))))) none := by kernel_rfl
end Go.Proofs.Ytkhlghlmmnemeaa.Nz

namespace Go.Proofs.Ytkhlghlmmnemeaa.Nz
open Go Go.R
theorem parN_01 (t : Int) : parN t = 0 ∨ parN t = 1 := by unfold parN; exact bit01 _
theorem nstep_in (s : Int) : 1 ≤ nstep s ∧ nstep s < 262144 := by
  have h := nst_in s
  unfold nstep
  generalize nst s = t at *
  have hp := parN_01 t
  by_cases h1 : t = 1
  · subst h1; decide
  · omega
theorem rstep_eq (s : Int) : evCallH Try.prog [sRState] [(5, .int .i64 (nst s))] 100 43 [.int .i64 s] [] (fun v _ => some v) = some (.int .i64 (nstep s)) := by
  rw [rstep_ev, beq_self_eq_true, cond_true]
  have h := nst_in s
  have hn := nstep_in s
  unfold nstep at *
  generalize nst s = t at *
  rw [tdiv_pos (by omega), tdiv_pos (by omega), tdiv_pos (by omega), tdiv_pos (by omega), tdiv_pos (by omega)]
  rw [wrap_id (n := t / 1) (by omega) (by omega), wrap_id (n := t / 2) (by omega) (by omega), wrap_id (n := t / 2048) (by omega) (by omega), wrap_id (n := t / 4096) (by omega) (by omega), wrap_id (n := t / 131072) (by omega) (by omega)]
  rw [tmod_pos (n := t / 1) (by omega), tmod_pos (n := t / 2) (by omega), tmod_pos (n := t / 2048) (by omega), tmod_pos (n := t / 4096) (by omega), tmod_pos (n := t / 131072) (by omega), show t / 1 = t by omega]
  rw [wrap_id (n := t % 2 + t / 2 % 2) (by omega) (by omega), wrap_id (n := t % 2 + t / 2 % 2 + t / 2048 % 2) (by omega) (by omega), wrap_id (n := t % 2 + t / 2 % 2 + t / 2048 % 2 + t / 4096 % 2) (by omega) (by omega), wrap_id (n := t % 2 + t / 2 % 2 + t / 2048 % 2 + t / 4096 % 2 + t / 131072 % 2) (by omega) (by omega)]
  rw [tmod_pos (by omega)]
  rw [show (t % 2 + t / 2 % 2 + t / 2048 % 2 + t / 4096 % 2 + t / 131072 % 2) % 2 = parN t from rfl]
  have hp := parN_01 t
  rw [wrap_id (n := parN t * 131072) (by omega) (by omega), wrap_id (n := t / 2 + parN t * 131072) (by omega) (by omega), nst_id hn.1 hn.2]
def sRStep : Summ Try.prog := mkPure [sRState] hN hM 43 100 (fun args => match args with | [.int .i64 s] => some (true, .int .i64 (nstep s)) | _ => none) (by
  intro args v h; split at h
  · simp only [Option.some.injEq, Prod.mk.injEq, true_and] at h; subst h; exact ⟨rfl, rfl, _, rstep_eq _⟩
  · cases h)
end Go.Proofs.Ytkhlghlmmnemeaa.Nz

namespace Go.Proofs.Ytkhlghlmmnemeaa.Nz
open Go Go.R
theorem ofTo_ev (f : Nat → Int) (s : Int) : evTo Try.prog [] 100 [] (ntOf Try.prog 55 [.aggi .i64 18 f, .int .i64 s]) [1, 1, 0, 1] (bodyOf Try.prog 55) (envOf [.aggi .i64 18 f, .int .i64 s] 0) [] (Kt [1, 5, 8, 9]) =
  some (V.tup [V.int Go.IntKind.i64 s, V.int Go.IntKind.i64 0, V.aggi Go.IntKind.i64 18 fun j => f (0 + j), V.int Go.IntKind.i64 0], [Blk.ints 81 Go.IntKind.i64 18 f]) := by kernel_rfl
theorem ofBody_ev (f : Nat → Int) (b : Blk) (s o k : Int) (rest : Env) : ev Try.prog [] 100 [] 23 (sub [1, 1, 0, 1, 0, 0] (bodyOf Try.prog 55)) (zipE [1, 5, 8, 9] [.int .i64 s, .int .i64 o, .aggi .i64 18 f, .int .i64 k] rest) [b] (Kl [1, 5, 8, 9]) =
  cond (decide (k < 18)) (cond (inR k 18 && (scaled k 1 + 1).ble 18) (cond (decide (0 ≤ k)) (cond (bitI BinOp.and Go.IntKind.i64 (s.fdiv (2 ^ min k.toNat 64)) 1 == 1) (some (V.tup [V.int Go.IntKind.i64 (-1), V.int Go.IntKind.i64 s, V.int Go.IntKind.i64 (bitI BinOp.xor Go.IntKind.i64 o (f (scaled k 1))), V.aggi Go.IntKind.i64 18 f, V.int Go.IntKind.i64 (wr Go.IntKind.i64 (k + 1))], [b])) (some (V.tup [V.int Go.IntKind.i64 (-1), V.int Go.IntKind.i64 s, V.int Go.IntKind.i64 o, V.aggi Go.IntKind.i64 18 f, V.int Go.IntKind.i64 (wr Go.IntKind.i64 (k + 1))], [b]))) none) none) (some (V.tup [V.int Go.IntKind.i64 0, V.int Go.IntKind.i64 s, V.int Go.IntKind.i64 o, V.aggi Go.IntKind.i64 18 f, V.int Go.IntKind.i64 k], [b])) := by kernel_rfl
theorem ofFrom_ev (f : Nat → Int) (b : Blk) (s o k : Int) (rest : Env) : evFrom Try.prog [] 100 [] 23 [1, 1, 0, 1] (bodyOf Try.prog 55) (zipE [1, 5, 8, 9] [.int .i64 s, .int .i64 o, .aggi .i64 18 f, .int .i64 k] rest) [b] (leaveOf Try.prog 55 (fun v _ => some v)) =
  some (V.int Go.IntKind.i64 o) := by kernel_rfl
end Go.Proofs.Ytkhlghlmmnemeaa.Nz

namespace Go.Proofs.Ytkhlghlmmnemeaa.Nz
open Go Go.R
/-! ### the reference's steps, one by one -/
def itI : Nat → Int → Int
  | 0, s => s
  | n + 1, s => nstep (itI n s)
def jumpR (s n : Int) : Int := itI n.toNat (nst s)
/-! ### what a state becomes -/
def outI (f : Nat → Int) (s : Int) : Nat → Int
  | 0 => 0
  | j + 1 => if s / 2 ^ j % 2 = 1 then bitI .xor .i64 (outI f s j) (f j) else outI f s j
def ofI (f : Nat → Int) (s : Int) : Int := outI f s 18
theorem of_block : sub [1, 1, 0, 1] (bodyOf Try.prog 55) = .block 0 (.loop (sub [1, 1, 0, 1, 0, 0] (bodyOf Try.prog 55))) := by kernel_rfl
theorem of_calls {f : Nat → Int} {s : Int} (B : Base) (ρ : Rho) (w : World) (hr : Rel B ρ [] w) : Calls Try.prog 55 (reals ρ [.aggi .i64 18 f, .int .i64 s]).toArray w fun e w' => ∃ x, e = .returned x ∧ After B ρ [] (fun v _ => some v) (.int .i64 (ofI f s)) x w' := by
  have h1 := ofTo_ev f s
  rw [show (fun j => f (0 + j)) = f from funext fun j => by rw [Nat.zero_add]] at h1
  refine loop_call hN hM (by kernel_rfl) [1, 1, 0, 1] h1 (fun B ρ0 a w hs => ?_) (fun rest => ofFrom_ev f (Blk.ints 81 Go.IntKind.i64 18 f) s (ofI f s) (18 : Nat) rest) hr rfl
  rw [show ntOf Try.prog 55 [.aggi .i64 18 f, .int .i64 s] = 23 by kernel_rfl] at hs ⊢
  rw [of_block]
  refine loop_unit (Γ := []) (n := 100) (H := []) (live := [1, 5, 8, 9]) hN hM 18 (fun j => [.int .i64 s, .int .i64 (outI f s j), .aggi .i64 18 f, .int .i64 (j : Nat)]) (fun _ => [Blk.ints 81 Go.IntKind.i64 18 f]) (fun j hj rest => ?_) (fun rest => ?_) hs
  · refine (ofBody_ev f _ s (outI f s j) j rest).trans ?_
    have e1 : (inR (j : Int) 18 && (scaled (j : Int) 1 + 1).ble 18) = true := by
      rw [scaled_eq]; simp [inR]; omega
    have e2 : scaled (j : Int) 1 = j := by rw [scaled_eq]; simp
    have e3 : s.fdiv (2 ^ min (j : Int).toNat 64) = s / 2 ^ j := by
      rw [Int.toNat_natCast, Nat.min_eq_left (by omega)]
      exact fdiv_pos s (Int.le_of_lt (Int.pow_pos (by decide)))
    rw [decide_eq_true (show (j : Int) < 18 by omega), cond_true, e1, cond_true, decide_eq_true (show (0 : Int) ≤ j by omega), cond_true, e2, e3, and_0b, wrap_id (n := (j : Int) + 1) (by omega) (by omega)]
    by_cases h : s / 2 ^ j % 2 = 1
    · rw [show (s / 2 ^ j % 2 == 1) = true by rw [h]; rfl, cond_true]
      simp only [outI, if_pos h]
      rfl
    · rw [beq_eq_false_iff_ne.2 h, cond_false]
      simp only [outI, if_neg h]
      rfl
  · exact (ofBody_ev f _ s (outI f s 18) (18 : Nat) rest).trans rfl
def sOf : Summ Try.prog := mkPureC 55 (fun args => match args with | [.aggi .i64 18 f, .int .i64 s] => some (true, .int .i64 (ofI f s)) | _ => none) (by
  intro args v h; split at h
  · simp only [Option.some.injEq, Prod.mk.injEq, true_and] at h; subst h; exact ⟨rfl, rfl, of_calls⟩
  · cases h)
end Go.Proofs.Ytkhlghlmmnemeaa.Nz

namespace Go.Proofs.Ytkhlghlmmnemeaa.Nz
open Go Go.R
theorem twice_ev (f : Nat → Int) : evCall Try.prog [sOf] 100 56 [.aggi .i64 18 f] [] (fun v _ => some v) =
  some (V.aggi Go.IntKind.i64 18 fun j => upd (fun j => 0) 0 18 (fun j => upd1 (fun j => upd1 (fun j => upd1 (fun j => upd1 (fun j => upd1 (fun j => upd1 (fun j => upd1 (fun j => upd1 (fun j => upd1 (fun j => upd1 (fun j => upd1 (fun j => upd1 (fun j => upd1 (fun j => upd1 (fun j => upd1 (fun j => upd1 (fun j => upd1 (fun j => upd1 (fun j => 0) 0 (ofI (fun j => f (0 + j)) (f 0)) j) 1 (ofI (fun j => f (0 + j)) (f 1)) j) 2 (ofI (fun j => f (0 + j)) (f 2)) j) 3 (ofI (fun j => f (0 + j)) (f 3)) j) 4 (ofI (fun j => f (0 + j)) (f 4)) j) 5 (ofI (fun j => f (0 + j)) (f 5)) j) 6 (ofI (fun j => f (0 + j)) (f 6)) j) 7 (ofI (fun j => f (0 + j)) (f 7)) j) 8 (ofI (fun j => f (0 + j)) (f 8)) j) 9 (ofI (fun j => f (0 + j)) (f 9)) j) 10 (ofI (fun j => f (0 + j)) (f 10)) j) 11 (ofI (fun j => f (0 + j)) (f 11)) j) 12 (ofI (fun j => f (0 + j)) (f 12)) j) 13 (ofI (fun j => f (0 + j)) (f 13)) j) 14 (ofI (fun j => f (0 + j)) (f 14)) j) 15 (ofI (fun j => f (0 + j)) (f 15)) j) 16 (ofI (fun j => f (0 + j)) (f 16)) j) 17 (ofI (fun j => f (0 + j)) (f 17)) (0 + j)) (0 + j)) := by kernel_rfl
end Go.Proofs.Ytkhlghlmmnemeaa.Nz

namespace Go.Proofs.Ytkhlghlmmnemeaa.Nz
open Go Go.R
def twF (f : Nat → Int) : Nat → Int := fun j => upd (fun j => 0) 0 18 (fun j => upd1 (fun j => upd1 (fun j => upd1 (fun j => upd1 (fun j => upd1 (fun j => upd1 (fun j => upd1 (fun j => upd1 (fun j => upd1 (fun j => upd1 (fun j => upd1 (fun j => upd1 (fun j => upd1 (fun j => upd1 (fun j => upd1 (fun j => upd1 (fun j => upd1 (fun j => upd1 (fun j => 0) 0 (ofI (fun j => f (0 + j)) (f 0)) j) 1 (ofI (fun j => f (0 + j)) (f 1)) j) 2 (ofI (fun j => f (0 + j)) (f 2)) j) 3 (ofI (fun j => f (0 + j)) (f 3)) j) 4 (ofI (fun j => f (0 + j)) (f 4)) j) 5 (ofI (fun j => f (0 + j)) (f 5)) j) 6 (ofI (fun j => f (0 + j)) (f 6)) j) 7 (ofI (fun j => f (0 + j)) (f 7)) j) 8 (ofI (fun j => f (0 + j)) (f 8)) j) 9 (ofI (fun j => f (0 + j)) (f 9)) j) 10 (ofI (fun j => f (0 + j)) (f 10)) j) 11 (ofI (fun j => f (0 + j)) (f 11)) j) 12 (ofI (fun j => f (0 + j)) (f 12)) j) 13 (ofI (fun j => f (0 + j)) (f 13)) j) 14 (ofI (fun j => f (0 + j)) (f 14)) j) 15 (ofI (fun j => f (0 + j)) (f 15)) j) 16 (ofI (fun j => f (0 + j)) (f 16)) j) 17 (ofI (fun j => f (0 + j)) (f 17)) (0 + j)) (0 + j)
theorem twF_eq (f : Nat → Int) (j : Nat) (h : j < 18) : twF f j = ofI f (f j) := by
  have e : (fun j => f (0 + j)) = f := funext fun j => by rw [Nat.zero_add]
  unfold twF
  rw [e]
  have hj : j = 0 ∨ j = 1 ∨ j = 2 ∨ j = 3 ∨ j = 4 ∨ j = 5 ∨ j = 6 ∨ j = 7 ∨ j = 8 ∨ j = 9 ∨ j = 10 ∨ j = 11 ∨ j = 12 ∨ j = 13 ∨ j = 14 ∨ j = 15 ∨ j = 16 ∨ j = 17 := by omega
  rcases hj with rfl | rfl | rfl | rfl | rfl | rfl | rfl | rfl | rfl | rfl | rfl | rfl | rfl | rfl | rfl | rfl | rfl | rfl <;> rfl
def sTwice : Summ Try.prog := mkPure [sOf] hN hM 56 100 (fun args => match args with | [.aggi .i64 18 f] => some (true, .aggi .i64 18 (twF f)) | _ => none) (by
  intro args v h; split at h
  · simp only [Option.some.injEq, Prod.mk.injEq, true_and] at h; subst h; exact ⟨rfl, rfl, _, twice_ev _⟩
  · cases h)
end Go.Proofs.Ytkhlghlmmnemeaa.Nz

namespace Go.Proofs.Ytkhlghlmmnemeaa.Nz
open Go Go.R
theorem jpBody_ev (M : Nat → Int) (s n k : Int) (rest : Env) : ev Try.prog [sOf, sTwice] 100 [] 44 (sub [1, 1, 1, 1, 0, 1, 0, 0] (bodyOf Try.prog 47)) (zipE [0, 1, 5, 25] [.int .i64 s, .int .i64 n, .ptr 0 0, .int .i64 k] rest) [.ints 81 .i64 18 M] (Kl [0, 1, 5, 25]) =
  cond (decide (k < 63)) (cond (decide (0 ≤ k)) (cond (decide (n < wr Go.IntKind.i64 (1 * 2 ^ min k.toNat 64))) (some (V.tup [V.int Go.IntKind.i64 2, V.int Go.IntKind.i64 s, V.int Go.IntKind.i64 n, V.ptr 0 0, V.int Go.IntKind.i64 k], [Blk.ints 81 Go.IntKind.i64 18 M])) (cond (decide (0 ≤ k)) (cond (bitI BinOp.and Go.IntKind.i64 (n.fdiv (2 ^ min k.toNat 64)) 1 == 1) (some (V.tup [V.int Go.IntKind.i64 (-1), V.int Go.IntKind.i64 (ofI (fun j => M (0 + j)) s), V.int Go.IntKind.i64 n, V.ptr 0 0, V.int Go.IntKind.i64 (wr Go.IntKind.i64 (k + 1))], [Blk.ints 81 Go.IntKind.i64 18 fun j => upd M 0 18 (fun j => twF (fun j => M (0 + j)) j) j])) (some (V.tup [V.int Go.IntKind.i64 (-1), V.int Go.IntKind.i64 s, V.int Go.IntKind.i64 n, V.ptr 0 0, V.int Go.IntKind.i64 (wr Go.IntKind.i64 (k + 1))], [Blk.ints 81 Go.IntKind.i64 18 fun j => upd M 0 18 (fun j => twF (fun j => M (0 + j)) j) j]))) none)) none) (some (V.tup [V.int Go.IntKind.i64 2, V.int Go.IntKind.i64 s, V.int Go.IntKind.i64 n, V.ptr 0 0, V.int Go.IntKind.i64 k], [Blk.ints 81 Go.IntKind.i64 18 M])) := by kernel_rfl
theorem jpFrom_ev (M : Nat → Int) (s n k : Int) (rest : Env) : evFrom Try.prog [] 100 [] 44 [1, 1, 1, 1, 0, 1] (bodyOf Try.prog 47) (zipE [0, 1, 5, 25] [.int .i64 s, .int .i64 n, .ptr 0 0, .int .i64 k] rest) [.ints 81 .i64 18 M] (leaveOf Try.prog 47 (fun v _ => some v)) =
  some (V.int Go.IntKind.i64 s) := by kernel_rfl
end Go.Proofs.Ytkhlghlmmnemeaa.Nz

namespace Go.Proofs.Ytkhlghlmmnemeaa.Nz
open Go Go.R
theorem jpTo_ev (s n : Int) : evTo Try.prog [sState, sOdd] 100 [] (ntOf Try.prog 47 [.int .i64 s, .int .i64 n]) [1, 1, 1, 1, 0, 1] (bodyOf Try.prog 47) (envOf [.int .i64 s, .int .i64 n] 0) [] (Kt [0, 1, 5, 25]) =
  some (V.tup [V.int Go.IntKind.i64 (nst s), V.int Go.IntKind.i64 n, V.ptr 0 0, V.int Go.IntKind.i64 0], [Blk.ints 81 Go.IntKind.i64 18 fun j => upd1 (fun j => upd1 (fun j => upd1 (fun j => upd1 (fun j => upd1 (fun j => upd1 (fun j => upd1 (fun j => upd1 (fun j => upd1 (fun j => upd1 (fun j => upd1 (fun j => upd1 (fun j => upd1 (fun j => upd1 (fun j => upd1 (fun j => upd1 (fun j => upd1 (fun j => upd1 (fun j => 0) 0 131072 j) 1 131073 j) 2 2 j) 3 4 j) 4 8 j) 5 16 j) 6 32 j) 7 64 j) 8 128 j) 9 256 j) 10 512 j) 11 132096 j) 12 133120 j) 13 4096 j) 14 8192 j) 15 16384 j) 16 32768 j) 17 196608 j]) := by kernel_rfl
end Go.Proofs.Ytkhlghlmmnemeaa.Nz

namespace Go.Proofs.Ytkhlghlmmnemeaa.Nz
open Go Go.R
/-! ### the steps, linear over bits -/
def parB (t : Nat) : Bool := t.testBit 0 ^^ t.testBit 1 ^^ t.testBit 11 ^^ t.testBit 12 ^^ t.testBit 17
def stX (t : Nat) : Nat := t / 2 ^^^ (bif parB t then 131072 else 0)
def itX : Nat → Nat → Nat
  | 0, t => t
  | n + 1, t => stX (itX n t)
theorem parB_xor (a b : Nat) : parB (a ^^^ b) = (parB a ^^ parB b) := by
  unfold parB
  simp only [Nat.testBit_xor]
  have key : ∀ x0 x1 x2 x3 x4 y0 y1 y2 y3 y4 : Bool, ((x0 ^^ y0) ^^ (x1 ^^ y1) ^^ (x2 ^^ y2) ^^ (x3 ^^ y3) ^^ (x4 ^^ y4)) = ((x0 ^^ x1 ^^ x2 ^^ x3 ^^ x4) ^^ (y0 ^^ y1 ^^ y2 ^^ y3 ^^ y4)) := by decide
  exact key _ _ _ _ _ _ _ _ _ _
theorem stX_xor (a b : Nat) : stX (a ^^^ b) = stX a ^^^ stX b := by
  unfold stX
  rw [parB_xor]
  have h : (a ^^^ b) / 2 = a / 2 ^^^ b / 2 := by
    apply Nat.eq_of_testBit_eq; intro i
    simp [Nat.testBit_div_two, Nat.testBit_xor]
  rw [h]
  have e : (bif (parB a ^^ parB b) then 131072 else 0) = (bif parB a then 131072 else 0) ^^^ (bif parB b then 131072 else 0) := by
    cases parB a <;> cases parB b <;> rfl
  rw [e]
  apply Nat.eq_of_testBit_eq; intro i
  simp only [Nat.testBit_xor]
  have key : ∀ x y z u : Bool, ((x ^^ y) ^^ (z ^^ u)) = ((x ^^ z) ^^ (y ^^ u)) := by decide
  exact key _ _ _ _
theorem itX_xor (n a b : Nat) : itX n (a ^^^ b) = itX n a ^^^ itX n b := by
  induction n with
  | zero => rfl
  | succ n ih => simp only [itX]; rw [ih, stX_xor]
theorem itX_zero (n : Nat) : itX n 0 = 0 := by
  induction n with
  | zero => rfl
  | succ n ih => simp only [itX]; rw [ih]; rfl
theorem itX_add (a b t : Nat) : itX (a + b) t = itX a (itX b t) := by
  induction a with
  | zero => rw [Nat.zero_add]; rfl
  | succ a ih => rw [show a + 1 + b = (a + b) + 1 by omega]; simp only [itX]; rw [ih]
theorem stX_lt {t : Nat} (h : t < 262144) : stX t < 262144 := by
  unfold stX
  refine Nat.xor_lt_two_pow (n := 18) (by omega) ?_
  cases parB t <;> decide
theorem itX_lt (n : Nat) {t : Nat} (h : t < 262144) : itX n t < 262144 := by
  induction n with
  | zero => exact h
  | succ n ih => exact stX_lt ih
theorem xor_top {b j : Nat} (h : b < 2 ^ j) : b ^^^ 2 ^ j = b + 2 ^ j := by
  have h1 := Nat.two_pow_add_eq_or_of_lt h 1
  rw [Nat.mul_one] at h1
  rw [Nat.add_comm b, h1]
  apply Nat.eq_of_testBit_eq; intro i
  rw [Nat.testBit_xor, Nat.testBit_or, Nat.testBit_two_pow]
  by_cases hi : j = i
  · subst hi; rw [Nat.testBit_lt_two_pow h]; simp
  · simp [hi]
theorem tb_dec (t i : Nat) : t.testBit i = decide (t / 2 ^ i % 2 = 1) := Nat.testBit_eq_decide_div_mod_eq
theorem par_link (t : Nat) : parN (t : Int) = (bif parB t then 1 else 0) := by
  unfold parB parN
  rw [tb_dec, tb_dec, tb_dec, tb_dec, tb_dec]
  simp only [Nat.reducePow, Nat.div_one]
  have e0 : ((t : Int) % 2) = ((t % 2 : Nat) : Int) := by omega
  have e1 : ((t : Int) / 2 % 2) = ((t / 2 % 2 : Nat) : Int) := by omega
  have e2 : ((t : Int) / 2048 % 2) = ((t / 2048 % 2 : Nat) : Int) := by omega
  have e3 : ((t : Int) / 4096 % 2) = ((t / 4096 % 2 : Nat) : Int) := by omega
  have e4 : ((t : Int) / 131072 % 2) = ((t / 131072 % 2 : Nat) : Int) := by omega
  rw [e0, e1, e2, e3, e4]
  have h0 : t % 2 = 0 ∨ t % 2 = 1 := by omega
  have h1 : t / 2 % 2 = 0 ∨ t / 2 % 2 = 1 := by omega
  have h2 : t / 2048 % 2 = 0 ∨ t / 2048 % 2 = 1 := by omega
  have h3 : t / 4096 % 2 = 0 ∨ t / 4096 % 2 = 1 := by omega
  have h4 : t / 131072 % 2 = 0 ∨ t / 131072 % 2 = 1 := by omega
  rcases h0 with h0 | h0 <;> rcases h1 with h1 | h1 <;> rcases h2 with h2 | h2 <;> rcases h3 with h3 | h3 <;> rcases h4 with h4 | h4 <;> rw [h0, h1, h2, h3, h4] <;> rfl
theorem step_link {s : Int} (h0 : 1 ≤ s) (h1 : s < 262144) : nstep s = (stX s.toNat : Nat) := by
  obtain ⟨t, rfl⟩ := Int.eq_ofNat_of_zero_le (show 0 ≤ s by omega)
  unfold nstep stX
  rw [nst_id h0 h1, par_link, Int.toNat_natCast]
  cases parB t
  · simp only [cond_false, Nat.xor_zero]; omega
  · simp only [cond_true]
    have := xor_top (b := t / 2) (j := 17) (by omega)
    rw [show (2 : Nat) ^ 17 = 131072 from rfl] at this
    rw [this]; omega
/-- so many steps on -/
def jumpI (s n : Int) : Int := (itX n.toNat (nst s).toNat : Nat)
theorem itI_link (n : Nat) {s : Int} (h0 : 1 ≤ s) (h1 : s < 262144) : itI n s = (itX n s.toNat : Nat) ∧ 1 ≤ itI n s ∧ itI n s < 262144 := by
  induction n with
  | zero => exact ⟨by simp only [itI, itX]; omega, h0, h1⟩
  | succ n ih =>
    obtain ⟨a, b, c⟩ := ih
    have := nstep_in (itI n s)
    refine ⟨?_, this⟩
    show nstep (itI n s) = _
    rw [step_link b c, a, Int.toNat_natCast]; rfl
theorem jump_link (s n : Int) : jumpR s n = jumpI s n ∧ 1 ≤ jumpI s n ∧ jumpI s n < 262144 := by
  have h := nst_in s
  obtain ⟨a, b, c⟩ := itI_link n.toNat h.1 h.2
  unfold jumpR jumpI
  rw [← a]; exact ⟨rfl, b, c⟩
/-! ### the steps' table -/
def Good (M : Nat → Int) (m : Nat) : Prop := ∀ j, j < 18 → M j = (itX m (2 ^ j) : Nat)
theorem out_good {M : Nat → Int} {m s : Nat} (h : Good M m) (hs : s < 262144) : ∀ j, j ≤ 18 → outI M s j = (itX m (s % 2 ^ j) : Nat) := by
  intro j
  induction j with
  | zero => intro _; simp only [outI, Nat.pow_zero, Nat.mod_one]; rw [itX_zero]; rfl
  | succ j ih =>
    intro hj
    have ih := ih (by omega)
    simp only [outI]
    have hpow : 2 ^ j ≤ 2 ^ 17 := Nat.pow_le_pow_right (by decide) (by omega)
    have hlt : s % 2 ^ j < 2 ^ j := Nat.mod_lt _ (Nat.two_pow_pos j)
    have hmod : s % 2 ^ (j + 1) = s % 2 ^ j + 2 ^ j * (s / 2 ^ j % 2) := Nat.mod_pow_succ
    have hb : ((s : Int) / 2 ^ j % 2) = ((s / 2 ^ j % 2 : Nat) : Int) := by push_cast; rfl
    rw [hb]
    by_cases hbit : s / 2 ^ j % 2 = 1
    · rw [if_pos (by rw [hbit]; rfl), ih, h j (by omega), hmod, hbit, Nat.mul_one, ← xor_top hlt, itX_xor]
      have l1 := itX_lt m (t := s % 2 ^ j) (by omega)
      have l2 := itX_lt m (t := 2 ^ j) (by omega)
      rw [xor_nat (by omega) (by omega) (by omega) (by omega), Int.toNat_natCast, Int.toNat_natCast]
    · rw [if_neg (by omega), ih, hmod, show s / 2 ^ j % 2 = 0 by omega, Nat.mul_zero, Nat.add_zero]
theorem of_good {M : Nat → Int} {m s : Nat} (h : Good M m) (hs : s < 262144) : ofI M s = (itX m s : Nat) := by
  unfold ofI
  rw [out_good h hs 18 (Nat.le_refl _), Nat.mod_eq_of_lt (by omega)]
def nextM (M : Nat → Int) : Nat → Int := fun j => upd M 0 18 (fun j => twF (fun j => M (0 + j)) j) j
theorem good_next {M : Nat → Int} {m : Nat} (h : Good M m) : Good (nextM M) (m + m) := by
  intro j hj
  have e : (fun j => M (0 + j)) = M := funext fun j => by rw [Nat.zero_add]
  have hpow : 2 ^ j ≤ 2 ^ 17 := Nat.pow_le_pow_right (by decide) (by omega)
  have l := itX_lt m (t := 2 ^ j) (by omega)
  unfold nextM upd
  rw [e, show (Nat.ble 0 j && Nat.ble (j + 1) (0 + 18)) = true by simp; omega, cond_true, Nat.sub_zero]
  show twF M j = _
  rw [twF_eq _ _ hj, h j hj, of_good h l, itX_add]
def M0 : Nat → Int := fun j => upd1 (fun j => upd1 (fun j => upd1 (fun j => upd1 (fun j => upd1 (fun j => upd1 (fun j => upd1 (fun j => upd1 (fun j => upd1 (fun j => upd1 (fun j => upd1 (fun j => upd1 (fun j => upd1 (fun j => upd1 (fun j => upd1 (fun j => upd1 (fun j => upd1 (fun j => upd1 (fun j => 0) 0 131072 j) 1 131073 j) 2 2 j) 3 4 j) 4 8 j) 5 16 j) 6 32 j) 7 64 j) 8 128 j) 9 256 j) 10 512 j) 11 132096 j) 12 133120 j) 13 4096 j) 14 8192 j) 15 16384 j) 16 32768 j) 17 196608 j
theorem good_0 : Good M0 1 := by
  intro j h
  have hj : j = 0 ∨ j = 1 ∨ j = 2 ∨ j = 3 ∨ j = 4 ∨ j = 5 ∨ j = 6 ∨ j = 7 ∨ j = 8 ∨ j = 9 ∨ j = 10 ∨ j = 11 ∨ j = 12 ∨ j = 13 ∨ j = 14 ∨ j = 15 ∨ j = 16 ∨ j = 17 := by omega
  rcases hj with rfl | rfl | rfl | rfl | rfl | rfl | rfl | rfl | rfl | rfl | rfl | rfl | rfl | rfl | rfl | rfl | rfl | rfl <;> decide +kernel
def Mk : Nat → Nat → Int
  | 0 => M0
  | k + 1 => nextM (Mk k)
theorem good_k (k : Nat) : Good (Mk k) (2 ^ k) := by
  induction k with
  | zero => exact good_0
  | succ k ih => rw [show 2 ^ (k + 1) = 2 ^ k + 2 ^ k by rw [Nat.pow_succ]; omega]; exact good_next ih
/-! ### the jump -/
theorem jp_block : sub [1, 1, 1, 1, 0, 1] (bodyOf Try.prog 47) = .block 2 (.loop (sub [1, 1, 1, 1, 0, 1, 0, 0] (bodyOf Try.prog 47))) := by kernel_rfl
theorem turns (m : Nat) (hm : m < 9223372036854775808) : ∃ N, N ≤ 63 ∧ m % 2 ^ N = m ∧ (∀ j, j < N → 2 ^ j ≤ m) ∧ m < 2 ^ N := by
  by_cases h : m = 0
  · subst h; exact ⟨0, by omega, rfl, fun j hj => by omega, by decide⟩
  · have h1 := Nat.log2_self_le h
    have h2 : m < 2 ^ (m.log2 + 1) := Nat.lt_log2_self
    refine ⟨m.log2 + 1, ?_, Nat.mod_eq_of_lt h2, fun j hj => Nat.le_trans (Nat.pow_le_pow_right (by decide) (by omega)) h1, h2⟩
    have := (Nat.log2_lt h).2 (show m < 2 ^ 63 from hm)
    omega
theorem jp_calls {s n : Int} (hn : n < 9223372036854775808) (B : Base) (ρ : Rho) (w : World) (hr : Rel B ρ [] w) : Calls Try.prog 47 (reals ρ [.int .i64 s, .int .i64 n]).toArray w fun e w' => ∃ x, e = .returned x ∧ After B ρ [] (fun v _ => some v) (.int .i64 (jumpI s n)) x w' := by
  obtain ⟨N, hN63, hmod, hle, hlt⟩ := turns n.toNat (by omega)
  have hs := nst_in s
  obtain ⟨t, ht⟩ := Int.eq_ofNat_of_zero_le (show 0 ≤ nst s by omega)
  have ht' : t < 262144 := by omega
  have hfin : jumpI s n = (itX (n.toNat % 2 ^ N) t : Nat) := by unfold jumpI; rw [ht, Int.toNat_natCast, hmod]
  refine loop_call hN hM (by kernel_rfl) [1, 1, 1, 1, 0, 1] (jpTo_ev s n) (fun B ρ0 a w hs => ?_) (fun rest => jpFrom_ev (Mk N) (jumpI s n) n (N : Nat) rest) hr rfl
  rw [show ntOf Try.prog 47 [.int .i64 s, .int .i64 n] = 44 by kernel_rfl] at hs ⊢
  rw [jp_block]
  refine loop_unit (Γ := [sOf, sTwice]) (n := 100) (H := []) (live := [0, 1, 5, 25]) hN hM N (fun j => [.int .i64 (itX (n.toNat % 2 ^ j) t : Nat), .int .i64 n, .ptr 0 0, .int .i64 (j : Nat)]) (fun j => [Blk.ints 81 .i64 18 (Mk j)]) (fun j hj rest => ?_) (fun rest => ?_) (by
    rw [Nat.pow_zero, Nat.mod_one, show itX 0 t = t from rfl, ← ht]; exact hs)
  · refine (jpBody_ev (Mk j) (itX (n.toNat % 2 ^ j) t : Nat) n j rest).trans ?_
    have hpow : 2 ^ j ≤ 2 ^ 62 := Nat.pow_le_pow_right (by decide) (by omega)
    have hpi : (2 : Int) ^ j = ((2 ^ j : Nat) : Int) := by push_cast; rfl
    have hpp := Nat.two_pow_pos j
    have hle' := hle j hj
    have e1 : (fun i => Mk j (0 + i)) = Mk j := funext fun i => by rw [Nat.zero_add]
    have hx := itX_lt (n.toNat % 2 ^ j) ht'
    rw [decide_eq_true (show (j : Int) < 63 by omega), cond_true, decide_eq_true (show (0 : Int) ≤ j by omega), cond_true, cond_true, Int.toNat_natCast, Nat.min_eq_left (show j ≤ 64 by omega), Int.one_mul, hpi, wrap_id (n := ((2 ^ j : Nat) : Int)) (by omega) (by omega), decide_eq_false (show ¬ n < ((2 ^ j : Nat) : Int) by omega), cond_false, fdiv_pos n (show (0 : Int) ≤ ((2 ^ j : Nat) : Int) by omega), and_0b, wrap_id (n := (j : Int) + 1) (by omega) (by omega)]
    have hb : n / ((2 ^ j : Nat) : Int) % 2 = ((n.toNat / 2 ^ j % 2 : Nat) : Int) := by
      obtain ⟨k, hk⟩ := Int.eq_ofNat_of_zero_le (show 0 ≤ n by omega)
      rw [hk, Int.toNat_natCast]; push_cast; rfl
    have hms : n.toNat % 2 ^ (j + 1) = n.toNat % 2 ^ j + 2 ^ j * (n.toNat / 2 ^ j % 2) := Nat.mod_pow_succ
    rw [hb]
    by_cases hbit : n.toNat / 2 ^ j % 2 = 1
    · rw [hbit, show (((1 : Nat) : Int) == 1) = true from rfl, cond_true]
      have e2 : ofI (fun i => Mk j (0 + i)) ((itX (n.toNat % 2 ^ j) t : Nat) : Int) = ((itX (n.toNat % 2 ^ (j + 1)) t : Nat) : Int) := by
        rw [e1, of_good (good_k j) hx, hms, hbit, Nat.mul_one, ← itX_add, Nat.add_comm]
      rw [e2]; rfl
    · rw [show n.toNat / 2 ^ j % 2 = 0 by omega, show (((0 : Nat) : Int) == 1) = false from rfl, cond_false]
      have e2 : n.toNat % 2 ^ (j + 1) = n.toNat % 2 ^ j := by rw [hms, show n.toNat / 2 ^ j % 2 = 0 by omega, Nat.mul_zero, Nat.add_zero]
      simp only [e2]; rfl
  · refine (jpBody_ev (Mk N) (itX (n.toNat % 2 ^ N) t : Nat) n N rest).trans ?_
    rw [← hfin]
    by_cases h : N = 63
    · subst h; rfl
    · have hpow : 2 ^ N ≤ 2 ^ 62 := Nat.pow_le_pow_right (by decide) (by omega)
      have hpi : (2 : Int) ^ N = ((2 ^ N : Nat) : Int) := by push_cast; rfl
      have hpp := Nat.two_pow_pos N
      rw [decide_eq_true (show (N : Int) < 63 by omega), cond_true, decide_eq_true (show (0 : Int) ≤ N by omega), cond_true, Int.toNat_natCast, Nat.min_eq_left (show N ≤ 64 by omega), Int.one_mul, hpi, wrap_id (n := ((2 ^ N : Nat) : Int)) (by omega) (by omega), decide_eq_true (show n < ((2 ^ N : Nat) : Int) by omega), cond_true]
      rfl
def sJump : Summ Try.prog := mkPureC 47 (fun args => match args with | [.int .i64 s, .int .i64 n] => some (decide (n < 9223372036854775808), .int .i64 (jumpI s n)) | _ => none) (by
  intro args v h; split at h
  · simp only [Option.some.injEq, Prod.mk.injEq, decide_eq_true_eq] at h; obtain ⟨hc, rfl⟩ := h; exact ⟨rfl, rfl, jp_calls hc⟩
  · cases h)
end Go.Proofs.Ytkhlghlmmnemeaa.Nz

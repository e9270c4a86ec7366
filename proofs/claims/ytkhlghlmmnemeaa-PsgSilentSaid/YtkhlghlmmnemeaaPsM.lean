import Derived.Test.YtkhlghlmmnemeaaPsL
set_option linter.unusedVariables false
set_option linter.unusedSimpArgs false
namespace Go.Proofs.Ytkhlghlmmnemeaa
open Go Go.R
/-! ### a write, plainly -/
def wrC (f : Nat → Int) (o : Nat) (at_ B : Int) (nz : Bool) : Nat → Int :=
  if at_ = 2 then upd1 f o (f o / 256 * 256 + B) else if at_ = 3 then upd1 f o (f o % 256 + B % 16 * 256)
  else if at_ = 4 then (if B / 64 = 1 then upd1 (upd1 f (o + 1) B) (o + 36) 0 else upd1 f (o + 1) B)
  else if at_ = 5 then upd1 f (o + 2) B
  else if at_ = 6 then (if f (o + 1) / 64 % 2 = 1 then upd1 f (o + 39) (B % 32) else upd1 (upd1 f (o + 4 + (f (o + 36)).toNat) (B % 32)) (o + 36) ((f (o + 36) + 1) % 32))
  else if at_ = 7 then (if nz = true then upd1 f (o + 3) B else f) else f
def wrG (f : Nat → Int) (at_ B : Int) : Nat → Int :=
  if at_ = 0 then upd1 f 0 (B % 8) else if at_ = 1 then upd1 f 1 B else if at_ = 8 then upd1 f 2 B else if at_ = 9 then upd1 f 3 B
  else if f 0 < 6 then wrC f (4 + (f 0).toNat * 40) at_ B (decide (f 0 ≥ 4)) else f
def wrF (f : Nat → Int) (at_ b : Int) : Nat → Int := cut (if okP f = true then wrG f at_ (b % 256) else f)
theorem ok_shift (f : Nat → Int) : (okP fun j => f (0 + j)) = okP f := by rw [show (fun j => f (0 + j)) = f from funext fun j => by rw [Nat.zero_add]]
theorem ok_in {f : Nat → Int} (h : okP f = true) {j : Nat} {m : Int} (hj : (j, m) ∈ codesP) (hm : (m == -1) = false) : 0 ≤ f j ∧ f j ≤ m := by
  have h1 := List.all_eq_true.1 h (j, m) hj
  unfold chk at h1
  rw [if_neg (by simpa using hm)] at h1
  unfold inB at h1
  simp only [Bool.and_eq_true, Bool.not_eq_true', decide_eq_false_iff_not] at h1
  omega
theorem mem_ch : ∀ k : Fin 6, (4 + k.val * 40, (4095 : Int)) ∈ codesP ∧ (4 + k.val * 40 + 1, (255 : Int)) ∈ codesP ∧ (4 + k.val * 40 + 36, (31 : Int)) ∈ codesP := by decide +kernel
/-- which channel, and where it lies -/
theorem sel_cases {f : Nat → Int} (h : okP f = true) : (f 0 < 6 ∧ ∃ k : Nat, k < 6 ∧ f 0 = k ∧ scaled (f 0) 40 = k * 40 ∧ (f 0).toNat = k) ∨ ¬ f 0 < 6 := by
  by_cases h6 : f 0 < 6
  · left
    have h0 := ok_in h (j := 0) (m := 7) (by decide) rfl
    obtain ⟨k, hk⟩ := Int.eq_ofNat_of_zero_le h0.1
    refine ⟨h6, k, by omega, hk, ?_, by rw [hk]; simp⟩
    rw [scaled_eq, hk]; simp
  · exact .inr h6
theorem ch_bounds {f : Nat → Int} (h : okP f = true) {k : Nat} (hk : k < 6) : (0 ≤ f (4 + k * 40) ∧ f (4 + k * 40) ≤ 4095) ∧ (0 ≤ f (4 + k * 40 + 1) ∧ f (4 + k * 40 + 1) ≤ 255) ∧ (0 ≤ f (4 + k * 40 + 36) ∧ f (4 + k * 40 + 36) ≤ 31) := by
  obtain ⟨a, b, c⟩ := mem_ch ⟨k, hk⟩
  exact ⟨ok_in h a rfl, ok_in h b rfl, ok_in h c rfl⟩
def allN (f : Nat → Bool) (n : Nat) : Bool := Nat.rec true (fun n ih => f n && ih) n
theorem allN_spec {f : Nat → Bool} {n : Nat} (h : allN f n = true) : ∀ k, k < n → f k = true := by
  induction n with
  | zero => intro k hk; omega
  | succ n ih =>
    have h' : (f n && allN f n) = true := h
    simp only [Bool.and_eq_true] at h'
    intro k hk
    by_cases e : k = n
    · subst e; exact h'.1
    · exact ih h'.2 k (by omega)
theorem or_low {q B : Nat} (h : B < 256) : (256 * q) ||| B = 256 * q + B := (Nat.two_pow_add_eq_or_of_lt (i := 8) (b := B) h q).symm
theorem freq_lo {x B : Int} (h0 : 0 ≤ x) (h1 : x ≤ 4095) (b0 : 0 ≤ B) (b1 : B < 256) : bitI .or .i64 (bitI .andNot .i64 x 255) B = x / 256 * 256 + B := by
  have a1 : ∀ k, k < 4096 → Nat.beq (k ^^^ (k &&& 255)) (256 * (k / 256)) = true := allN_spec (by decide +kernel)
  have e := Nat.eq_of_beq_eq_true (a1 x.toNat (by omega))
  rw [andNot_nat (by omega) (by omega) (by omega) (by omega), show Int.toNat 255 = 255 from rfl, e]
  rw [or_nat (by omega) (by omega) (by omega) (by omega), Int.toNat_natCast, or_low (by omega)]
  omega
theorem freq_hi {x B : Int} (b0 : 0 ≤ B) (b1 : B < 256) : bitI .or .i64 (bitI .and .i64 x 255) (wr .i64 (bitI .and .i64 B 15 * 256)) = x % 256 + B % 16 * 256 := by
  rw [and_m8, and_m4, wrap_id (by omega) (by omega)]
  rw [or_nat (by omega) (by omega) (by omega) (by omega), Nat.or_comm, show (B % 16 * 256).toNat = 256 * (B % 16).toNat by omega, or_low (by omega)]
  omega
theorem dda_on {B : Int} (b0 : 0 ≤ B) (b1 : B < 256) : (bitI .and .i64 B 192 == 64) = decide (B / 64 = 1) := by
  have a1 : ∀ k, k < 256 → Nat.beq (k &&& 192) (k / 64 * 64) = true := allN_spec (by decide +kernel)
  have e := Nat.eq_of_beq_eq_true (a1 B.toNat (by omega))
  rw [and_nat (by omega) (by omega) (by omega) (by omega), show Int.toNat 192 = 192 from rfl, e, Bool.eq_iff_iff]
  simp only [beq_iff_eq, decide_eq_true_eq]; omega
theorem cut_intro (X : Nat → Int) : (fun j => upd (fun j => 0) 0 244 (fun j => X (0 + j)) (0 + j)) = cut X := rfl
theorem upd1_self (f : Nat → Int) (o : Nat) (x : Int) {j : Nat} (h : j ≠ o) : upd1 f o x j = f j := by
  unfold upd1
  rw [show Nat.beq o j = false by
    cases hb : Nat.beq o j with
    | false => rfl
    | true => exact absurd (Nat.eq_of_beq_eq_true hb).symm h, cond_false]
theorem upd1_at (f : Nat → Int) (o : Nat) (x : Int) : upd1 f o x o = x := by unfold upd1; simp
/-- a channel that is taken out, turned, and laid back -/
theorem upd_back {f h G : Nat → Int} {o : Nat} (h1 : ∀ j, j < 40 → G j = h (o + j)) (h2 : ∀ i, ¬ (o ≤ i ∧ i < o + 40) → h i = f i) : upd f o 40 (fun j => G (0 + j)) = h := by
  funext i
  unfold upd
  by_cases hi : o ≤ i ∧ i < o + 40
  · rw [show (Nat.ble o i && Nat.ble (i + 1) (o + 40)) = true by simp; omega, cond_true]
    show G (0 + (i - o)) = h i
    rw [Nat.zero_add, h1 _ (by omega), show o + (i - o) = i by omega]
  · rw [show (Nat.ble o i && Nat.ble (i + 1) (o + 40)) = false by
      cases hb : (Nat.ble o i && Nat.ble (i + 1) (o + 40)) with
      | false => rfl
      | true => simp at hb; omega, cond_false, h2 i hi]
def own40 (f : Nat → Int) (o : Nat) : Nat → Int := fun j => upd (fun j => 0) 0 40 (fun j => f (o + j)) j
theorem own40_in (f : Nat → Int) (o : Nat) {j : Nat} (h : j < 40) : own40 f o j = f (o + j) := by
  unfold own40 upd
  rw [show (Nat.ble 0 j && Nat.ble (j + 1) (0 + 40)) = true by simp; omega, cond_true, Nat.sub_zero]
theorem back1 (f : Nat → Int) (o k : Nat) (x : Int) (hk : k < 40) : upd f o 40 (fun j => upd1 (own40 f o) k x (0 + j)) = upd1 f (o + k) x := by
  refine upd_back (G := upd1 (own40 f o) k x) (fun j hj => ?_) (fun i hi => upd1_self _ _ _ (by omega))
  by_cases e : j = k
  · subst e; rw [upd1_at, upd1_at]
  · rw [upd1_self _ _ _ e, upd1_self _ _ _ (by omega), own40_in f o hj]
theorem back2 (f : Nat → Int) (o k l : Nat) (x y : Int) (hk : k < 40) (hl : l < 40) : upd f o 40 (fun j => upd1 (fun j => upd1 (own40 f o) k x j) l y (0 + j)) = upd1 (upd1 f (o + k) x) (o + l) y := by
  refine upd_back (G := upd1 (fun j => upd1 (own40 f o) k x j) l y) (fun j hj => ?_) (fun i hi => by rw [upd1_self _ _ _ (by omega), upd1_self _ _ _ (by omega)])
  by_cases e : j = l
  · subst e; rw [upd1_at, upd1_at]
  · have e1 : upd1 (fun j => upd1 (own40 f o) k x j) l y j = upd1 (own40 f o) k x j := upd1_self _ _ _ e
    have e3 : upd1 (upd1 f (o + k) x) (o + l) y (o + j) = upd1 f (o + k) x (o + j) := upd1_self _ _ _ (by omega)
    rw [e1, e3]
    by_cases e2 : j = k
    · subst e2; rw [upd1_at, upd1_at]
    · rw [upd1_self _ _ _ e2, upd1_self _ _ _ (by omega), own40_in f o hj]
theorem back0 (f : Nat → Int) (o : Nat) : upd f o 40 (fun j => own40 f o (0 + j)) = f :=
  upd_back (fun j hj => own40_in f o hj) (fun i _ => rfl)
end Go.Proofs.Ytkhlghlmmnemeaa

import Derived.Test.YtkhlghlmmnemeaaPqC
import Derived.Test.YtkhlghlmmnemeaaPsS
set_option linter.unusedVariables false
set_option linter.unusedSimpArgs false
namespace Go.Proofs.Ytkhlghlmmnemeaa
open Go Go.R
/-! ### what bounds a sound that may be -/
def mostC : List Int := [4095, 255, 255, 255] ++ List.replicate 32 31 ++ [31, 16777215, 262143, 31]
theorem mem_all : ∀ k : Fin 6, ∀ i : Fin 40, (4 + k.val * 40 + i.val, mostC.getD i.val 0) ∈ codesP ∧ (mostC.getD i.val 0 == -1) = false := by decide +kernel
theorem ok_cell {f : Nat → Int} (h : okP f = true) {k : Nat} (hk : k < 6) {i : Nat} (hi : i < 40) : 0 ≤ f (4 + k * 40 + i) ∧ f (4 + k * 40 + i) ≤ mostC.getD i 0 :=
  ok_in h (mem_all ⟨k, hk⟩ ⟨i, hi⟩).1 (mem_all ⟨k, hk⟩ ⟨i, hi⟩).2
theorem mem_nz : ∀ k : Fin 6, (4 + k.val * 40 + 38, (-1 : Int)) ∈ codesP := by decide +kernel
theorem ok_rand {f : Nat → Int} (h : okP f = true) {k : Nat} (hk : k < 6) : 1 ≤ f (4 + k * 40 + 38) ∧ f (4 + k * 40 + 38) < 262144 := by
  have h1 := ok_cell h hk (i := 38) (by decide)
  rw [show mostC.getD 38 0 = 262143 from rfl] at h1
  have h2 := List.all_eq_true.1 h _ (mem_nz ⟨k, hk⟩)
  unfold chk at h2
  simp only [if_true, Bool.not_eq_true', beq_eq_false_iff_ne] at h2
  omega
theorem ok_wave {f : Nat → Int} (h : okP f = true) {k : Nat} (hk : k < 6) {v : Nat} (hv : v < 32) : 0 ≤ f (4 + k * 40 + 4 + v) ∧ f (4 + k * 40 + 4 + v) ≤ 31 := by
  have h1 := ok_cell h hk (i := 4 + v) (by omega)
  have e : ∀ v : Fin 32, mostC.getD (4 + v.val) 0 = 31 := by decide +kernel
  rw [show mostC.getD (4 + v) 0 = 31 from e ⟨v, hv⟩, ← Nat.add_assoc] at h1
  exact h1
theorem ok_head {f : Nat → Int} (h : okP f = true) : (0 ≤ f 0 ∧ f 0 ≤ 7) ∧ (0 ≤ f 1 ∧ f 1 ≤ 255) ∧ (0 ≤ f 2 ∧ f 2 ≤ 255) ∧ (0 ≤ f 3 ∧ f 3 ≤ 255) :=
  ⟨ok_in h (by decide +kernel) rfl, ok_in h (by decide +kernel) rfl, ok_in h (by decide +kernel) rfl, ok_in h (by decide +kernel) rfl⟩
section
variable {f : Nat → Int} (h : okP f = true) {k : Nat} (hk : k < 6)
include h hk
theorem ok_freq : 0 ≤ f (4 + k * 40) ∧ f (4 + k * 40) ≤ 4095 := ok_cell h hk (i := 0) (by decide)
theorem ok_ctl : 0 ≤ f (4 + k * 40 + 1) ∧ f (4 + k * 40 + 1) ≤ 255 := ok_cell h hk (i := 1) (by decide)
theorem ok_bal : 0 ≤ f (4 + k * 40 + 2) ∧ f (4 + k * 40 + 2) ≤ 255 := ok_cell h hk (i := 2) (by decide)
theorem ok_noi : 0 ≤ f (4 + k * 40 + 3) ∧ f (4 + k * 40 + 3) ≤ 255 := ok_cell h hk (i := 3) (by decide)
theorem ok_idx : 0 ≤ f (4 + k * 40 + 36) ∧ f (4 + k * 40 + 36) ≤ 31 := ok_cell h hk (i := 36) (by decide)
theorem ok_acc : 0 ≤ f (4 + k * 40 + 37) ∧ f (4 + k * 40 + 37) ≤ 16777215 := ok_cell h hk (i := 37) (by decide)
theorem ok_dda : 0 ≤ f (4 + k * 40 + 39) ∧ f (4 + k * 40 + 39) ≤ 31 := ok_cell h hk (i := 39) (by decide)
end
/-! ### a voice -/
theorem lfo_in (f : Nat → Int) : lfoF f = 0 ∨ lfoF f = 1 ∨ lfoF f = 2 ∨ lfoF f = 3 := by unfold lfoF; split <;> omega
def lp (m : Int) : Int := if m = 1 then 1 else if m = 2 then 4 else 16
def nzF (f : Nat → Int) (k : Nat) : Bool := decide (4 ≤ k) && bt 128 (f (4 + k * 40 + 3))
def frF (f : Nat → Int) (k : Nat) : Int := if k = 0 ∧ 0 < lfoF f then (f 4 + (f (48 + (f 80).toNat) - 16) * lp (lfoF f)) % 4096 else f (4 + k * 40)
def timF (f : Nat → Int) (k : Nat) : Int := if k = 1 ∧ 0 < lfoF f then (if f 2 = 0 then 256 else f 2) else 1
def tkF (f : Nat → Int) (k : Nat) : Int := if nzF f k = true then 6 * Nz.per (f (4 + k * 40 + 3)) else 6 * timF f k * (if frF f k = 0 then 4096 else frF f k)
theorem per_in (b : Int) : 64 ≤ Nz.per b ∧ Nz.per b ≤ 3968 := by unfold Nz.per; split <;> omega
theorem fr_in {f : Nat → Int} (h : okP f = true) {k : Nat} (hk : k < 6) : 0 ≤ frF f k ∧ frF f k ≤ 4095 := by
  unfold frF; split
  · omega
  · exact ok_freq h hk
theorem tim_in {f : Nat → Int} (h : okP f = true) (k : Nat) : 1 ≤ timF f k ∧ timF f k ≤ 256 := by
  have := (ok_head h).2.2.1
  unfold timF; split
  · split <;> omega
  · omega
theorem tk_in {f : Nat → Int} (h : okP f = true) {k : Nat} (hk : k < 6) : 6 ≤ tkF f k ∧ tkF f k ≤ 6291456 := by
  have h1 := fr_in h hk
  have h2 := tim_in h k
  have h3 := per_in (f (4 + k * 40 + 3))
  unfold tkF
  split
  · omega
  · have : ∀ a b : Int, 1 ≤ a → a ≤ 256 → 1 ≤ b → b ≤ 4096 → 6 ≤ 6 * a * b ∧ 6 * a * b ≤ 6291456 := by
      intro a b a0 a1 b0 b1
      have e1 : 6 * a * 1 ≤ 6 * a * b := Int.mul_le_mul_of_nonneg_left b0 (by omega)
      have e2 : 6 * a * b ≤ 6 * a * 4096 := Int.mul_le_mul_of_nonneg_left b1 (by omega)
      omega
    split
    · exact this _ _ h2.1 h2.2 (by omega) (by omega)
    · exact this _ _ h2.1 h2.2 (by omega) (by omega)
theorem leaf {x y : Int} {o : Nat} {b : Bool} {σ : List Blk} (hx : x = y) : some (V.agg [.int .i64 x, .ptr 0 o, .bool b], σ) = some (V.agg [.int .i64 y, .ptr 0 o, .bool b], σ) := by rw [hx]
theorem pick0 {x : Int} {o : Nat} {b : Bool} {σ : List Blk} (h0 : 0 ≤ x) (h1 : x ≤ 4095) : cond (x == 0) (some (V.agg [V.int Go.IntKind.i64 24576, V.ptr 0 o, V.bool b], σ)) (some (V.agg [V.int Go.IntKind.i64 (wr Go.IntKind.i64 (6 * x)), V.ptr 0 o, V.bool b], σ)) =
    some (V.agg [.int .i64 (6 * 1 * (if x = 0 then 4096 else x)), .ptr 0 o, .bool b], σ) := by
  by_cases e : x = 0
  · rw [if_pos e, e]; rfl
  · rw [if_neg e, beq_eq_false_iff_ne.2 e, cond_false, wrap_id (by omega) (by omega)]; exact leaf (by omega)
theorem same3 {α : Type} (c : Bool) {x y z : α} (h1 : x = z) (h2 : y = z) : cond c x y = z := by cases c <;> assumption
section
variable {f : Nat → Int} (h : okP f = true)
include h
theorem voice0_eq : evCall Try.prog [Nz.sPeriod, sLfo] 300 38 [.ptr 0 0, .int .i64 0] [.ints 32 .i64 244 f] (fun v σ => some (v, σ.take 1)) = some (.agg [.int .i64 (tkF f 0), .ptr 0 4, .bool (nzF f 0)], [.ints 32 .i64 244 f]) := by
  rw [voice0_ev]
  have hf := ok_freq h (k := 0) (by decide)
  have hi := ok_idx h (k := 1) (by decide)
  simp only [Nat.zero_mul, Nat.add_zero, Nat.one_mul, Nat.reduceAdd] at hf hi
  obtain ⟨v, hv⟩ := Int.eq_ofNat_of_zero_le hi.1
  have hw := ok_wave h (k := 1) (by decide) (v := v) (by omega)
  simp only [Nat.one_mul, Nat.reduceAdd] at hw
  have eu : upd (fun j => 0) 0 40 (fun j => f (44 + j)) (4 + v) = f (48 + v) := by
    unfold upd
    rw [show (Nat.ble 0 (4 + v) && Nat.ble (4 + v + 1) (0 + 40)) = true by simp; omega, cond_true, Nat.sub_zero]
    show f (44 + (4 + v)) = _
    rw [← Nat.add_assoc]
  rw [show tkF f 0 = 6 * 1 * (if frF f 0 = 0 then 4096 else frF f 0) from rfl, show nzF f 0 = false from rfl]
  have es : scaled (f 80) 1 = v := by rw [hv, scaled_eq]; simp
  rw [es, eu, show inR (f 80) 32 = true by rw [hv]; simp [inR]; omega, show (4 + v + 1).ble 40 = true by simp; omega, wrap_id (n := f (48 + v) - 16) (by omega) (by omega)]
  have main : ∀ m q : Int, lfoF f = m → 0 < m → lp m = q → 1 ≤ q → q ≤ 16 → (2 : Int) ^ min (wr .i64 (2 * wr .i64 (m - 1))).toNat 64 = q → decide (0 ≤ wr .i64 (2 * wr .i64 (m - 1))) = true →
      cond (decide (m > 0)) (cond true (cond true (cond (decide (0 ≤ wr Go.IntKind.i64 (2 * wr Go.IntKind.i64 (m - 1)))) (cond (bitI BinOp.and Go.IntKind.i64 (wr Go.IntKind.i64 (f 4 + wr Go.IntKind.i64 ((f (48 + v) - 16) * 2 ^ min (wr Go.IntKind.i64 (2 * wr Go.IntKind.i64 (m - 1))).toNat 64))) 4095 == 0) (some (V.agg [V.int Go.IntKind.i64 24576, V.ptr 0 4, V.bool false], [Blk.ints 32 Go.IntKind.i64 244 f])) (some (V.agg [V.int Go.IntKind.i64 (wr Go.IntKind.i64 (6 * bitI BinOp.and Go.IntKind.i64 (wr Go.IntKind.i64 (f 4 + wr Go.IntKind.i64 ((f (48 + v) - 16) * 2 ^ min (wr Go.IntKind.i64 (2 * wr Go.IntKind.i64 (m - 1))).toNat 64))) 4095)), V.ptr 0 4, V.bool false], [Blk.ints 32 Go.IntKind.i64 244 f]))) none) none) none) (cond (decide (m > 0)) (cond (f 4 == 0) (some (V.agg [V.int Go.IntKind.i64 24576, V.ptr 0 4, V.bool false], [Blk.ints 32 Go.IntKind.i64 244 f])) (some (V.agg [V.int Go.IntKind.i64 (wr Go.IntKind.i64 (6 * f 4)), V.ptr 0 4, V.bool false], [Blk.ints 32 Go.IntKind.i64 244 f]))) (cond (f 4 == 0) (some (V.agg [V.int Go.IntKind.i64 24576, V.ptr 0 4, V.bool false], [Blk.ints 32 Go.IntKind.i64 244 f])) (some (V.agg [V.int Go.IntKind.i64 (wr Go.IntKind.i64 (6 * f 4)), V.ptr 0 4, V.bool false], [Blk.ints 32 Go.IntKind.i64 244 f])))) =
      some (V.agg [V.int IntKind.i64 (6 * 1 * if frF f 0 = 0 then 4096 else frF f 0), V.ptr 0 4, V.bool false], [Blk.ints 32 IntKind.i64 244 f]) := by
    intro m q hm h0 hl q0 q1 hp hd
    have hb : -256 ≤ (f (48 + v) - 16) * q ∧ (f (48 + v) - 16) * q ≤ 256 := by
      have a1 : (f (48 + v) - 16) * q ≤ 15 * q := Int.mul_le_mul_of_nonneg_right (by omega) (by omega)
      have a2 : -16 * q ≤ (f (48 + v) - 16) * q := Int.mul_le_mul_of_nonneg_right (by omega) (by omega)
      omega
    have ef : frF f 0 = (f 4 + (f (48 + v) - 16) * q) % 4096 := by
      unfold frF
      rw [if_pos ⟨rfl, by omega⟩, hm, hl, hv, Int.toNat_natCast]
    rw [decide_eq_true (show m > 0 from h0), hd, hp, wrap_id (n := (f (48 + v) - 16) * q) (by omega) (by omega), wrap_id (n := f 4 + (f (48 + v) - 16) * q) (by omega) (by omega), and_m12, ← ef]
    exact pick0 (fr_in h (by decide)).1 (fr_in h (by decide)).2
  rcases lfo_in f with e | e | e | e
  · rw [e]
    have ef : frF f 0 = f 4 := by unfold frF; rw [if_neg (by omega)]
    rw [ef]
    exact pick0 hf.1 hf.2
  · rw [e]; exact main 1 1 e (by decide) rfl (by decide) (by decide) (by decide +kernel) (by decide +kernel)
  · rw [e]; exact main 2 4 e (by decide) rfl (by decide) (by decide) (by decide +kernel) (by decide +kernel)
  · rw [e]; exact main 3 16 e (by decide) rfl (by decide) (by decide) (by decide +kernel) (by decide +kernel)
theorem voice1_eq : evCall Try.prog [Nz.sPeriod, sLfo] 300 38 [.ptr 0 0, .int .i64 1] [.ints 32 .i64 244 f] (fun v σ => some (v, σ.take 1)) = some (.agg [.int .i64 (tkF f 1), .ptr 0 44, .bool (nzF f 1)], [.ints 32 .i64 244 f]) := by
  rw [voice1_ev]
  have hf := ok_freq h (k := 1) (by decide)
  simp only [Nat.one_mul, Nat.reduceAdd] at hf
  have h2 := (ok_head h).2.2.1
  rw [show tkF f 1 = 6 * timF f 1 * (if frF f 1 = 0 then 4096 else frF f 1) from rfl, show nzF f 1 = false from rfl, show frF f 1 = f 44 from rfl]
  by_cases hl : lfoF f > 0
  · have et : timF f 1 = if f 2 = 0 then 256 else f 2 := by unfold timF; rw [if_pos ⟨rfl, hl⟩]
    rw [decide_eq_true hl, et]
    by_cases e2 : f 2 = 0
    · rw [if_pos e2, e2]
      by_cases e : f 44 = 0
      · rw [if_pos e, e]; rfl
      · rw [if_neg e, beq_eq_false_iff_ne.2 e, wrap_id (by omega) (by omega)]; exact leaf (by omega)
    · rw [if_neg e2, beq_eq_false_iff_ne.2 e2, wrap_id (n := 6 * f 2) (by omega) (by omega)]
      by_cases e : f 44 = 0
      · rw [if_pos e, e, wrap_id (n := 6 * f 2 * 4096) (by omega) (by omega)]; rfl
      · have b1 : 6 * f 2 * f 44 ≤ 6 * f 2 * 4096 := Int.mul_le_mul_of_nonneg_left (by omega) (by omega)
        have b0 : 0 ≤ 6 * f 2 * f 44 := Int.mul_nonneg (by omega) (by omega)
        rw [if_neg e, beq_eq_false_iff_ne.2 e, wrap_id (n := 6 * f 2 * f 44) (by omega) (by omega)]; rfl
  · have et : timF f 1 = 1 := by unfold timF; rw [if_neg (fun hh => hl hh.2)]
    rw [decide_eq_false hl, et]
    exact pick0 hf.1 hf.2
theorem voice2_eq : evCall Try.prog [Nz.sPeriod, sLfo] 300 38 [.ptr 0 0, .int .i64 2] [.ints 32 .i64 244 f] (fun v σ => some (v, σ.take 1)) = some (.agg [.int .i64 (tkF f 2), .ptr 0 84, .bool (nzF f 2)], [.ints 32 .i64 244 f]) := by
  rw [voice2_ev]
  have hf := ok_freq h (k := 2) (by decide)
  exact same3 _ (same3 _ (pick0 hf.1 hf.2) (pick0 hf.1 hf.2)) (same3 _ (pick0 hf.1 hf.2) (pick0 hf.1 hf.2))
theorem voice3_eq : evCall Try.prog [Nz.sPeriod, sLfo] 300 38 [.ptr 0 0, .int .i64 3] [.ints 32 .i64 244 f] (fun v σ => some (v, σ.take 1)) = some (.agg [.int .i64 (tkF f 3), .ptr 0 124, .bool (nzF f 3)], [.ints 32 .i64 244 f]) := by
  rw [voice3_ev]
  have hf := ok_freq h (k := 3) (by decide)
  exact same3 _ (same3 _ (pick0 hf.1 hf.2) (pick0 hf.1 hf.2)) (same3 _ (pick0 hf.1 hf.2) (pick0 hf.1 hf.2))
theorem voice4_eq : evCall Try.prog [Nz.sPeriod, sLfo] 300 38 [.ptr 0 0, .int .i64 4] [.ints 32 .i64 244 f] (fun v σ => some (v, σ.take 1)) = some (.agg [.int .i64 (tkF f 4), .ptr 0 164, .bool (nzF f 4)], [.ints 32 .i64 244 f]) := by
  rw [voice4_ev, (bt128 _).2]
  have hf := ok_freq h (k := 4) (by decide)
  have hp := per_in (f 167)
  rw [show nzF f 4 = bt 128 (f 167) from rfl]
  cases hb : bt 128 (f 167) with
  | true =>
    rw [cond_true, wrap_id (by omega) (by omega)]
    have : tkF f 4 = 6 * Nz.per (f 167) := by unfold tkF; rw [show nzF f 4 = bt 128 (f 167) from rfl, hb, if_pos rfl]
    rw [this]
  | false =>
    have : tkF f 4 = 6 * 1 * (if f 164 = 0 then 4096 else f 164) := by unfold tkF; rw [show nzF f 4 = bt 128 (f 167) from rfl, hb, if_neg (by decide)]; rfl
    rw [cond_false, this]
    exact same3 _ (same3 _ (pick0 hf.1 hf.2) (pick0 hf.1 hf.2)) (same3 _ (pick0 hf.1 hf.2) (pick0 hf.1 hf.2))
theorem voice5_eq : evCall Try.prog [Nz.sPeriod, sLfo] 300 38 [.ptr 0 0, .int .i64 5] [.ints 32 .i64 244 f] (fun v σ => some (v, σ.take 1)) = some (.agg [.int .i64 (tkF f 5), .ptr 0 204, .bool (nzF f 5)], [.ints 32 .i64 244 f]) := by
  rw [voice5_ev, (bt128 _).2]
  have hf := ok_freq h (k := 5) (by decide)
  have hp := per_in (f 207)
  rw [show nzF f 5 = bt 128 (f 207) from rfl]
  cases hb : bt 128 (f 207) with
  | true =>
    rw [cond_true, wrap_id (by omega) (by omega)]
    have : tkF f 5 = 6 * Nz.per (f 207) := by unfold tkF; rw [show nzF f 5 = bt 128 (f 207) from rfl, hb, if_pos rfl]
    rw [this]
  | false =>
    have : tkF f 5 = 6 * 1 * (if f 204 = 0 then 4096 else f 204) := by unfold tkF; rw [show nzF f 5 = bt 128 (f 207) from rfl, hb, if_neg (by decide)]; rfl
    rw [cond_false, this]
    exact same3 _ (same3 _ (pick0 hf.1 hf.2) (pick0 hf.1 hf.2)) (same3 _ (pick0 hf.1 hf.2) (pick0 hf.1 hf.2))
theorem voice_all {k : Nat} (hk : k < 6) : evCall Try.prog [Nz.sPeriod, sLfo] 300 38 [.ptr 0 0, .int .i64 (k : Int)] [.ints 32 .i64 244 f] (fun v σ => some (v, σ.take 1)) = some (.agg [.int .i64 (tkF f k), .ptr 0 (4 + k * 40), .bool (nzF f k)], [.ints 32 .i64 244 f]) := by
  match k, hk with
  | 0, _ => exact voice0_eq h
  | 1, _ => exact voice1_eq h
  | 2, _ => exact voice2_eq h
  | 3, _ => exact voice3_eq h
  | 4, _ => exact voice4_eq h
  | 5, _ => exact voice5_eq h
end
def sVoice : Summ Try.prog := mkLocal 38 (fun args blk => match args, blk with | [.ptr 0 0, .int .i64 k], .ints 32 .i64 244 f => some (okP f && inR k 6, .agg [.int .i64 (tkF f k.toNat), .ptr 0 (4 + k.toNat * 40), .bool (nzF f k.toNat)], .ints 32 .i64 244 f) | _, _ => none) (by
  intro args blk v blk' h; split at h
  · simp only [Option.some.injEq, Prod.mk.injEq, Bool.and_eq_true] at h; obtain ⟨⟨h1, h2⟩, rfl, rfl⟩ := h
    rename_i k f
    have hk : 0 ≤ k ∧ k < 6 := by simpa [inR] using h2
    obtain ⟨j, rfl⟩ := Int.eq_ofNat_of_zero_le hk.1
    exact ⟨rfl, rfl, rfl, rfl, rfl, local_of (Γ := [Nz.sPeriod, sLfo]) (H := []) (n := 300) (g := fun σ => σ.take 1) (fun σ => by cases σ <;> rfl) rfl (voice_all h1 (by omega))⟩
  · cases h)
/-! ### a voice goes on -/
def turnF (f : Nat → Int) (o : Nat) (t : Int) (nz : Bool) : Nat → Int :=
  if f (o + 1) / 64 = 2 then
    (if nz = true then upd1 (upd1 f (o + 37) ((f (o + 37) + 455) % t)) (o + 38) (Nz.jumpI (f (o + 38)) ((f (o + 37) + 455) / t))
     else upd1 (upd1 f (o + 37) ((f (o + 37) + 455) % t)) (o + 36) ((f (o + 36) + (f (o + 37) + 455) / t) % 32))
  else f
theorem wave_on {B : Int} (b0 : 0 ≤ B) (b1 : B ≤ 255) : (bitI .and .i64 B 192 != 128) = !decide (B / 64 = 2) := by
  have a1 : ∀ k, k < 256 → Nat.beq (k &&& 192) (k / 64 * 64) = true := allN_spec (by decide +kernel)
  have e := Nat.eq_of_beq_eq_true (a1 B.toNat (by omega))
  rw [and_nat (by omega) (by omega) (by omega) (by omega), show Int.toNat 192 = 192 from rfl, e, Bool.eq_iff_iff]
  simp only [bne_iff_ne, ne_eq, Bool.not_eq_true', decide_eq_false_iff_not]; omega
theorem turn_eq {f : Nat → Int} {o : Nat} {t : Int} (nz : Bool) (ho : o + 40 ≤ 244) (ht : 0 < t) (c0 : 0 ≤ f (o + 1)) (c1 : f (o + 1) ≤ 255) (i0 : 0 ≤ f (o + 36)) (i1 : f (o + 36) ≤ 31) (a0 : 0 ≤ f (o + 37)) (a1 : f (o + 37) ≤ 16777215) :
    evCall Try.prog [Nz.sJump, sSteps] 300 39 [.agg [.int .i64 t, .ptr 0 o, .bool nz]] [.ints 32 .i64 244 f] (fun v σ => some (v, σ.take 1)) = some (.tup [], [.ints 32 .i64 244 (turnF f o t nz)]) := by
  rw [turn_ev, wave_on c0 c1]
  have hf : ∀ n, n ≤ 244 → n.ble 244 = true := fun n hn => by simpa using hn
  have q0 : 0 ≤ (f (o + 37) + 455) / t := Int.ediv_nonneg (by omega) (by omega)
  have q1 : (f (o + 37) + 455) / t ≤ f (o + 37) + 455 := Int.ediv_le_self _ (by omega)
  rw [hf _ (by omega), hf (o + 37 + 1) (by omega), hf (o + 38 + 1) (by omega), hf (o + 36 + 1) (by omega), wrap_id (n := f (o + 37) + 455) (by omega) (by omega), decide_eq_true ht, decide_eq_true (show 0 ≤ f (o + 37) + 455 by omega), decide_eq_true (show f (o + 37) + 455 < 4611686018427387904 by omega),
    decide_eq_true (show (f (o + 37) + 455) / t < 9223372036854775808 by omega), upd1_self f (o + 37) _ (j := o + 38) (by omega), upd1_self f (o + 37) _ (j := o + 36) (by omega), wrap_id (n := f (o + 36) + (f (o + 37) + 455) / t) (by omega) (by omega), tmod_pos (by omega)]
  unfold turnF
  by_cases e : f (o + 1) / 64 = 2
  · rw [if_pos e, decide_eq_true e]
    cases nz <;> rfl
  · rw [if_neg e, decide_eq_false e]; rfl
def tGood (f : Nat → Int) (o : Nat) (t : Int) : Bool := decide (o + 40 ≤ 244) && (decide (0 < t) && (inB (f (o + 1)) 255 && (inB (f (o + 36)) 31 && inB (f (o + 37)) 16777215)))
theorem inB_iff {n m : Int} : inB n m = true ↔ 0 ≤ n ∧ n ≤ m := by unfold inB; simp
def sTurn : Summ Try.prog := mkLocal 39 (fun args blk => match args, blk with | [.agg [.int .i64 t, .ptr 0 o, .bool nz]], .ints 32 .i64 244 f => some (tGood f o t, .tup [], .ints 32 .i64 244 (turnF f o t nz)) | _, _ => none) (by
  intro args blk v blk' h; split at h
  · simp only [Option.some.injEq, Prod.mk.injEq, tGood, Bool.and_eq_true, decide_eq_true_eq, inB_iff] at h; obtain ⟨⟨h1, h2, h3, h4, h5⟩, rfl, rfl⟩ := h
    exact ⟨rfl, rfl, rfl, rfl, rfl, local_of (Γ := [Nz.sJump, sSteps]) (H := []) (n := 300) (g := fun σ => σ.take 1) (fun σ => by cases σ <;> rfl) rfl (turn_eq _ h1 h2 h3.1 h3.2 h4.1 h4.2 h5.1 h5.2)⟩
  · cases h)
def stepF (f : Nat → Int) (k : Nat) : Nat → Int := turnF f (4 + k * 40) (tkF f k) (nzF f k)
theorem tGood_ok {f : Nat → Int} (h : okP f = true) {k : Nat} (hk : k < 6) : tGood f (4 + k * 40) (tkF f k) = true := by
  simp only [tGood, Bool.and_eq_true, decide_eq_true_eq, inB_iff]
  have := tk_in h hk
  exact ⟨by omega, by omega, ok_ctl h hk, ok_idx h hk, ok_acc h hk⟩
end Go.Proofs.Ytkhlghlmmnemeaa

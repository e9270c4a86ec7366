import Derived.Test.YtkhlghlmmnemeaaPqH
set_option linter.unusedVariables false
set_option linter.unusedSimpArgs false
namespace Go.Proofs.Ytkhlghlmmnemeaa
open Go Go.R
/-! ### a step keeps a sound one that may be -/
theorem ok_updG {f : Nat → Int} (h : okP f = true) {i : Nat} {x : Int} (hb : ∀ m ∈ bnd i, (if m = -1 then !(x == 0) else inB x m) = true) : okP (upd1 f i x) = true := by
  unfold okP
  rw [List.all_eq_true]
  intro p hp
  have hf := List.all_eq_true.1 h p hp
  by_cases e : p.1 = i
  · have hmem : p.2 ∈ bnd i := List.mem_map.2 ⟨p, List.mem_filter.2 ⟨hp, by simpa using e⟩, rfl⟩
    have := hb _ hmem
    unfold chk
    rw [e, upd1_at]; exact this
  · unfold chk at hf ⊢
    rw [upd1_self _ _ _ e]; exact hf
theorem bnd_37 : ∀ k : Fin 6, bnd (4 + k.val * 40 + 37) = [16777215] := by decide +kernel
theorem bnd_38 : ∀ k : Fin 6, ∀ m ∈ bnd (4 + k.val * 40 + 38), m = -1 ∨ m = 262143 := by decide +kernel
theorem jump_lo (s n : Int) : 1 ≤ Nz.jumpI s n ∧ Nz.jumpI s n < 262144 := (Nz.jump_link s n).2
theorem step_ok {f : Nat → Int} (h : okP f = true) {k : Nat} (hk : k < 6) : okP (stepF f k) = true := by
  have ht := tk_in h hk
  have ha := ok_acc h hk
  have hi := ok_idx h hk
  unfold stepF turnF
  have a0 : 0 ≤ (f (4 + k * 40 + 37) + 455) % tkF f k := Int.emod_nonneg _ (by omega)
  have a1 : (f (4 + k * 40 + 37) + 455) % tkF f k < tkF f k := Int.emod_lt_of_pos _ (by omega)
  have g1 : okP (upd1 f (4 + k * 40 + 37) ((f (4 + k * 40 + 37) + 455) % tkF f k)) = true := ok_upd h (bnd_37 ⟨k, hk⟩) rfl a0 (by omega)
  split
  · split
    · refine ok_updG g1 (fun m hm => ?_)
      have hj := jump_lo (f (4 + k * 40 + 38)) ((f (4 + k * 40 + 37) + 455) / tkF f k)
      rcases bnd_38 ⟨k, hk⟩ m hm with rfl | rfl
      · rw [if_pos rfl]; simp; omega
      · rw [if_neg (by decide), inB_iff]; omega
    · exact ok_upd g1 (bnd_ch ⟨k, hk⟩).2.2.2.2.1 rfl (by omega) (by omega)
  · exact h
theorem step_out (f : Nat → Int) (k : Nat) {j : Nat} (hj : ¬ (4 + k * 40 + 36 ≤ j ∧ j ≤ 4 + k * 40 + 38)) : stepF f k j = f j := by
  unfold stepF turnF
  split
  · split
    · rw [upd1_self _ _ _ (by omega), upd1_self _ _ _ (by omega)]
    · rw [upd1_self _ _ _ (by omega), upd1_self _ _ _ (by omega)]
  · rfl
def goF (f : Nat → Int) : Nat → Int := stepF (stepF (stepF (stepF (stepF (stepF f 1) 0) 2) 3) 4) 5
theorem go_ok {f : Nat → Int} (h : okP f = true) : okP (goF f) = true :=
  step_ok (step_ok (step_ok (step_ok (step_ok (step_ok h (by decide)) (by decide)) (by decide)) (by decide)) (by decide)) (by decide)
theorem smTo_eq {f : Nat → Int} (h : okP f = true) : evTo Try.prog [sVoice, sOn] 300 [] (ntOf Try.prog 34 [.ptr 0 0]) [1, 1, 1, 0, 1] (bodyOf Try.prog 34) (envOf [.ptr 0 0] 0) [.ints 32 .i64 244 f] (Kt [0, 2, 3, 18]) =
    some (.tup [.ptr 0 0, .ptr 1 0, .ptr 2 0, .int .i64 0], [.ints 32 .i64 244 (goF f), .cells 49 [.int .i64 0, .int .i64 0], .cells 49 [.int .i64 0, .int .i64 0]]) := by
  rw [smTo_ev]
  have h1 := step_ok h (k := 1) (by decide)
  have h2 := step_ok h1 (k := 0) (by decide)
  have h3 := step_ok h2 (k := 2) (by decide)
  have h4 := step_ok h3 (k := 3) (by decide)
  have h5 := step_ok h4 (k := 4) (by decide)
  simp only [h, h1, h2, h3, h4, h5, beq_self_eq_true, Bool.and_self, Bool.and_true, cond_true]
  rfl
/-! ### what the channels say together -/
def onF (g : Nat → Int) (k : Nat) : Bool := bt 128 (g (4 + k * 40 + 1)) && !(decide (k = 1) && decide (0 < lfoF g))
def sideF (g : Nat → Int) (lft : Bool) (k : Nat) : Int :=
  if onF g k = true then (valF g (4 + k * 40) (nzF g k) - 16) * Vl.gain (g (4 + k * 40 + 1)) (if lft = true then g (4 + k * 40 + 2) / 16 else g (4 + k * 40 + 2) % 16) (if lft = true then g 1 / 16 else g 1 % 16) else 0
def sumF (g : Nat → Int) (lft : Bool) : Nat → Int
  | 0 => 0
  | k + 1 => sumF g lft k + sideF g lft k
theorem lev_in (n : Int) : 0 ≤ Vl.lev n ∧ Vl.lev n ≤ 1024 := by
  by_cases h : n < 0
  · rw [Vl.lev_neg h]; decide
  · by_cases h2 : n > 31
    · rw [Vl.lev_far h2]; decide
    · have e : ∀ a : Fin 32, 0 ≤ Vl.lev (a.val : Nat) ∧ Vl.lev (a.val : Nat) ≤ 1024 := by decide +kernel
      obtain ⟨v, hv⟩ := Int.eq_ofNat_of_zero_le (show 0 ≤ n by omega)
      rw [hv]; exact e ⟨v, by omega⟩
theorem gain_in (a b c : Int) : 0 ≤ Vl.gain a b c ∧ Vl.gain a b c ≤ 1024 := lev_in _
theorem val_in {g : Nat → Int} (h : okP g = true) {k : Nat} (hk : k < 6) (nz : Bool) : 0 ≤ valF g (4 + k * 40) nz ∧ valF g (4 + k * 40) nz ≤ 31 := by
  unfold valF
  split
  · exact ok_dda h hk
  · split
    · omega
    · have hi := ok_idx h hk
      exact ok_wave h hk (v := (g (4 + k * 40 + 36)).toNat) (by omega)
theorem part_in {v q : Int} (v0 : 0 ≤ v) (v1 : v ≤ 31) (q0 : 0 ≤ q) (q1 : q ≤ 1024) : -16384 ≤ (v - 16) * q ∧ (v - 16) * q ≤ 15360 := by
  have a1 : (v - 16) * q ≤ 15 * q := Int.mul_le_mul_of_nonneg_right (by omega) q0
  have a2 : -16 * q ≤ (v - 16) * q := Int.mul_le_mul_of_nonneg_right (by omega) q0
  omega
theorem side_in {g : Nat → Int} (h : okP g = true) (lft : Bool) {k : Nat} (hk : k < 6) : -16384 ≤ sideF g lft k ∧ sideF g lft k ≤ 15360 := by
  unfold sideF
  split
  · obtain ⟨v0, v1⟩ := val_in h hk (nzF g k)
    obtain ⟨q0, q1⟩ := gain_in (g (4 + k * 40 + 1)) (if lft = true then g (4 + k * 40 + 2) / 16 else g (4 + k * 40 + 2) % 16) (if lft = true then g 1 / 16 else g 1 % 16)
    exact part_in v0 v1 q0 q1
  · omega
theorem sum_in {g : Nat → Int} (h : okP g = true) (lft : Bool) : ∀ k : Nat, k ≤ 6 → -16384 * (k : Int) ≤ sumF g lft k ∧ sumF g lft k ≤ 15360 * (k : Int)
  | 0, _ => by simp [sumF]
  | k + 1, hk => by
    have h1 := sum_in h lft k (by omega)
    have h2 := side_in h lft (k := k) (by omega)
    simp only [sumF]
    omega
/-- a turn of the second loop, as the trees tell it -/
theorem sm_turn {g : Nat → Int} (h : okP g = true) {k : Nat} (hk : k < 6) {α : Type} (K : Int → Int → α) :
    cond (bitI .and .i64 (g (4 + k * 40 + 1)) 128 == 0) (K (sumF g true k) (sumF g false k)) (cond (decide (k = 1) && decide (0 < lfoF g)) (K (sumF g true k) (sumF g false k))
      (K (wr .i64 (sumF g true k + wr .i64 (wr .i64 (valF g (4 + k * 40) (nzF g k) - 16) * Vl.gain (g (4 + k * 40 + 1)) ((g (4 + k * 40 + 2)).fdiv 16) ((g 1).fdiv 16))))
         (wr .i64 (sumF g false k + wr .i64 (wr .i64 (valF g (4 + k * 40) (nzF g k) - 16) * Vl.gain (g (4 + k * 40 + 1)) (bitI .and .i64 (g (4 + k * 40 + 2)) 15) (bitI .and .i64 (g 1) 15))))))
      = K (sumF g true (k + 1)) (sumF g false (k + 1)) := by
  have s1 := sum_in h true k (by omega)
  have s2 := sum_in h false k (by omega)
  obtain ⟨v0, v1⟩ := val_in h hk (nzF g k)
  have fd : ∀ x : Int, x.fdiv 16 = x / 16 := fun x => Int.fdiv_eq_ediv_of_nonneg _ (by decide)
  obtain ⟨q0, q1⟩ := gain_in (g (4 + k * 40 + 1)) (g (4 + k * 40 + 2) / 16) (g 1 / 16)
  obtain ⟨p0, p1⟩ := gain_in (g (4 + k * 40 + 1)) (g (4 + k * 40 + 2) % 16) (g 1 % 16)
  have m1 := part_in v0 v1 q0 q1
  have m2 := part_in v0 v1 p0 p1
  rw [(bt128 _).1, fd, fd, and_m4, and_m4, wrap_id (n := valF g (4 + k * 40) (nzF g k) - 16) (by omega) (by omega)]
  rw [wrap_id (n := (valF g (4 + k * 40) (nzF g k) - 16) * Vl.gain (g (4 + k * 40 + 1)) (g (4 + k * 40 + 2) / 16) (g 1 / 16)) (by omega) (by omega), wrap_id (n := (valF g (4 + k * 40) (nzF g k) - 16) * Vl.gain (g (4 + k * 40 + 1)) (g (4 + k * 40 + 2) % 16) (g 1 % 16)) (by omega) (by omega)]
  rw [wrap_id (n := sumF g true k + _) (by omega) (by omega), wrap_id (n := sumF g false k + _) (by omega) (by omega)]
  rw [show sumF g true (k + 1) = sumF g true k + (if onF g k = true then (valF g (4 + k * 40) (nzF g k) - 16) * Vl.gain (g (4 + k * 40 + 1)) (g (4 + k * 40 + 2) / 16) (g 1 / 16) else 0) from rfl,
    show sumF g false (k + 1) = sumF g false k + (if onF g k = true then (valF g (4 + k * 40) (nzF g k) - 16) * Vl.gain (g (4 + k * 40 + 1)) (g (4 + k * 40 + 2) % 16) (g 1 % 16) else 0) from rfl]
  unfold onF
  cases bt 128 (g (4 + k * 40 + 1)) with
  | false => simp
  | true =>
    cases (decide (k = 1) && decide (0 < lfoF g)) with
    | true => simp
    | false => simp
def sgF (g : Nat → Int) (k : Nat) : List Blk := [.ints 32 .i64 244 g, .cells 49 [.int .i64 0, .int .i64 0], .cells 49 [.int .i64 (sumF g true k), .int .i64 (sumF g false k)]] ++ (List.range k).map (vblk g)
def vsF (k : Nat) : List V := [.ptr 0 0, .ptr 1 0, .ptr 2 0, .int .i64 (k : Nat)]
section
variable {g : Nat → Int} (h : okP g = true) (rest : Env)
include h
theorem idx_ok {k : Nat} (hk : k < 6) : (decide (0 ≤ g (4 + k * 40 + 36)) && decide (g (4 + k * 40 + 36) < 32)) = true := by
  have := ok_idx h hk
  rw [decide_eq_true this.1, decide_eq_true (show g (4 + k * 40 + 36) < 32 by omega)]; rfl
theorem sm0 : ev Try.prog [sVoice, sLfo, sValue, Vl.sGain] 300 [] 91 (sub [1, 1, 1, 0, 1, 0, 0] (bodyOf Try.prog 34)) (zipE [0, 2, 3, 18] (vsF 0) rest) (sgF g 0) (Kl [0, 2, 3, 18]) = some (.tup (exV .normal :: vsF 1), sgF g 1) := by
  refine (smB0_ev g (sumF g true 0) (sumF g false 0) rest).trans ?_
  rw [h, show (decide (0 ≤ g 40) && decide (g 40 < 32)) = true from idx_ok h (k := 0) (by decide)]
  exact sm_turn h (k := 0) (by decide) (fun l r => some (V.tup (exV .normal :: vsF 1), [.ints 32 .i64 244 g, .cells 49 [.int .i64 0, .int .i64 0], .cells 49 [.int .i64 l, .int .i64 r]] ++ (List.range 1).map (vblk g)))
theorem sm1 : ev Try.prog [sVoice, sLfo, sValue, Vl.sGain] 300 [] 91 (sub [1, 1, 1, 0, 1, 0, 0] (bodyOf Try.prog 34)) (zipE [0, 2, 3, 18] (vsF 1) rest) (sgF g 1) (Kl [0, 2, 3, 18]) = some (.tup (exV .normal :: vsF 2), sgF g 2) := by
  refine (smB1_ev g (sumF g true 1) (sumF g false 1) rest).trans ?_
  rw [h, show (decide (0 ≤ g 80) && decide (g 80 < 32)) = true from idx_ok h (k := 1) (by decide)]
  exact sm_turn h (k := 1) (by decide) (fun l r => some (V.tup (exV .normal :: vsF 2), [.ints 32 .i64 244 g, .cells 49 [.int .i64 0, .int .i64 0], .cells 49 [.int .i64 l, .int .i64 r]] ++ (List.range 2).map (vblk g)))
theorem sm2 : ev Try.prog [sVoice, sLfo, sValue, Vl.sGain] 300 [] 91 (sub [1, 1, 1, 0, 1, 0, 0] (bodyOf Try.prog 34)) (zipE [0, 2, 3, 18] (vsF 2) rest) (sgF g 2) (Kl [0, 2, 3, 18]) = some (.tup (exV .normal :: vsF 3), sgF g 3) := by
  refine (smB2_ev g (sumF g true 2) (sumF g false 2) rest).trans ?_
  rw [h, show (decide (0 ≤ g 120) && decide (g 120 < 32)) = true from idx_ok h (k := 2) (by decide)]
  exact sm_turn h (k := 2) (by decide) (fun l r => some (V.tup (exV .normal :: vsF 3), [.ints 32 .i64 244 g, .cells 49 [.int .i64 0, .int .i64 0], .cells 49 [.int .i64 l, .int .i64 r]] ++ (List.range 3).map (vblk g)))
theorem sm3 : ev Try.prog [sVoice, sLfo, sValue, Vl.sGain] 300 [] 91 (sub [1, 1, 1, 0, 1, 0, 0] (bodyOf Try.prog 34)) (zipE [0, 2, 3, 18] (vsF 3) rest) (sgF g 3) (Kl [0, 2, 3, 18]) = some (.tup (exV .normal :: vsF 4), sgF g 4) := by
  refine (smB3_ev g (sumF g true 3) (sumF g false 3) rest).trans ?_
  rw [h, show (decide (0 ≤ g 160) && decide (g 160 < 32)) = true from idx_ok h (k := 3) (by decide)]
  exact sm_turn h (k := 3) (by decide) (fun l r => some (V.tup (exV .normal :: vsF 4), [.ints 32 .i64 244 g, .cells 49 [.int .i64 0, .int .i64 0], .cells 49 [.int .i64 l, .int .i64 r]] ++ (List.range 4).map (vblk g)))
theorem sm4 : ev Try.prog [sVoice, sLfo, sValue, Vl.sGain] 300 [] 91 (sub [1, 1, 1, 0, 1, 0, 0] (bodyOf Try.prog 34)) (zipE [0, 2, 3, 18] (vsF 4) rest) (sgF g 4) (Kl [0, 2, 3, 18]) = some (.tup (exV .normal :: vsF 5), sgF g 5) := by
  refine (smB4_ev g (sumF g true 4) (sumF g false 4) rest).trans ?_
  rw [h, show (decide (0 ≤ g 200) && decide (g 200 < 32)) = true from idx_ok h (k := 4) (by decide)]
  exact sm_turn h (k := 4) (by decide) (fun l r => some (V.tup (exV .normal :: vsF 5), [.ints 32 .i64 244 g, .cells 49 [.int .i64 0, .int .i64 0], .cells 49 [.int .i64 l, .int .i64 r]] ++ (List.range 5).map (vblk g)))
theorem sm5 : ev Try.prog [sVoice, sLfo, sValue, Vl.sGain] 300 [] 91 (sub [1, 1, 1, 0, 1, 0, 0] (bodyOf Try.prog 34)) (zipE [0, 2, 3, 18] (vsF 5) rest) (sgF g 5) (Kl [0, 2, 3, 18]) = some (.tup (exV .normal :: vsF 6), sgF g 6) := by
  refine (smB5_ev g (sumF g true 5) (sumF g false 5) rest).trans ?_
  rw [h, show (decide (0 ≤ g 240) && decide (g 240 < 32)) = true from idx_ok h (k := 5) (by decide)]
  exact sm_turn h (k := 5) (by decide) (fun l r => some (V.tup (exV .normal :: vsF 6), [.ints 32 .i64 244 g, .cells 49 [.int .i64 0, .int .i64 0], .cells 49 [.int .i64 l, .int .i64 r]] ++ (List.range 6).map (vblk g)))
end
theorem sm_block : sub [1, 1, 1, 0, 1] (bodyOf Try.prog 34) = .block 2 (.loop (sub [1, 1, 1, 0, 1, 0, 0] (bodyOf Try.prog 34))) := by kernel_rfl
def outV (g : Nat → Int) : V := .agg [.int .i64 (sumF g true 6), .int .i64 (sumF g false 6)]
theorem sample_calls {f : Nat → Int} (h : okP f = true) (B : Base) (ρ : Rho) (w : World) (hr : Rel B ρ [.ints 32 .i64 244 f] w) :
    Calls Try.prog 34 (reals ρ [.ptr 0 0]).toArray w fun e w' => ∃ x, e = .returned x ∧ After B ρ [.ints 32 .i64 244 f] (fun v σ => some (v, σ.take 1)) (outV (goF f), [.ints 32 .i64 244 (goF f)]) x w' := by
  have hg := go_ok h
  refine loop_call hN hM (by kernel_rfl) [1, 1, 1, 0, 1] (smTo_eq h) (fun B ρ0 a w hs => ?_) (fun rest => (smFrom_ev (goF f) (sumF (goF f) true 6) (sumF (goF f) false 6) rest)) hr rfl
  rw [show ntOf Try.prog 34 [.ptr 0 0] = 91 by kernel_rfl] at hs ⊢
  rw [sm_block]
  refine loop_unit (Γ := [sVoice, sLfo, sValue, Vl.sGain]) (n := 300) (H := []) (live := [0, 2, 3, 18]) hN hM 6 vsF (sgF (goF f)) (fun k hk rest => ?_) (fun rest => ?_) hs
  · match k, hk with
    | 0, _ => exact sm0 hg rest
    | 1, _ => exact sm1 hg rest
    | 2, _ => exact sm2 hg rest
    | 3, _ => exact sm3 hg rest
    | 4, _ => exact sm4 hg rest
    | 5, _ => exact sm5 hg rest
  · exact smB6_ev (goF f) (sumF (goF f) true 6) (sumF (goF f) false 6) rest
end Go.Proofs.Ytkhlghlmmnemeaa

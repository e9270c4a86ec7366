/-
  The function image, of 16384 bytes: its contract.
-/
import Derived.Test.YtabfnphbbdklgaaDoorDc
set_option linter.unusedVariables false
set_option linter.unusedSimpArgs false
namespace Go.Proofs.YtabfnphbbdklgaaDoor
open Go Go.R
theorem chunk_n {Γ : List (Summ Tryd.prog)} {H : List (Nat × V)} {n nt n0 : Nat} {B : Base} {ρ0 : Rho} {live live' : List Nat} {vs vs' : List V} {σ σ' : List Blk} {code : Code}
    (h : ∀ rest, ev Tryd.prog Γ n H nt code (zipE live vs rest) σ (Kl live') = some (.tup (exV .normal :: vs'), σ')) {a : Act} {w : World} (hs : St B ρ0 n0 nt live vs σ a w) :
    code.wp Tryd.prog (fun e a' w' => e = .normal ∧ St B ρ0 n0 nt live' vs' σ' a' w') a w := by
  refine wp_mono (chunk hN hM h hs) ?_
  rintro e a' w' ⟨he, hs'⟩
  cases e <;> simp only [ExM] at he
  exact ⟨rfl, hs'⟩
theorem chunk_x {Γ : List (Summ Tryd.prog)} {H : List (Nat × V)} {n nt n0 : Nat} {B : Base} {ρ0 : Rho} {live live' : List Nat} {vs vs' : List V} {σ σ' : List Blk} {code : Code} {id : Nat}
    (h : ∀ rest, ev Tryd.prog Γ n H nt code (zipE live vs rest) σ (Kl live') = some (.tup (exV (.exit id) :: vs'), σ')) {a : Act} {w : World} (hs : St B ρ0 n0 nt live vs σ a w) :
    code.wp Tryd.prog (fun e a' w' => e ≠ .normal ∧ Exit.inBlock id (fun e a' w' => e = .normal ∧ St B ρ0 n0 nt live' vs' σ' a' w') e a' w') a w := by
  refine wp_mono (chunk hN hM h hs) ?_
  rintro e a' w' ⟨he, hs'⟩
  cases e <;> simp only [ExM] at he
  subst he
  simp only [Exit.inBlock, if_true]
  exact ⟨by simp, by first | rfl | trivial, hs'⟩
/-- so many bytes are made -/
def gS (F : Nat → Int) (k : Nat) : Nat → Int := fun j => bif Nat.ble (j + 1) k then F j else 0
def F0 (j : Nat) : Int := v0 (j : Int)
def FB (off len : Nat) (f : Nat → Int) (j : Nat) : Int := bitI .xor .u8 (v0 (j : Int)) (f (off + j % len))
theorem scaled1 (k : Nat) : 0 + scaled (k : Int) 1 = k := by rw [scaled_eq]; simp
theorem gS_step (F : Nat → Int) (k : Nat) (x : Int) (hx : x = F k) : (fun j => upd1 (gS F k) k x j) = gS F (k + 1) := by
  funext j
  unfold upd1 gS
  by_cases h : k = j
  · subst h
    rw [Nat.beq_refl, cond_true, Nat.ble_eq_true_of_le (Nat.le_refl _), cond_true, hx]
  · have h1 : Nat.beq k j = false := by
      cases hq : Nat.beq k j with
      | false => rfl
      | true => exact absurd (Nat.eq_of_beq_eq_true hq) h
    rw [h1, cond_false]
    have h2 : Nat.ble (j + 1) k = Nat.ble (j + 1) (k + 1) := by
      rw [Bool.eq_iff_iff, Nat.ble_eq, Nat.ble_eq]; omega
    rw [h2]
theorem turnC_ok {k : Nat} (hk : k < 16384) (x : Option (V × List Blk)) : turnC (k : Int) x = x := by
  unfold turnC
  rw [decide_eq_true (show (k : Int) < 16384 by omega), scaled1, Nat.ble_eq_true_of_le (show k + 1 ≤ 16384 by omega), show inR (k : Int) 16384 = true by simp [inR]; omega]
  rfl
theorem finC_ok {k : Nat} (hk : k < 16384) (b : V) (m : Nat) (σ : List Blk) : finC b m (k : Int) σ = some (V.tup [V.int .i64 (-1), V.int .i64 16384, b, V.sl m 0 16384 16384, V.int .i64 ((k + 1 : Nat) : Int)], σ) := by
  unfold finC
  rw [wrap_id (show -9223372036854775808 ≤ (k : Int) + 1 by omega) (by omega)]; rfl
theorem step0 (F : Nat → Int) (hF : ∀ k, F k = v0 (k : Int)) {k : Nat} (hk : k < 16384) (rest : Env) : evIm [(11, .bool true)] .nilsl 0 [.ints 5 .u8 16384 (gS F k)] (k : Int) rest = some (V.tup [V.int .i64 (-1), V.int .i64 16384, V.nilsl, V.sl 0 0 16384 16384, V.int .i64 ((k + 1 : Nat) : Int)], [.ints 5 .u8 16384 (gS F (k + 1))]) := by
  rw [imTurn0_ev, turnC_ok hk, finC_ok hk, scaled1, gS_step F k _ (hF k).symm]
theorem stepZ {off cap hi : Nat} {f : Nat → Int} (F : Nat → Int) (hF : ∀ k, F k = v0 (k : Int)) {k : Nat} (hk : k < 16384) (rest : Env) : evIm [(11, .bool true)] (.sl 0 off 0 cap) 1 [.ro .u8 off hi f, .ints 5 .u8 16384 (gS F k)] (k : Int) rest =
    some (V.tup [V.int .i64 (-1), V.int .i64 16384, V.sl 0 off 0 cap, V.sl 1 0 16384 16384, V.int .i64 ((k + 1 : Nat) : Int)], [.ro .u8 off hi f, .ints 5 .u8 16384 (gS F (k + 1))]) := by
  rw [imTurnZ_ev, turnC_ok hk, finC_ok hk, scaled1, gS_step F k _ (hF k).symm]
theorem stepB {off len cap hi : Nat} {f : Nat → Int} (hlen : 0 < len) (hhi : off + len ≤ hi) {k : Nat} (hk : k < 16384) (rest : Env) : evIm [(11, .bool true), (23, .bool true)] (.sl 0 off len cap) 1 [.ro .u8 off hi f, .ints 5 .u8 16384 (gS (FB off len f) k)] (k : Int) rest =
    some (V.tup [V.int .i64 (-1), V.int .i64 16384, V.sl 0 off len cap, V.sl 1 0 16384 16384, V.int .i64 ((k + 1 : Nat) : Int)], [.ro .u8 off hi f, .ints 5 .u8 16384 (gS (FB off len f) (k + 1))]) := by
  have hmod : (k : Int).tmod (len : Int) = ((k % len : Nat) : Int) := by rw [tmod_pos (by omega)]; rfl
  have hlt := Nat.mod_lt k hlen
  have hsc : scaled ((k % len : Nat) : Int) 1 = k % len := by rw [scaled_eq, Int.toNat_natCast, Nat.mul_one]
  rw [imTurn_ev, turnC_ok hk]
  unfold wrS
  rw [hmod, hsc, scaled1, decide_eq_true (show (len : Int) > 0 by omega), Nat.ble_eq_true_of_le (show k + 1 ≤ 16384 by omega), show inR (k : Int) 16384 = true by simp [inR]; omega, show inR ((k % len : Nat) : Int) len = true by simp only [inR, Bool.and_eq_true, decide_eq_true_eq]; omega,
    Nat.ble_eq_true_of_le (show off ≤ off + k % len by omega), Nat.ble_eq_true_of_le (show off + k % len + 1 ≤ hi by omega), show ((len : Int) == 0) = false by simp; omega, finC_ok hk]
  have e : (fun j => upd1 (fun j => upd1 (gS (FB off len f) k) k (v0 (k : Int)) j) k (bitI .xor .u8 (upd1 (gS (FB off len f) k) k (v0 (k : Int)) k) (f (off + k % len))) j) = gS (FB off len f) (k + 1) := by
    rw [← gS_step (FB off len f) k (FB off len f k) rfl]
    funext j
    have hkk : upd1 (gS (FB off len f) k) k (v0 (k : Int)) k = v0 (k : Int) := by unfold upd1; rw [Nat.beq_refl]; rfl
    rw [hkk]
    unfold upd1 FB
    cases hq : Nat.beq k j <;> simp [hq]
  rw [e]
  rfl
theorem image_nil (B : Base) (ρ : Rho) (w : World) (hr : Rel B ρ [] w) : Calls Tryd.prog 6 (reals ρ [.int .i64 16384, .nilsl]).toArray w fun e w' => ∃ x, e = .returned x ∧ After B ρ [] newK (.sl 0 0 16384 16384, some (.ints 5 .u8 16384 (gS F0 16384))) x w' := by
  refine loop_call hN hM (by kernel_rfl) [1, 1, 0, 1] imTo0_ev (fun B ρ0 a w hs => ?_) (fun rest => (imFrom0_ev (gS F0 16384) rest)) hr rfl
  rw [imNt] at hs ⊢
  rw [im_block]
  refine loop_st 16384 (fun k => St B ρ0 0 40 [0, 1, 5, 6] [.int .i64 16384, .nilsl, .sl 0 0 16384 16384, .int .i64 (k : Nat)] [.ints 5 .u8 16384 (gS F0 k)]) (fun k hk a w hs => ?_) (fun a w hs => ?_) hs
  · exact chunk_n (live' := [0, 1, 5, 6]) (fun rest => step0 F0 (fun _ => rfl) hk rest) hs
  · exact chunk_x (live' := [0, 1, 5, 6]) (fun rest => imOut0_ev (gS F0 16384) rest) hs
theorem image_sl (off len cap hi : Nat) (f : Nat → Int) (hhi : off + len ≤ hi) (B : Base) (ρ : Rho) (w : World) (hr : Rel B ρ [.ro .u8 off hi f] w) : Calls Tryd.prog 6 (reals ρ [.int .i64 16384, .sl 0 off len cap]).toArray w fun e w' => ∃ x, e = .returned x ∧ After B ρ [.ro .u8 off hi f] newK (.sl 0 0 16384 16384, some (.ints 5 .u8 16384 (gS (if len = 0 then F0 else FB off len f) 16384))) x w' := by
  refine loop_call hN hM (by kernel_rfl) [1, 1, 0, 1] (imTo_ev off len cap hi f) (fun B ρ0 a w hs => ?_) (fun rest => (imFrom1_ev off len cap hi f (gS (if len = 0 then F0 else FB off len f) 16384) rest)) hr rfl
  rw [imNt] at hs ⊢
  rw [im_block]
  refine loop_st 16384 (fun k => St B ρ0 1 40 [0, 1, 5, 6] [.int .i64 16384, .sl 0 off len cap, .sl 1 0 16384 16384, .int .i64 (k : Nat)] [.ro .u8 off hi f, .ints 5 .u8 16384 (gS (if len = 0 then F0 else FB off len f) k)]) (fun k hk a w hs => ?_) (fun a w hs => ?_) hs
  · by_cases h0 : len = 0
    · subst h0
      exact chunk_n (live' := [0, 1, 5, 6]) (fun rest => stepZ F0 (fun _ => rfl) hk rest) hs
    · rw [if_neg h0] at hs ⊢
      exact chunk_n (live' := [0, 1, 5, 6]) (fun rest => stepB (by omega) hhi hk rest) hs
  · exact chunk_x (live' := [0, 1, 5, 6]) (fun rest => imOut1_ev off len cap hi f _ rest) hs
def sImage : Summ Tryd.prog := mkBytesNew 6 (fun n len g => bif n == 16384 then some (true, .sl 0 0 16384 16384, .ints 5 .u8 16384 (gS (if len = 0 then F0 else FB 0 len g) 16384)) else none) (by
    intro n v blk h
    cases hn : n == 16384 with
    | false => rw [hn] at h; cases h
    | true =>
      have := eq_of_beq hn
      subst this
      simp only [BEq.rfl, cond_true, Option.some.injEq, Prod.mk.injEq, true_and] at h
      obtain ⟨rfl, rfl⟩ := h
      exact ⟨rfl, rfl, rfl, fun B ρ w hr => image_nil B ρ w hr⟩) (by
    intro n off len cap hi f v blk h hlen hhi
    cases hn : n == 16384 with
    | false => rw [hn] at h; cases h
    | true =>
      have := eq_of_beq hn
      subst this
      simp only [BEq.rfl, cond_true, Option.some.injEq, Prod.mk.injEq, true_and] at h
      obtain ⟨rfl, rfl⟩ := h
      refine ⟨rfl, rfl, rfl, fun B ρ w hr => ?_⟩
      have e : FB 0 len (fun j => f (off + j)) = FB off len f := by funext j; simp [FB]
      rw [e]
      exact image_sl off len cap hi f hhi B ρ w hr)
end Go.Proofs.YtabfnphbbdklgaaDoor

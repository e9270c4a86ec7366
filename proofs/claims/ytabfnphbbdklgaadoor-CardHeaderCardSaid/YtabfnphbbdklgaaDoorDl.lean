/-
  The function image, of any number of bytes up to 2^40: its contract.
-/
import Derived.Test.YtabfnphbbdklgaaDoorDk
set_option linter.unusedVariables false
set_option linter.unusedSimpArgs false
namespace Go.Proofs.YtabfnphbbdklgaaDoor
open Go Go.R
section
variable {N : Nat}
theorem wrN (hN : N ≤ 1099511627776) : wr .i64 (N : Int) = (N : Int) := wrap_id (by omega) (by omega)
theorem igMk (hN : N ≤ 1099511627776) (x : Option (V × List Blk)) : cond (decide (0 ≤ wr Go.IntKind.i64 (N : Int)) && decide (wr Go.IntKind.i64 (N : Int) ≤ wr Go.IntKind.i64 (N : Int)) && decide (1 * wr Go.IntKind.i64 (N : Int) ≤ 281474976710656)) x none = x := by
  rw [wrN hN, decide_eq_true (show (0 : Int) ≤ (N : Int) by omega), decide_eq_true (show (N : Int) ≤ (N : Int) by omega), decide_eq_true (show 1 * (N : Int) ≤ 281474976710656 by omega)]
  rfl
theorem igTurnC {k : Nat} (hk : k < N) (x : Option (V × List Blk)) : cond (decide ((k : Int) < (N : Int)) == true) (cond (inR (k : Int) N) (cond ((0 + scaled (k : Int) 1 + 1).ble N) x none) none) none = x := by
  rw [decide_eq_true (show (k : Int) < (N : Int) by omega), scaled1, Nat.ble_eq_true_of_le (show k + 1 ≤ N by omega), show inR (k : Int) N = true by simp [inR]; omega]
  rfl
theorem wr1 {k : Nat} (hN : N ≤ 1099511627776) (hk : k < N) : wr .i64 ((k : Int) + 1) = ((k + 1 : Nat) : Int) := wrap_id (by omega) (by omega)
theorem igStep0 (hN : N ≤ 1099511627776) {k : Nat} (hk : k < N) (rest : Env) : ev Tryd.prog [] 100 [(11, .bool true)] 40 (Go.R.sub [1, 1, 0, 1, 0, 0] (bodyOf Tryd.prog 6)) (zipE [0, 1, 5, 6] [.int .i64 (N : Int), .nilsl, .sl 0 0 N N, .int .i64 (k : Int)] rest) [.ints 5 .u8 N (gS F0 k)] (Kl [0, 1, 5, 6]) =
    some (.tup (exV .normal :: [V.int .i64 (N : Int), V.nilsl, V.sl 0 0 N N, V.int .i64 ((k + 1 : Nat) : Int)]), [.ints 5 .u8 N (gS F0 (k + 1))]) := by
  rw [igTurn0_ev, igTurnC hk, wr1 hN hk, scaled1]
  have := gS_step F0 k (v0 (k : Int)) rfl
  unfold v0 at this
  rw [this]; rfl
theorem igStepZ (hN : N ≤ 1099511627776) {off cap hi : Nat} {f : Nat → Int} {k : Nat} (hk : k < N) (rest : Env) : ev Tryd.prog [] 100 [(11, .bool true)] 40 (Go.R.sub [1, 1, 0, 1, 0, 0] (bodyOf Tryd.prog 6)) (zipE [0, 1, 5, 6] [.int .i64 (N : Int), .sl 0 off 0 cap, .sl 1 0 N N, .int .i64 (k : Int)] rest) [.ro .u8 off hi f, .ints 5 .u8 N (gS F0 k)] (Kl [0, 1, 5, 6]) =
    some (.tup (exV .normal :: [V.int .i64 (N : Int), V.sl 0 off 0 cap, V.sl 1 0 N N, V.int .i64 ((k + 1 : Nat) : Int)]), [.ro .u8 off hi f, .ints 5 .u8 N (gS F0 (k + 1))]) := by
  rw [igTurnZ_ev, igTurnC hk, wr1 hN hk, scaled1]
  have := gS_step F0 k (v0 (k : Int)) rfl
  unfold v0 at this
  rw [this]; rfl
theorem igStepB (hN : N ≤ 1099511627776) {off len cap hi : Nat} {f : Nat → Int} (hlen : 0 < len) (hhi : off + len ≤ hi) {k : Nat} (hk : k < N) (rest : Env) : ev Tryd.prog [] 100 [(11, .bool true), (23, .bool true)] 40 (Go.R.sub [1, 1, 0, 1, 0, 0] (bodyOf Tryd.prog 6)) (zipE [0, 1, 5, 6] [.int .i64 (N : Int), .sl 0 off len cap, .sl 1 0 N N, .int .i64 (k : Int)] rest) [.ro .u8 off hi f, .ints 5 .u8 N (gS (FB off len f) k)] (Kl [0, 1, 5, 6]) =
    some (.tup (exV .normal :: [V.int .i64 (N : Int), V.sl 0 off len cap, V.sl 1 0 N N, V.int .i64 ((k + 1 : Nat) : Int)]), [.ro .u8 off hi f, .ints 5 .u8 N (gS (FB off len f) (k + 1))]) := by
  have hmod : (k : Int).tmod (len : Int) = ((k % len : Nat) : Int) := by rw [tmod_pos (by omega)]; rfl
  have hlt := Nat.mod_lt k hlen
  have hsc : scaled ((k % len : Nat) : Int) 1 = k % len := by rw [scaled_eq, Int.toNat_natCast, Nat.mul_one]
  rw [igTurn_ev, hmod, hsc, scaled1, decide_eq_true (show (k : Int) < (N : Int) by omega), decide_eq_true (show (len : Int) > 0 by omega), Nat.ble_eq_true_of_le (show k + 1 ≤ N by omega), show inR (k : Int) N = true by simp [inR]; omega, show inR ((k % len : Nat) : Int) len = true by simp only [inR, Bool.and_eq_true, decide_eq_true_eq]; omega,
    Nat.ble_eq_true_of_le (show off ≤ off + k % len by omega), Nat.ble_eq_true_of_le (show off + k % len + 1 ≤ hi by omega), show ((len : Int) == 0) = false by simp; omega, wr1 hN hk]
  have e : (fun j => upd1 (fun j => upd1 (gS (FB off len f) k) k (v0 (k : Int)) j) k (bitI .xor .u8 (upd1 (gS (FB off len f) k) k (v0 (k : Int)) k) (f (off + k % len))) j) = gS (FB off len f) (k + 1) := by
    rw [← gS_step (FB off len f) k (FB off len f k) rfl]
    funext j
    have hkk : upd1 (gS (FB off len f) k) k (v0 (k : Int)) k = v0 (k : Int) := by unfold upd1; rw [Nat.beq_refl]; rfl
    rw [hkk]
    unfold upd1 FB
    cases hq : Nat.beq k j <;> simp [hq]
  unfold v0 at e
  rw [e]
  rfl
end
theorem gS0 (F : Nat → Int) : (fun _ => (0 : Int)) = gS F 0 := by
  funext j
  unfold gS
  have : Nat.ble (j + 1) 0 = false := by
    cases h : Nat.ble (j + 1) 0 with
    | false => rfl
    | true => have := Nat.le_of_ble_eq_true h; omega
  rw [this]; rfl
theorem imNtI (x y : V) : ntOf Tryd.prog 6 [x, y] = 40 := by kernel_rfl
theorem imageN_nil (N : Nat) (hN' : N ≤ 1099511627776) (B : Base) (ρ : Rho) (w : World) (hr : Rel B ρ [] w) : Calls Tryd.prog 6 (reals ρ [.int .i64 (N : Int), .nilsl]).toArray w fun e w' => ∃ x, e = .returned x ∧ After B ρ [] newK (.sl 0 0 N N, some (.ints 5 .u8 N (gS F0 N))) x w' := by
  refine loop_call hN hM (by kernel_rfl) [1, 1, 0, 1] (live := [0, 1, 5, 6]) (vs := [.int .i64 (N : Int), .nilsl, .sl 0 0 N N, .int .i64 0]) (σ1 := [.ints 5 .u8 N (gS F0 0)]) (by rw [igTo0_ev, igMk hN', wrN hN', Int.toNat_natCast, Nat.mul_one, gS0 F0]) (fun B ρ0 a w hs => ?_) (fun rest => (show evFrom Tryd.prog [] 100 [] 40 [1, 1, 0, 1] (bodyOf Tryd.prog 6) (zipE [0, 1, 5, 6] [.int .i64 (N : Int), .nilsl, .sl 0 0 N N, .int .i64 (N : Int)] rest) [.ints 5 .u8 N (gS F0 N)] (leaveOf Tryd.prog 6 newK) = _ by kernel_rfl)) hr rfl
  rw [imNtI] at hs ⊢
  rw [im_block]
  refine loop_st N (fun k => St B ρ0 0 40 [0, 1, 5, 6] [.int .i64 (N : Int), .nilsl, .sl 0 0 N N, .int .i64 (k : Nat)] [.ints 5 .u8 N (gS F0 k)]) (fun k hk a w hs => ?_) (fun a w hs => ?_) hs
  · exact chunk_n (live' := [0, 1, 5, 6]) (fun rest => igStep0 hN' hk rest) hs
  · exact chunk_x (live' := [0, 1, 5, 6]) (fun rest => by rw [igOut0_ev, decide_eq_false (show ¬ (N : Int) < (N : Int) by omega)]; rfl) hs
theorem imageN_sl (N : Nat) (hN' : N ≤ 1099511627776) (off len cap hi : Nat) (f : Nat → Int) (hhi : off + len ≤ hi) (B : Base) (ρ : Rho) (w : World) (hr : Rel B ρ [.ro .u8 off hi f] w) : Calls Tryd.prog 6 (reals ρ [.int .i64 (N : Int), .sl 0 off len cap]).toArray w fun e w' => ∃ x, e = .returned x ∧ After B ρ [.ro .u8 off hi f] newK (.sl 0 0 N N, some (.ints 5 .u8 N (gS (if len = 0 then F0 else FB off len f) N))) x w' := by
  refine loop_call hN hM (by kernel_rfl) [1, 1, 0, 1] (live := [0, 1, 5, 6]) (vs := [.int .i64 (N : Int), .sl 0 off len cap, .sl 1 0 N N, .int .i64 0]) (σ1 := [.ro .u8 off hi f, .ints 5 .u8 N (gS (if len = 0 then F0 else FB off len f) 0)]) (by rw [igTo_ev, igMk hN', wrN hN', Int.toNat_natCast, Nat.mul_one, gS0 (if len = 0 then F0 else FB off len f)]) (fun B ρ0 a w hs => ?_)
    (fun rest => (show evFrom Tryd.prog [] 100 [] 40 [1, 1, 0, 1] (bodyOf Tryd.prog 6) (zipE [0, 1, 5, 6] [.int .i64 (N : Int), .sl 0 off len cap, .sl 1 0 N N, .int .i64 (N : Int)] rest) [.ro .u8 off hi f, .ints 5 .u8 N (gS (if len = 0 then F0 else FB off len f) N)] (leaveOf Tryd.prog 6 newK) = _ by kernel_rfl)) hr rfl
  rw [imNtI] at hs ⊢
  rw [im_block]
  refine loop_st N (fun k => St B ρ0 1 40 [0, 1, 5, 6] [.int .i64 (N : Int), .sl 0 off len cap, .sl 1 0 N N, .int .i64 (k : Nat)] [.ro .u8 off hi f, .ints 5 .u8 N (gS (if len = 0 then F0 else FB off len f) k)]) (fun k hk a w hs => ?_) (fun a w hs => ?_) hs
  · by_cases h0 : len = 0
    · subst h0
      exact chunk_n (live' := [0, 1, 5, 6]) (fun rest => igStepZ hN' hk rest) hs
    · rw [if_neg h0] at hs ⊢
      exact chunk_n (live' := [0, 1, 5, 6]) (fun rest => igStepB hN' (by omega) hhi hk rest) hs
  · exact chunk_x (live' := [0, 1, 5, 6]) (fun rest => by rw [igOut1_ev, decide_eq_false (show ¬ (N : Int) < (N : Int) by omega)]; rfl) hs
def imF (len : Nat) (g : Nat → Int) : Nat → Int := if len = 0 then F0 else FB 0 len g
def sImageN : Summ Tryd.prog := mkBytesNew 6 (fun n len g => some (decide (0 ≤ n) && decide (n ≤ 1099511627776), .sl 0 0 n.toNat n.toNat, .ints 5 .u8 n.toNat (gS (imF len g) n.toNat))) (by
    intro n v blk h
    simp only [Option.some.injEq, Prod.mk.injEq, Bool.and_eq_true, decide_eq_true_eq] at h
    obtain ⟨⟨h1, h2⟩, rfl, rfl⟩ := h
    obtain ⟨N, rfl⟩ := Int.eq_ofNat_of_zero_le h1
    exact ⟨rfl, rfl, rfl, fun B ρ w hr => imageN_nil N (by omega) B ρ w hr⟩) (by
    intro n off len cap hi f v blk h hlen hhi
    simp only [Option.some.injEq, Prod.mk.injEq, Bool.and_eq_true, decide_eq_true_eq] at h
    obtain ⟨⟨h1, h2⟩, rfl, rfl⟩ := h
    obtain ⟨N, rfl⟩ := Int.eq_ofNat_of_zero_le h1
    refine ⟨rfl, rfl, rfl, fun B ρ w hr => ?_⟩
    have e : FB 0 len (fun j => f (off + j)) = FB off len f := by funext j; simp [FB]
    rw [imF, e]
    exact imageN_sl N (by omega) off len cap hi f hhi B ρ w hr)
end Go.Proofs.YtabfnphbbdklgaaDoor

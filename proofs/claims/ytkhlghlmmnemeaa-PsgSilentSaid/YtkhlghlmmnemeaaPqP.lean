import Derived.Test.YtkhlghlmmnemeaaPqO
set_option linter.unusedVariables false
set_option linter.unusedSimpArgs false
namespace Go.Proofs.Ytkhlghlmmnemeaa
open Go Go.R
/-! ### where no channel is on -/
def silF (f : Nat → Int) : Nat → Int := fun j => upd1 (fun j => upd1 (fun j => upd1 (fun j => upd1 (fun j => upd1 (fun j => upd1 f 5 (bitI BinOp.and Go.IntKind.i64 (f 5) 127) j) 45 (bitI BinOp.and Go.IntKind.i64 (f 45) 127) j) 85 (bitI BinOp.and Go.IntKind.i64 (f 85) 127) j) 125 (bitI BinOp.and Go.IntKind.i64 (f 125) 127) j) 165 (bitI BinOp.and Go.IntKind.i64 (f 165) 127) j) 205 (bitI BinOp.and Go.IntKind.i64 (f 205) 127) j
theorem sil_ctl (f : Nat → Int) {k : Nat} (hk : k < 6) : ∃ x, silF f (4 + k * 40 + 1) = x % 128 := by
  match k, hk with
  | 0, _ => exact ⟨f 5, (show silF f 5 = bitI .and .i64 (f 5) 127 from rfl).trans (and_m7 _)⟩
  | 1, _ => exact ⟨f 45, (show silF f 45 = bitI .and .i64 (f 45) 127 from rfl).trans (and_m7 _)⟩
  | 2, _ => exact ⟨f 85, (show silF f 85 = bitI .and .i64 (f 85) 127 from rfl).trans (and_m7 _)⟩
  | 3, _ => exact ⟨f 125, (show silF f 125 = bitI .and .i64 (f 125) 127 from rfl).trans (and_m7 _)⟩
  | 4, _ => exact ⟨f 165, (show silF f 165 = bitI .and .i64 (f 165) 127 from rfl).trans (and_m7 _)⟩
  | 5, _ => exact ⟨f 205, (show silF f 205 = bitI .and .i64 (f 205) 127 from rfl).trans (and_m7 _)⟩
def Quiet (g : Nat → Int) : Prop := ∀ k, k < 6 → 0 ≤ g (4 + k * 40 + 1) ∧ g (4 + k * 40 + 1) < 128
theorem sil_quiet (f : Nat → Int) : Quiet (silF f) := fun k hk => by
  obtain ⟨x, hx⟩ := sil_ctl f hk
  rw [hx]; omega
theorem quiet_step {g : Nat → Int} (h : Quiet g) {k : Nat} (hk : k < 6) : stepF g k = g := by
  unfold stepF turnF
  have := h k hk
  rw [if_neg (by omega)]
theorem quiet_go {g : Nat → Int} (h : Quiet g) : goF g = g := by
  unfold goF
  rw [quiet_step h (by decide), quiet_step h (by decide), quiet_step h (by decide), quiet_step h (by decide), quiet_step h (by decide), quiet_step h (by decide)]
theorem quiet_it {g : Nat → Int} (h : Quiet g) : ∀ n, itF g n = g
  | 0 => rfl
  | n + 1 => by unfold itF; rw [quiet_it h n, quiet_go h]
theorem quiet_sum {g : Nat → Int} (h : Quiet g) (lft : Bool) : ∀ k : Nat, k ≤ 6 → sumF g lft k = 0
  | 0, _ => rfl
  | k + 1, hk => by
    have := h k (by omega)
    have e : onF g k = false := by
      unfold onF bt
      rw [decide_eq_false (by omega)]; rfl
    unfold sumF sideF
    rw [quiet_sum h lft k (by omega), e]; rfl
theorem quiet_heard {g : Nat → Int} (h : Quiet g) (i : Nat) : heard g i = 0 := by
  unfold heard
  rw [quiet_it h]; exact quiet_sum h _ 6 (by decide)
theorem quiet_out {g : Nat → Int} (h : Quiet g) (n i : Nat) : outF g n i = 0 := by
  unfold outF
  rw [quiet_heard h]; cases Nat.ble (i + 1) (2 * n) <;> rfl
theorem si_block : sub [1, 1, 1, 1, 1, 0, 1] (bodyOf Try.prog 10) = .block 2 (.loop (sub [1, 1, 1, 1, 1, 0, 1, 0, 0] (bodyOf Try.prog 10))) := by kernel_rfl
theorem shift0' (f : Nat → Int) : (fun j => f (0 + j)) = f := funext fun j => by rw [Nat.zero_add]
theorem ucut (f : Nat → Int) {j : Nat} (hj : j < 244) : upd (fun j => 0) 0 244 f j = f j := by
  unfold upd
  rw [show (Nat.ble 0 j && Nat.ble (j + 1) (0 + 244)) = true by simp; omega, cond_true, Nat.sub_zero]
theorem chunk_n {Γ : List (Summ Try.prog)} {H : List (Nat × V)} {n nt n0 : Nat} {B : Base} {ρ0 : Rho} {live live' : List Nat} {vs vs' : List V} {σ σ' : List Blk} {code : Code}
    (h : ∀ rest, ev Try.prog Γ n H nt code (zipE live vs rest) σ (Kl live') = some (.tup (exV .normal :: vs'), σ')) {a : Act} {w : World} (hs : St B ρ0 n0 nt live vs σ a w) :
    code.wp Try.prog (fun e a' w' => e = .normal ∧ St B ρ0 n0 nt live' vs' σ' a' w') a w := by
  refine wp_mono (chunk hN hM h hs) ?_
  rintro e a' w' ⟨he, hs'⟩
  cases e <;> simp only [ExM] at he
  exact ⟨rfl, hs'⟩
theorem siTo2h {f : Nat → Int} (h : okP (silF f) = true) {n : Int} {m : Nat} (hm : wr .i64 (1 + bitI .and .i64 n 31) = (m : Nat)) (m1 : 1 ≤ m) (m2 : m ≤ 128) :
    evTo Try.prog [sValid, sSamples] 300 [(13, .int .i64 (m : Nat)), (35, .bool true)] (ntOf Try.prog 10 [.aggi .i64 244 f, .int .i64 n]) [1, 1, 1, 1, 1, 0, 1] (bodyOf Try.prog 10) (envOf [.aggi .i64 244 f, .int .i64 n] 0) [] (Kt [1, 2, 6, 7, 10]) =
      some (.tup [.int .i64 (m : Nat), .ptr 0 0, .sl 1 0 m m, .ptr 2 0, .int .i64 0], [.ints 32 .i64 244 (silF f), .ints 49 .i64 (m * 2) (outF (silF f) m), .ints 32 .i64 244 (fun j => upd (fun j => 0) 0 244 (cut (itF (silF f) m)) j)]) := by
  refine (siTo2_ev f n (m : Nat)).trans ?_
  rw [hm, beq_self_eq_true, cond_true, decide_eq_true (show (1 : Int) ≤ ((m : Nat) : Int) by omega), decide_eq_true (show ((m : Nat) : Int) ≤ 128 by omega)]
  show cond ((okP fun j => silF f (0 + j)) && (true && true)) (cond ((okP fun j => silF f (0 + j)) == true) (some (V.tup [V.int .i64 (m : Nat), V.ptr 0 0, V.sl 1 0 ((m : Nat) : Int).toNat ((m : Nat) : Int).toNat, V.ptr 2 0, V.int .i64 0], [Blk.ints 32 .i64 244 (silF f), Blk.ints 49 .i64 (((m : Nat) : Int).toNat * 2) (fun j => outF (fun j => silF f (0 + j)) ((m : Nat) : Int).toNat j), Blk.ints 32 .i64 244 (fun j => upd (fun j => 0) 0 244 (fun j => cut (fun j => itF (fun j => silF f (0 + j)) ((m : Nat) : Int).toNat j) j) j)])) none) none = _
  rw [ok_shift, h, Int.toNat_natCast, shift0']; rfl
theorem psgSilent_calls (f : Nat → Int) (_ : ∀ i, i < 244 → IntKind.i64.has (f i)) (n : Int) (_ : IntKind.i64.has n) (B : Base) (ρ : Rho) (w : World) (hr : Rel B ρ [] w) :
    Calls Try.prog 10 (reals ρ [.aggi .i64 244 f, .int .i64 n]).toArray w fun e w' => ∃ x, e = .returned x ∧ After B ρ [] asB true x w' := by
  have hn : wr .i64 (1 + bitI .and .i64 n 31) = 1 + n % 32 := by rw [and_m5, wrap_id (by omega) (by omega)]
  cases h : okP (silF f) with
  | false =>
    have h1 := siTo_ev f n
    rw [hn] at h1
    refine loop_call hN hM (by kernel_rfl) [1, 1, 1, 0] h1 (fun B ρ0 a w hs => ?_) (fun rest => (siFromB_ev (silF f) (fun j => upd (fun j => 0) 0 244 (fun j => cut (fun j => silF f (0 + j)) j) j) rest).trans ?_) hr rfl
    · rw [show ntOf Try.prog 10 [.aggi .i64 244 f, .int .i64 n] = 76 by kernel_rfl] at hs ⊢
      refine chunk_n (Γ := [sSamplesB]) (n := 300) (H := []) (fun rest => (siBad_ev (silF f) (1 + n % 32) rest).trans ?_) hs
      rw [ok_shift, h]; rfl
    · have hc : ∀ j, j < 244 → upd (fun j => 0) 0 244 (fun j => cut (fun j => silF f (0 + j)) j) j = silF f j := fun j hj => by rw [ucut _ hj, shift0', cut_in _ hj]
      rw [ok_shift, h]
      simp (disch := decide) only [hc, beq_self_eq_true, Bool.and_true, cond_true]
  | true =>
    obtain ⟨m, hm⟩ := Int.eq_ofNat_of_zero_le (show 0 ≤ 1 + n % 32 by omega)
    have hq := sil_quiet f
    have h1 := siTo2h h (n := n) (m := m) (by rw [hn, hm]) (by omega) (by omega)
    refine loop_call hN hM (by kernel_rfl) [1, 1, 1, 1, 1, 0, 1] h1 (fun B ρ0 a w hs => ?_) (fun rest => (siFrom_ev (silF f) (outF (silF f) m) (fun j => upd (fun j => 0) 0 244 (cut (itF (silF f) m)) j) (m : Nat) (m : Nat) m (m * 2) rest).trans ?_) hr rfl
    · rw [show ntOf Try.prog 10 [.aggi .i64 244 f, .int .i64 n] = 76 by kernel_rfl] at hs ⊢
      rw [si_block]
      refine loop_unit (Γ := []) (n := 300) (H := []) (live := [1, 2, 6, 7, 10]) hN hM m (fun j => [.int .i64 (m : Nat), .ptr 0 0, .sl 1 0 m m, .ptr 2 0, .int .i64 (j : Nat)]) (fun _ => [.ints 32 .i64 244 (silF f), .ints 49 .i64 (m * 2) (outF (silF f) m), .ints 32 .i64 244 (fun j => upd (fun j => 0) 0 244 (cut (itF (silF f) m)) j)]) (fun j hj rest => ?_) (fun rest => ?_) hs
      · refine (siBody_ev (silF f) (outF (silF f) m) _ (m : Nat) (j : Nat) m (m * 2) rest).trans ?_
        rw [decide_eq_true (show ((j : Nat) : Int) < ((m : Nat) : Int) by omega), show inR ((j : Nat) : Int) m = true by simp [inR]; omega, scaled_eq, Int.toNat_natCast, ble_true (show 0 + j * 2 + 2 ≤ m * 2 by omega), quiet_out hq, quiet_out hq, wrap_id (by omega) (by omega)]
        rfl
      · refine (siBody_ev (silF f) (outF (silF f) m) _ (m : Nat) (m : Nat) m (m * 2) rest).trans ?_
        rw [decide_eq_false (show ¬ ((m : Nat) : Int) < ((m : Nat) : Int) by omega)]
        rfl
    · have hc : ∀ j, j < 244 → upd (fun j => 0) 0 244 (cut (itF (silF f) m)) j = silF f j := fun j hj => by rw [ucut _ hj, cut_in _ hj, quiet_it hq]
      simp (disch := decide) only [hc, beq_self_eq_true, Bool.and_true, cond_true]
end Go.Proofs.Ytkhlghlmmnemeaa

/-
  The law OpcodeReads: its loop, and that it answers true.
-/
import Derived.Test.YtnemecmloeonjaaOl
set_option linter.unusedVariables false
set_option linter.unusedSectionVars false
set_option linter.unusedSimpArgs false
namespace Go.Proofs.Ytnemecmloeonjaa
open Go Go.R
def hRd (n : Int) : List (Nat × V) := [(17, .bool true), (24, .int .i64 n)]
def oP (off cap p : Nat) : Nat := bif Nat.beq cap p then off else off + p * 1
def gP (off cap p : Nat) (f : Nat → Int) : Nat → Int := fun j => f (oP off cap p + j)
def kP (off p : Nat) (f : Nat → Int) : Nat := by8 (wr .i64 (f (off + p)))
noncomputable def evRd (H : List (Nat × V)) (live : List Nat) (off m cap hi p : Nat) (f : Nat → Int) (rest : Env) : Option (V × List Blk) :=
  ev Try.prog [sText, sOf] 300 H 94 (Go.R.sub [1, 1, 1, 0, 0, 0] (bodyOf Try.prog 7)) (zipE [0, 3] [.sl 0 off m cap, .int .i64 (p : Int)] rest) [.ro .u8 off hi f] (Kd live 1)
def rdHead (off m cap hi p : Nat) (f : Nat → Int) (n : Int) (x : Option (V × List Blk)) : Option (V × List Blk) :=
  cond (decide ((p : Int) < (m : Int)) == true) (cond (decide ((0 : Int) ≤ (p : Int)) && (decide ((p : Int) ≤ (m : Int)) && decide ((m : Int) ≤ (cap : Int))))
    (cond (allB (m - p) (gP off cap p f) && (Nat.ble off (oP off cap p) && (Nat.ble (oP off cap p + (m - p)) hi && Nat.ble (m - p) (cap - p)))) (cond (txN (m - p) (gP off cap p f) == n)
      (cond (inR (p : Int) m) (cond (Nat.ble off (off + p) && Nat.ble (off + p + 1) hi) x none) none) none) none) none) none
def rdTurnT (off m cap hi p : Nat) (f : Nat → Int) : Option (V × List Blk) :=
  rdHead off m cap hi p f (ln (by8 (f (off + p)))) (cond ((ln (by8 (f (off + p))) == 0) == false) (cond ((ln (by8 (f (off + p))) != ln (kP off p f)) == false) (cond (decide (ln (by8 (f (off + p))) < 1) == false)
    (cond (decide (((txS (m - p) (gP off cap p f)).size : Int) < ((nm (kP off p f)).size : Int)) == false) (cond (decide ((0 : Int) ≤ ((nm (kP off p f)).size : Int)) && decide (((nm (kP off p f)).size : Int) ≤ ((txS (m - p) (gP off cap p f)).size : Int)))
      (cond ((!sEq ((txS (m - p) (gP off cap p f)).extract 0 (nm (kP off p f)).size) (nm (kP off p f))) == false)
        (some (.tup [.int .i64 (-1), .sl 0 off m cap, .int .i64 (wr .i64 ((p : Int) + ln (by8 (f (off + p)))))], [.ro .u8 off hi f])) none) none) none) none) none) none)
def rdEndT (off m cap hi p : Nat) (f : Nat → Int) : Option (V × List Blk) :=
  rdHead off m cap hi p f 0 (cond (sEq (txS (m - p) (gP off cap p f)) (bs []) == true) (cond (decide (wr .i64 ((m : Int) - (p : Int)) < ln (kP off p f)) == true) (some (.tup [.int .i64 (-2), .bool true], [.ro .u8 off hi f])) none) none)
theorem rdTurn_ev (off m cap hi p : Nat) (f : Nat → Int) (rest : Env) : evRd (hRd (ln (by8 (f (off + p)))) ++ [(32, .bool false), (47, .bool false), (50, .bool false), (58, .bool false), (68, .bool false)]) [0, 3] off m cap hi p f rest = rdTurnT off m cap hi p f := by kernel_rfl
theorem rdEnd_ev (off m cap hi p : Nat) (f : Nat → Int) (rest : Env) : evRd (hRd 0 ++ [(34, .bool true), (42, .bool true)]) [2] off m cap hi p f rest = rdEndT off m cap hi p f := by kernel_rfl
theorem rdOut_ev (off m cap hi p : Nat) (f : Nat → Int) (rest : Env) : evRd [(17, .bool false)] [0, 3] off m cap hi p f rest = cond (decide ((p : Int) < (m : Int)) == false) (some (V.tup [exV (.exit 0), V.sl 0 off m cap, V.int .i64 (p : Int)], [Blk.ro .u8 off hi f])) none := by kernel_rfl
theorem rdTo_ev (off len cap : Nat) (f : Nat → Int) : evTo Try.prog [sOf] 300 [] (ntOf Try.prog 7 [.sl 0 off len cap]) [1, 1, 1, 0] (bodyOf Try.prog 7) (envOf [.sl 0 off len cap] 0) [.ro .u8 off (off + cap) f] (Kt [0, 3]) =
  cond (decide ((len : Int) > 300)) (cond (decide ((0 : Int) ≤ 300) && decide ((300 : Int) ≤ (cap : Int))) (some (V.tup [V.sl 0 off 300 (cap - 0), V.int .i64 0], [Blk.ro .u8 off (off + cap) f])) none) (some (V.tup [V.sl 0 off len cap, V.int .i64 0], [Blk.ro .u8 off (off + cap) f])) := by kernel_rfl
theorem rdFrom_ev (off m cap hi : Nat) (f : Nat → Int) (a : Int) (rest : Env) : evFrom Try.prog [sText, sOf] 300 [] 94 [1, 1, 1, 0] (bodyOf Try.prog 7) (zipE [0, 3] [.sl 0 off m cap, .int .i64 a] rest) [.ro .u8 off hi f] (leaveOf Try.prog 7 asB) =
  cond (a == (m : Int)) (some true) (some false) := by kernel_rfl
theorem rdRet_ev (σ : List Blk) (rest : Env) : leaveOf Try.prog 7 asB .ret (zipE [2] [.bool true] rest) σ = some true := by kernel_rfl
theorem rdNt (v : V) : ntOf Try.prog 7 [v] = 94 := by kernel_rfl
theorem rd_block : Go.R.sub [1, 1, 1, 0] (bodyOf Try.prog 7) = .block 0 (.loop (Go.R.sub [1, 1, 1, 0, 0, 0] (bodyOf Try.prog 7))) := by kernel_rfl
theorem rdNil : evCallH Try.prog [sText, sOf] [] 60 7 [.nilsl] [] asB = some true := by kernel_rfl

/-! what is read, in plain words -/
theorem catS_take (s t : ByteArray) : (catS s t).extract 0 s.size = s := by
  obtain ⟨⟨l⟩⟩ := s
  obtain ⟨⟨m⟩⟩ := t
  have h : ((catS ⟨⟨l⟩⟩ ⟨⟨m⟩⟩).extract 0 (ByteArray.mk ⟨l⟩).size).data = (⟨l⟩ : Array UInt8) := by
    rw [ByteArray.data_extract]
    apply Array.ext'
    simp [catS, ByteArray.size]
  cases hq : (catS ⟨⟨l⟩⟩ ⟨⟨m⟩⟩).extract 0 (ByteArray.mk ⟨l⟩).size with
  | mk d => rw [hq] at h; simp only at h; rw [h]
theorem catS_assoc (a b c : ByteArray) : catS (catS a b) c = catS a (catS b c) := by simp [catS]
theorem wrd_starts (g : Nat → Int) : ∀ (m i : Nat) (s : ByteArray), ∃ t, wrd g m i s = catS s t
  | 0, i, s => ⟨bs [], by
    obtain ⟨⟨l⟩⟩ := s
    simp [wrd, catS, bs]⟩
  | m + 1, i, s => by
    obtain ⟨t, ht⟩ := wrd_starts g m (i + 1) (catS (catS (catS s (bs [32])) (strOf 1 (fun _ => hi4 (g i)))) (strOf 1 (fun _ => lo4 (g i))))
    refine ⟨catS (bs [32]) (catS (strOf 1 (fun _ => hi4 (g i))) (catS (strOf 1 (fun _ => lo4 (g i))) t)), ?_⟩
    simp only [wrd]
    rw [ht]
    simp only [catS_assoc]
/-- is an instruction read here, whole? -/
def Go1 (m off p : Nat) (f : Nat → Int) : Prop := p < m ∧ ¬ (((m - p : Nat) : Int) < ln (by8 (f (off + p))))
theorem ln_pos (k : Nat) (h : k < 256) : 1 ≤ ln k ∧ ln k ≤ 7 := by
  have := List.all_eq_true.1 heads k (List.mem_range.2 h)
  simp only [Bool.and_eq_true, decide_eq_true_eq] at this
  exact ⟨this.1, this.2.1⟩
section
variable {off m cap hi p : Nat} {f : Nat → Int} (hm : m ≤ cap) (hhi : off + m ≤ hi) (hb : ∀ j, 0 ≤ f j ∧ f j < 256) (hp : p < m)
include hm hhi hb hp
theorem oP_eq : oP off cap p = off + p := by
  unfold oP
  cases hq : Nat.beq cap p with
  | false => rw [cond_false, Nat.mul_one]
  | true => have := Nat.eq_of_beq_eq_true hq; omega
theorem kP_eq : kP off p f = by8 (f (off + p)) := by unfold kP; rw [wr_byte (hb _)]
theorem rdHead_ok {n : Int} {x : Option (V × List Blk)} (hn : txN (m - p) (gP off cap p f) = n) : rdHead off m cap hi p f n x = x := by
  unfold rdHead
  rw [hn, (allB_iff (m - p) (gP off cap p f)).2 (fun j _ => hb _), oP_eq hm hhi hb hp, inR_ok hp, decide_eq_true (show (p : Int) < (m : Int) by omega), decide_eq_true (show (0 : Int) ≤ (p : Int) by omega), decide_eq_true (show (p : Int) ≤ (m : Int) by omega), decide_eq_true (show (m : Int) ≤ (cap : Int) by omega),
    Nat.ble_eq_true_of_le (show off ≤ off + p by omega), Nat.ble_eq_true_of_le (show off + p + (m - p) ≤ hi by omega), Nat.ble_eq_true_of_le (show m - p ≤ cap - p by omega), Nat.ble_eq_true_of_le (show off + p + 1 ≤ hi by omega)]
  simp
theorem gP_0 : gP off cap p f 0 = f (off + p) := by
  unfold gP; rw [oP_eq hm hhi hb hp, Nat.add_zero]
theorem rdTurn_ok (hg : ¬ (((m - p : Nat) : Int) < ln (by8 (f (off + p))))) (hm3 : m ≤ 300) : rdTurnT off m cap hi p f = some (.tup [.int .i64 (-1), .sl 0 off m cap, .int .i64 ((p + (ln (by8 (f (off + p)))).toNat : Nat) : Int)], [.ro .u8 off hi f]) := by
  have hk := by8_lt (f (off + p))
  obtain ⟨l1, l2⟩ := ln_pos _ hk
  have e3 : Nat.beq (m - p) 0 = false := by cases hq : Nat.beq (m - p) 0 with | false => rfl | true => have := Nat.eq_of_beq_eq_true hq; omega
  have hN : txN (m - p) (gP off cap p f) = ln (by8 (f (off + p))) := by
    unfold txN; rw [e3, gP_0 hm hhi hb hp, decide_eq_false hg]; rfl
  have hS : txS (m - p) (gP off cap p f) = wrd (gP off cap p f) ((ln (by8 (f (off + p)))).toNat - 1) 1 (nm (by8 (f (off + p)))) := by
    unfold txS; rw [e3, gP_0 hm hhi hb hp, decide_eq_false hg]; rfl
  have hsz : (nm (by8 (f (off + p)))).size ≤ (txS (m - p) (gP off cap p f)).size := by rw [hS, wrd_size]; omega
  have hst : (txS (m - p) (gP off cap p f)).extract 0 (nm (by8 (f (off + p)))).size = nm (by8 (f (off + p))) := by
    rw [hS]
    obtain ⟨t, ht⟩ := wrd_starts (gP off cap p f) ((ln (by8 (f (off + p)))).toNat - 1) 1 (nm (by8 (f (off + p))))
    rw [ht, catS_take]
  unfold rdTurnT
  rw [rdHead_ok hm hhi hb hp hN, kP_eq hm hhi hb hp, hst, sEq_same, wrap_id (by omega) (by omega)]
  rw [decide_eq_false (show ¬ ln (by8 (f (off + p))) < 1 by omega), decide_eq_false (show ¬ ((txS (m - p) (gP off cap p f)).size : Int) < ((nm (by8 (f (off + p)))).size : Int) by omega), decide_eq_true (show ((nm (by8 (f (off + p)))).size : Int) ≤ ((txS (m - p) (gP off cap p f)).size : Int) by omega),
    decide_eq_true (show (0 : Int) ≤ ((nm (by8 (f (off + p)))).size : Int) by omega)]
  have e1 : (ln (by8 (f (off + p))) == 0) = false := beq_eq_false_iff_ne.2 (by omega)
  rw [e1, show (((p + (ln (by8 (f (off + p)))).toNat : Nat)) : Int) = (p : Int) + ln (by8 (f (off + p))) by omega]
  simp
theorem rdEnd_ok (hg : ((m - p : Nat) : Int) < ln (by8 (f (off + p)))) (hm3 : m ≤ 300) : rdEndT off m cap hi p f = some (.tup [.int .i64 (-2), .bool true], [.ro .u8 off hi f]) := by
  have e3 : Nat.beq (m - p) 0 = false := by cases hq : Nat.beq (m - p) 0 with | false => rfl | true => have := Nat.eq_of_beq_eq_true hq; omega
  have hN : txN (m - p) (gP off cap p f) = 0 := by
    unfold txN; rw [e3, gP_0 hm hhi hb hp, decide_eq_true hg]; rfl
  have hS : txS (m - p) (gP off cap p f) = bs [] := by
    unfold txS; rw [e3, gP_0 hm hhi hb hp, decide_eq_true hg]; rfl
  unfold rdEndT
  rw [rdHead_ok hm hhi hb hp hN, hS, kP_eq hm hhi hb hp, sEq_same, wrap_id (by omega) (by omega), decide_eq_true (show (m : Int) - (p : Int) < ln (by8 (f (off + p))) by omega)]
  rfl
end
/-- where the k-th instruction begins -/
def pos (off : Nat) (f : Nat → Int) : Nat → Nat
  | 0 => 0
  | k + 1 => pos off f k + (ln (by8 (f (off + pos off f k)))).toNat
theorem pos_ge (off : Nat) (f : Nat → Int) : ∀ k, k ≤ pos off f k
  | 0 => Nat.le_refl 0
  | k + 1 => by
    have h1 := pos_ge off f k
    have h2 := ln_pos _ (by8_lt (f (off + pos off f k)))
    simp only [pos]; omega
theorem least (Q : Nat → Prop) : ∀ n, ¬ Q n → ∃ N, (∀ j, j < N → Q j) ∧ ¬ Q N := by
  intro n
  induction n using Nat.strongRecOn with
  | _ n ih =>
    intro h
    by_cases hx : ∃ j, j < n ∧ ¬ Q j
    · obtain ⟨j, hj, hq⟩ := hx; exact ih j hj hq
    · exact ⟨n, fun j hj => Classical.byContradiction fun hq => hx ⟨j, hj, hq⟩, h⟩
theorem rd_calls {arg : V} {off m cap hi : Nat} {f : Nat → Int} (hnt : ntOf Try.prog 7 [arg] = 94) (hsA : scs 1 [arg] = true) (hm : m ≤ cap) (hhi : off + m ≤ hi) (hb : ∀ j, 0 ≤ f j ∧ f j < 256) (hm3 : m ≤ 300)
    (hTo : evTo Try.prog [sOf] 300 [] (ntOf Try.prog 7 [arg]) [1, 1, 1, 0] (bodyOf Try.prog 7) (envOf [arg] 0) [.ro .u8 off hi f] (Kt [0, 3]) = some (.tup [.sl 0 off m cap, .int .i64 0], [.ro .u8 off hi f]))
    (B : Base) (ρ : Rho) (w : World) (hr : Rel B ρ [.ro .u8 off hi f] w) :
    Calls Try.prog 7 (reals ρ [arg]).toArray w fun e w' => ∃ x, e = .returned x ∧ After B ρ [.ro .u8 off hi f] asB true x w' := by
  obtain ⟨N, hGo, hE⟩ := least (fun k => Go1 m off (pos off f k) f) m (fun h => by have := pos_ge off f m; have := h.1; omega)
  have hc : ∀ k, scs 1 [V.sl 0 off m cap, V.int .i64 (pos off f k : Nat)] = true := fun k => rfl
  have hpos : pos off f N ≤ m := by
    cases N with
    | zero => exact Nat.zero_le _
    | succ n =>
      have hg := hGo n (Nat.lt_succ_self n)
      have h1 := hg.1
      have h2 := hg.2
      have h3 := ln_pos _ (by8_lt (f (off + pos off f n)))
      simp only [pos]; omega
  have step : ∀ {B : Base} {ρ0 : Rho} (k : Nat), k < N → ∀ a w, St B ρ0 1 94 [0, 3] [.sl 0 off m cap, .int .i64 (pos off f k : Nat)] [.ro .u8 off hi f] a w →
      (Go.R.sub [1, 1, 1, 0, 0, 0] (bodyOf Try.prog 7)).wp Try.prog (fun e a' w' => e = .normal ∧ St B ρ0 1 94 [0, 3] [.sl 0 off m cap, .int .i64 (pos off f (k + 1) : Nat)] [.ro .u8 off hi f] a' w') a w := by
    intro B ρ0 k hk a w hs
    have hg := hGo k hk
    exact chunk_dn hN hM (live' := [0, 3]) (vs' := [.sl 0 off m cap, .int .i64 (pos off f (k + 1) : Nat)]) (σ' := [.ro .u8 off hi f]) (fun rest => (rdTurn_ev off m cap hi (pos off f k) f rest).trans (rdTurn_ok hm hhi hb hg.1 hg.2 hm3)) (hc (k + 1)) rfl (Nat.le_refl _) hs
  by_cases hlt : pos off f N < m
  · have hend : ((m - pos off f N : Nat) : Int) < ln (by8 (f (off + pos off f N))) := Classical.byContradiction fun h => hE ⟨hlt, h⟩
    refine loop_call_ret hN hM (by kernel_rfl) [1, 1, 1, 0] hTo (fun B ρ0 a w hs => ?_) (fun rest => rdRet_ev _ rest) hr hsA (live2 := [2]) (vs2 := [.bool true]) (σ2 := [.ro .u8 off hi f])
    rw [hnt] at hs ⊢
    rw [rd_block]
    refine loop_st N (fun k => St B ρ0 1 94 [0, 3] [.sl 0 off m cap, .int .i64 (pos off f k : Nat)] [.ro .u8 off hi f]) step (fun a w hs => ?_) hs
    refine wp_mono (chunk_d hN hM (x := .ret) (live' := [2]) (vs' := [.bool true]) (σ' := [.ro .u8 off hi f]) (fun rest => (rdEnd_ev off m cap hi (pos off f N) f rest).trans (rdEnd_ok hm hhi hb hlt hend hm3)) rfl rfl (Nat.le_refl _) hs) ?_
    rintro e a' w' ⟨he, hs'⟩
    cases e <;> simp only [ExM] at he
    exact ⟨by simp, by first | rfl | trivial, hs'⟩
  · have heq : pos off f N = m := by omega
    refine loop_call hN hM (by kernel_rfl) [1, 1, 1, 0] hTo (fun B ρ0 a w hs => ?_) (fun rest => ?_) hr hsA (live2 := [0, 3]) (vs2 := [.sl 0 off m cap, .int .i64 (pos off f N : Nat)]) (σ2 := [.ro .u8 off hi f]) (Γ2 := [sText, sOf]) (n2 := 300) (H2 := [])
    · rw [hnt] at hs ⊢
      rw [rd_block]
      refine loop_st N (fun k => St B ρ0 1 94 [0, 3] [.sl 0 off m cap, .int .i64 (pos off f k : Nat)] [.ro .u8 off hi f]) step (fun a w hs => ?_) hs
      exact chunk_dx hN hM (id := 0) (live' := [0, 3]) (vs' := [.sl 0 off m cap, .int .i64 (pos off f N : Nat)]) (σ' := [.ro .u8 off hi f]) (fun rest => (rdOut_ev off m cap hi (pos off f N) f rest).trans (by rw [decide_eq_false (show ¬ ((pos off f N : Nat) : Int) < (m : Int) by omega)]; rfl)) (hc N) rfl (Nat.le_refl _) hs
    · rw [hnt, rdFrom_ev, heq]; simp
theorem opcodeReads_nil_calls (B : Base) (ρ : Rho) (w : World) (hr : Rel B ρ [] w) : Calls Try.prog 7 (reals ρ [.nilsl]).toArray w fun e w' => ∃ x, e = .returned x ∧ After B ρ [] asB true x w' :=
  evCallH_sound hN hM rdNil hr rfl
theorem opcodeReads_sl_calls (off len cap : Nat) (f : Nat → Int) (hl : len ≤ cap) (hm : cap ≤ maxLen) (hb : ∀ j, 0 ≤ f j ∧ f j < 256) (B : Base) (ρ : Rho) (w : World) (hr : Rel B ρ [.ro .u8 off (off + cap) f] w) :
    Calls Try.prog 7 (reals ρ [.sl 0 off len cap]).toArray w fun e w' => ∃ x, e = .returned x ∧ After B ρ [.ro .u8 off (off + cap) f] asB true x w' := by
  have h1 := rdTo_ev off len cap f
  by_cases h : (len : Int) > 300
  · rw [decide_eq_true h, decide_eq_true (show (300 : Int) ≤ (cap : Int) by omega)] at h1
    exact rd_calls (m := 300) (cap := cap - 0) (rdNt _) rfl (by omega) (by omega) hb (Nat.le_refl _) h1 B ρ w hr
  · rw [decide_eq_false h] at h1
    exact rd_calls (m := len) (cap := cap) (rdNt _) rfl hl (by omega) hb (by omega) h1 B ρ w hr
end Go.Proofs.Ytnemecmloeonjaa

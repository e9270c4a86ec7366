/-
  The law OpcodeAll: its loop, and that it answers true.
-/
import Derived.Test.YtnemecmloeonjaaOk
set_option linter.unusedVariables false
set_option linter.unusedSimpArgs false
namespace Go.Proofs.Ytnemecmloeonjaa
open Go Go.R
def isNop (k : Nat) : Bool := sEq (nm k) (bs [78, 79, 80])
def cnt : Nat → Nat
  | 0 => 0
  | k + 1 => bif isNop k then cnt k + 1 else cnt k
theorem cnt256 : cnt 256 = 23 := by decide +kernel
theorem cnt_le : ∀ k, cnt k ≤ k
  | 0 => Nat.le_refl 0
  | k + 1 => by
    have := cnt_le k
    simp only [cnt]
    cases isNop k <;> simp only [cond_true, cond_false] <;> omega
theorem heads : (List.range 256).all (fun k => decide (1 ≤ ln k) && (decide (ln k ≤ 7) && (decide (2 ≤ cy k) && decide (cy k ≤ 17)))) = true := by decide +kernel
theorem headT_ok {α : Type} {k : Nat} (hk : k < 256) {x out : Option α} : headT (k : Int) (isNop k) x out = x := by
  have := List.all_eq_true.1 heads k (List.mem_range.2 hk)
  simp only [Bool.and_eq_true, decide_eq_true_eq] at this
  obtain ⟨h1, h2, h3, h4⟩ := this
  have hs : (nm k).size = 3 ∨ (nm k).size = 4 := by rcases kind k hk with h | h; exact .inl h.1; exact .inr h.1
  have e : by8 (k : Int) = k := by unfold by8; omega
  unfold headT isNop
  rw [e, decide_eq_true (show (k : Int) < 256 by omega), decide_eq_false (show ¬ ln k < 1 by omega), decide_eq_false (show ¬ ln k > 7 by omega), decide_eq_false (show ¬ cy k < 2 by omega), decide_eq_false (show ¬ cy k > 17 by omega),
    decide_eq_false (show ¬ ((nm k).size : Int) < 3 by omega), decide_eq_false (show ¬ ((nm k).size : Int) > 4 by omega)]
  simp
theorem catS_size (x y : ByteArray) : (catS x y).size = x.size + y.size := by
  show (x.data.toList ++ y.data.toList).toArray.size = _
  rw [List.size_toArray, List.length_append]; rfl
theorem strOf_size (n : Nat) (f : Nat → Int) : (strOf n f).size = n := by
  show ((List.range n).map fun j => UInt8.ofNat (f j).toNat).toArray.size = n
  simp
theorem wrd_size (g : Nat → Int) : ∀ (m i : Nat) (s : ByteArray), (wrd g m i s).size = s.size + 3 * m
  | 0, i, s => rfl
  | m + 1, i, s => by
    simp only [wrd]
    rw [wrd_size g m (i + 1), catS_size, catS_size, catS_size, strOf_size, strOf_size, show (bs [32]).size = 1 by rfl]
    omega
theorem finT_ok {k : Nat} (hk : k < 256) (s0 : V) (σ : List Blk) : finT (isNop k) s0 σ (cnt k : Nat) (k : Nat) = some (.tup [.int .i64 (-1), s0, .int .i64 (cnt (k + 1) : Nat), .int .i64 ((k + 1 : Nat) : Int)], σ) := by
  have := cnt_le k
  unfold finT
  simp only [cnt]
  rw [wrap_id (show -9223372036854775808 ≤ (k : Int) + 1 by omega) (by omega)]
  cases isNop k with
  | true => rw [cond_true, cond_true, wrap_id (by omega) (by omega)]; rfl
  | false => rfl
theorem byK {k : Nat} (hk : k < 256) : by8 (k : Int) = k := by unfold by8; omega
theorem turnA_ok {k : Nat} (hk : k < 256) {L : Nat} (hL : 1 ≤ L) {g : Nat → Int} (hg : by8 (g 0) = k) (hall : allB L g = true) (hs : (L : Int) < ln k) {s0 : V} {σ : List Blk} {wr' : Option (V × List Blk) → Option (V × List Blk)} (hw : ∀ x, wr' x = x) :
    turnA (isNop k) true L g s0 σ (cnt k : Nat) (k : Nat) wr' = some (.tup [.int .i64 (-1), s0, .int .i64 (cnt (k + 1) : Nat), .int .i64 ((k + 1 : Nat) : Int)], σ) := by
  unfold turnA
  have e3 : Nat.beq L 0 = false := by cases hq : Nat.beq L 0 with | false => rfl | true => have := Nat.eq_of_beq_eq_true hq; omega
  rw [headT_ok hk, hw, hall, finT_ok hk]
  unfold txN txS
  rw [byK hk, hg, e3]
  simp only [cond_false, decide_eq_true hs, cond_true, Bool.and_self]
  rw [decide_eq_false (show ¬ (L : Int) ≥ ln k by omega), (sEq_iff (bs []) (bs [])).2 rfl]
  rfl
theorem turnB_ok {k : Nat} (hk : k < 256) {L : Nat} (hL : 1 ≤ L) {g : Nat → Int} (hg : by8 (g 0) = k) (hall : allB L g = true) (hs : ¬ (L : Int) < ln k) {s0 : V} {σ : List Blk} {wr' : Option (V × List Blk) → Option (V × List Blk)} (hw : ∀ x, wr' x = x) :
    turnB (isNop k) true L g s0 σ (cnt k : Nat) (k : Nat) wr' = some (.tup [.int .i64 (-1), s0, .int .i64 (cnt (k + 1) : Nat), .int .i64 ((k + 1 : Nat) : Int)], σ) := by
  unfold turnB
  have e3 : Nat.beq L 0 = false := by cases hq : Nat.beq L 0 with | false => rfl | true => have := Nat.eq_of_beq_eq_true hq; omega
  have hl : 1 ≤ ln k ∧ ln k ≤ 7 := by
    have := List.all_eq_true.1 heads k (List.mem_range.2 hk)
    simp only [Bool.and_eq_true, decide_eq_true_eq] at this
    exact ⟨this.1, this.2.1⟩
  have hsz : (nm k).size = 3 ∨ (nm k).size = 4 := by rcases kind k hk with h | h; exact .inl h.1; exact .inr h.1
  rw [headT_ok hk, hw, hall, finT_ok hk]
  unfold txN txS
  rw [byK hk, hg, e3]
  simp only [cond_false, decide_eq_false hs, cond_true, Bool.and_self, beq_self_eq_true]
  rw [wrd_size, wrap_id (show -9223372036854775808 ≤ ln k - 1 by omega) (by omega), wrap_id (show -9223372036854775808 ≤ 3 * (ln k - 1) by omega) (by omega), wrap_id (show -9223372036854775808 ≤ ((nm k).size : Int) + 3 * (ln k - 1) by omega) (by omega)]
  have e1 : (ln k != 0) = true := bne_iff_ne.2 (by omega)
  have e2 : (ln k == 0) = false := beq_eq_false_iff_ne.2 (by omega)
  have e4 : ((((nm k).size + 3 * ((ln k).toNat - 1) : Nat) : Int) != ((nm k).size : Int) + 3 * (ln k - 1)) = false := by
    rw [show (((nm k).size + 3 * ((ln k).toNat - 1) : Nat) : Int) = ((nm k).size : Int) + 3 * (ln k - 1) by omega]; simp
  rw [e1, e2, e4]
  simp

/-- one turn, whatever follows -/
def StepT (s0 : V) (σ : List Blk) : Prop := ∀ k, k < 256 → ∃ Γ H, ∀ rest, evTurn Γ H s0 σ (cnt k : Nat) (k : Nat) rest = some (.tup [.int .i64 (-1), s0, .int .i64 (cnt (k + 1) : Nat), .int .i64 ((k + 1 : Nat) : Int)], σ)
theorem step_of {s0 : V} {σ : List Blk} {Γ : List (Summ Try.prog)} {L : Nat} {g : Int → Nat → Int} {W : Option (V × List Blk) → Option (V × List Blk)} (hL : 1 ≤ L) (hg : ∀ k : Nat, k < 256 → by8 (g k 0) = k) (hall : ∀ k : Nat, k < 256 → allB L (g k) = true) (hw : ∀ x, W x = x)
    (a0 : ∀ c i rest, evTurn Γ (HTA false) s0 σ c i rest = turnA false true L (g i) s0 σ c i W) (a1 : ∀ c i rest, evTurn Γ (HTA true) s0 σ c i rest = turnA true true L (g i) s0 σ c i W)
    (b0 : ∀ c i rest, evTurn Γ (HTB false (ln (by8 i))) s0 σ c i rest = turnB false true L (g i) s0 σ c i W) (b1 : ∀ c i rest, evTurn Γ (HTB true (ln (by8 i))) s0 σ c i rest = turnB true true L (g i) s0 σ c i W) : StepT s0 σ := by
  intro k hk
  by_cases hs : (L : Int) < ln k
  · have h := turnA_ok hk hL (hg k hk) (hall k hk) hs (s0 := s0) (σ := σ) hw
    cases hb : isNop k with
    | false => rw [hb] at h; exact ⟨Γ, _, fun rest => (a0 _ _ rest).trans h⟩
    | true => rw [hb] at h; exact ⟨Γ, _, fun rest => (a1 _ _ rest).trans h⟩
  · have h := turnB_ok hk hL (hg k hk) (hall k hk) hs (s0 := s0) (σ := σ) hw
    cases hb : isNop k with
    | false => rw [hb] at h; exact ⟨Γ, _, fun rest => (b0 _ _ rest).trans h⟩
    | true => rw [hb] at h; exact ⟨Γ, _, fun rest => (b1 _ _ rest).trans h⟩
theorem wr_u8 {k : Nat} (hk : k < 256) : wr .u8 (k : Int) = k := by
  rw [wr_eq]
  have : (List.range 256).all (fun k => IntKind.u8.wrap ((k : Nat) : Int) == ((k : Nat) : Int)) = true := by decide +kernel
  simpa using List.all_eq_true.1 this k (List.mem_range.2 hk)
theorem gL_0 {k : Nat} (hk : k < 256) : by8 (gL k 0) = k := by
  show by8 (wr .u8 (k : Int)) = k
  rw [wr_u8 hk, byK hk]
theorem gL_all {k : Nat} (hk : k < 256) : allB 1 (gL k) = true := by
  rw [allB_iff]
  intro j hj
  obtain rfl : j = 0 := by omega
  show 0 ≤ wr .u8 (k : Int) ∧ wr .u8 (k : Int) < 256
  rw [wr_u8 hk]; omega
theorem gI_0 {k m off : Nat} {f : Nat → Int} (hk : k < 256) : by8 (gI k m f off 0) = k := by
  have : gI k m f off 0 = wr .u8 (k : Int) := rfl
  rw [this, wr_u8 hk, byK hk]
theorem gI_all {k m off : Nat} {f : Nat → Int} (hk : k < 256) (hb : ∀ j, 0 ≤ f j ∧ f j < 256) : allB (1 + m) (gI k m f off) = true := by
  rw [allB_iff]
  intro j hj
  by_cases h0 : j = 0
  · subst h0
    have : gI k m f off 0 = wr .u8 (k : Int) := rfl
    rw [this, wr_u8 hk]; omega
  · have : gI k m f off j = f (off + (j - 1)) := by
      unfold gI upd
      rw [Nat.zero_add, Nat.ble_eq_true_of_le (show 1 ≤ j by omega), Nat.ble_eq_true_of_le (show j + 1 ≤ 1 + m by omega)]
      rfl
    rw [this]; exact hb _
theorem step_nil : StepT .nilsl [] := step_of (L := 1) (g := gL) (W := id) (Nat.le_refl 1) (fun k hk => gL_0 hk) (fun k hk => gL_all hk) (fun _ => rfl) turnNA0 turnNA1 turnNB0 turnNB1
theorem step_sl {off m cap hi : Nat} {f : Nat → Int} (hm : m ≤ 20) (hhi : off + m ≤ hi) (hb : ∀ j, 0 ≤ f j ∧ f j < 256) : StepT (.sl 0 off m cap) [.ro .u8 off hi f] := by
  cases m with
  | zero =>
    exact step_of (L := 1) (g := gL) (W := rdZ off hi) (Nat.le_refl 1) (fun k hk => gL_0 hk) (fun k hk => gL_all hk) (fun x => by unfold rdZ; rw [Nat.ble_eq_true_of_le (Nat.le_refl off), Nat.ble_eq_true_of_le hhi]; rfl)
      (fun c i rest => turnZA0 off cap hi f c i rest) (fun c i rest => turnZA1 off cap hi f c i rest) (fun c i rest => turnZB0 off cap hi f c i rest) (fun c i rest => turnZB1 off cap hi f c i rest)
  | succ m =>
    have hr : m ∈ List.range 20 := List.mem_range.2 (by omega)
    have e : 1 + m = m + 1 := by omega
    rw [← e]
    exact step_of (L := 1 + (1 + m)) (g := fun i => gI i (1 + m) f off) (W := rdW off hi (1 + m)) (by omega) (fun k hk => gI_0 hk) (fun k hk => gI_all hk hb) (fun x => by unfold rdW; rw [Nat.ble_eq_true_of_le (Nat.le_refl off), Nat.ble_eq_true_of_le (show off + (1 + m) ≤ hi by omega)]; rfl)
      (fun c i rest => List.map_inj_left.1 (turnsA0 off cap hi f c i rest) m hr) (fun c i rest => List.map_inj_left.1 (turnsA1 off cap hi f c i rest) m hr)
      (fun c i rest => List.map_inj_left.1 (turnsB0 off cap hi f c i rest) m hr) (fun c i rest => List.map_inj_left.1 (turnsB1 off cap hi f c i rest) m hr)

theorem al_block : Go.R.sub [1, 1, 1, 0, 1] (bodyOf Try.prog 6) = .block 0 (.loop (Go.R.sub [1, 1, 1, 0, 1, 0, 0] (bodyOf Try.prog 6))) := by kernel_rfl
theorem al_calls {arg s0 : V} {σ : List Blk} (hnt : ntOf Try.prog 6 [arg] = 101) (hsA : scs σ.length [arg] = true) (hs0 : s0.sc σ.length = true) (hsb : (σ.all fun b => b.sc σ.length) = true)
    (hTo : evTo Try.prog [sOf] 300 [] (ntOf Try.prog 6 [arg]) [1, 1, 1, 0, 1] (bodyOf Try.prog 6) (envOf [arg] 0) σ (Kt [0, 3, 4]) = some (.tup [s0, .int .i64 0, .int .i64 0], σ)) (hst : StepT s0 σ)
    (hOut : ∀ c rest, evTurn [sTextL, sOf] [] s0 σ c 256 rest = some (.tup [exV (.exit 0), s0, .int .i64 c, .int .i64 256], σ))
    (hFrom : ∀ c rest, evFrom Try.prog [sOf] 300 [] 101 [1, 1, 1, 0, 1] (bodyOf Try.prog 6) (zipE [0, 3, 4] [s0, .int .i64 c, .int .i64 256] rest) σ (leaveOf Try.prog 6 asB) = some (c == 23))
    (B : Base) (ρ : Rho) (w : World) (hr : Rel B ρ σ w) :
    Calls Try.prog 6 (reals ρ [arg]).toArray w fun e w' => ∃ x, e = .returned x ∧ After B ρ σ asB true x w' := by
  have hc : ∀ k, scs σ.length [s0, V.int .i64 (cnt k : Nat), V.int .i64 (k : Nat)] = true := fun k => by simp [scs, hs0, V.sc]
  refine loop_call hN hM (by kernel_rfl) [1, 1, 1, 0, 1] hTo (fun B ρ0 a w hs => ?_) (fun rest => ?_) hr hsA (live2 := [0, 3, 4]) (vs2 := [s0, .int .i64 (cnt 256 : Nat), .int .i64 256]) (σ2 := σ) (Γ2 := [sOf]) (n2 := 300) (H2 := [])
  · rw [hnt] at hs ⊢
    rw [al_block]
    refine loop_st 256 (fun k => St B ρ0 σ.length 101 [0, 3, 4] [s0, .int .i64 (cnt k : Nat), .int .i64 (k : Nat)] σ) (fun k hk a w hs => ?_) (fun a w hs => ?_) hs
    · obtain ⟨Γ, H, h⟩ := hst k hk
      exact chunk_dn hN hM (fun rest => h rest) (hc (k + 1)) hsb (Nat.le_refl _) hs
    · exact chunk_dx hN hM (fun rest => hOut _ rest) (hc 256) hsb (Nat.le_refl _) hs
  · rw [hnt, hFrom, cnt256]; rfl
theorem alTo0 : evTo Try.prog [sOf] 300 [] (ntOf Try.prog 6 [.nilsl]) [1, 1, 1, 0, 1] (bodyOf Try.prog 6) (envOf [.nilsl] 0) [] (Kt [0, 3, 4]) = some (.tup [.nilsl, .int .i64 0, .int .i64 0], []) := by kernel_rfl
theorem alOut0 (c : Int) (rest : Env) : evTurn [sTextL, sOf] [] .nilsl [] c 256 rest = some (.tup [exV (.exit 0), .nilsl, .int .i64 c, .int .i64 256], []) := by kernel_rfl
theorem alFrom0 (c : Int) (rest : Env) : evFrom Try.prog [sOf] 300 [] 101 [1, 1, 1, 0, 1] (bodyOf Try.prog 6) (zipE [0, 3, 4] [.nilsl, .int .i64 c, .int .i64 256] rest) [] (leaveOf Try.prog 6 asB) = some (c == 23) := by kernel_rfl
theorem alTo1 (off len cap : Nat) (f : Nat → Int) : evTo Try.prog [sOf] 300 [] (ntOf Try.prog 6 [.sl 0 off len cap]) [1, 1, 1, 0, 1] (bodyOf Try.prog 6) (envOf [.sl 0 off len cap] 0) [.ro .u8 off (off + cap) f] (Kt [0, 3, 4]) =
  cond (decide ((len : Int) > 20)) (cond (decide ((0 : Int) ≤ 20) && decide ((20 : Int) ≤ (cap : Int))) (some (V.tup [V.sl 0 off 20 (cap - 0), V.int .i64 0, V.int .i64 0], [Blk.ro .u8 off (off + cap) f])) none) (some (V.tup [V.sl 0 off len cap, V.int .i64 0, V.int .i64 0], [Blk.ro .u8 off (off + cap) f])) := by kernel_rfl
theorem alOut1 (off m cap hi : Nat) (f : Nat → Int) (c : Int) (rest : Env) : evTurn [sTextL, sOf] [] (.sl 0 off m cap) [.ro .u8 off hi f] c 256 rest = some (.tup [exV (.exit 0), .sl 0 off m cap, .int .i64 c, .int .i64 256], [.ro .u8 off hi f]) := by kernel_rfl
theorem alFrom1 (off m cap hi : Nat) (f : Nat → Int) (c : Int) (rest : Env) : evFrom Try.prog [sOf] 300 [] 101 [1, 1, 1, 0, 1] (bodyOf Try.prog 6) (zipE [0, 3, 4] [.sl 0 off m cap, .int .i64 c, .int .i64 256] rest) [.ro .u8 off hi f] (leaveOf Try.prog 6 asB) = some (c == 23) := by kernel_rfl
theorem alNt (v : V) : ntOf Try.prog 6 [v] = 101 := by kernel_rfl
theorem opcodeAll_nil_calls (B : Base) (ρ : Rho) (w : World) (hr : Rel B ρ [] w) : Calls Try.prog 6 (reals ρ [.nilsl]).toArray w fun e w' => ∃ x, e = .returned x ∧ After B ρ [] asB true x w' :=
  al_calls (alNt _) rfl rfl rfl alTo0 step_nil alOut0 alFrom0 B ρ w hr
theorem opcodeAll_sl_calls (off len cap : Nat) (f : Nat → Int) (hl : len ≤ cap) (hm : cap ≤ maxLen) (hb : ∀ j, 0 ≤ f j ∧ f j < 256) (B : Base) (ρ : Rho) (w : World) (hr : Rel B ρ [.ro .u8 off (off + cap) f] w) :
    Calls Try.prog 6 (reals ρ [.sl 0 off len cap]).toArray w fun e w' => ∃ x, e = .returned x ∧ After B ρ [.ro .u8 off (off + cap) f] asB true x w' := by
  by_cases h : (len : Int) > 20
  · have h1 := alTo1 off len cap f
    rw [decide_eq_true h, decide_eq_true (show (20 : Int) ≤ (cap : Int) by omega)] at h1
    exact al_calls (s0 := .sl 0 off 20 (cap - 0)) (alNt _) rfl rfl rfl h1 (step_sl (Nat.le_refl 20) (by omega) hb) (fun c rest => alOut1 off 20 (cap - 0) (off + cap) f c rest) (fun c rest => alFrom1 off 20 (cap - 0) (off + cap) f c rest) B ρ w hr
  · have h1 := alTo1 off len cap f
    rw [decide_eq_false h] at h1
    exact al_calls (s0 := .sl 0 off len cap) (alNt _) rfl rfl rfl h1 (step_sl (by omega) (by omega) hb) (fun c rest => alOut1 off len cap (off + cap) f c rest) (fun c rest => alFrom1 off len cap (off + cap) f c rest) B ρ w hr
end Go.Proofs.Ytnemecmloeonjaa

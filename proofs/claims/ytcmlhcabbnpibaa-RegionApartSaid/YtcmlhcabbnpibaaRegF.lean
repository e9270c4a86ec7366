import Derived.Test.YtcmlhcabbnpibaaRegE
namespace Go.Proofs.Ytcmlhcabbnpibaa
open Go Go.R
theorem rom {a : Int} (h0 : 0 ≤ a) (h1 : a < 1048576) : kW a = 0 ∧ pW a = a / 8192 ∧ aW a = a % 8192 := by
  unfold kW pW aW
  rw [if_neg (by omega : ¬ a < 0), if_neg (by omega : ¬ a ≥ 2097152), if_neg (by omega : ¬ a < 0), if_neg (by omega : ¬ a ≥ 1048576), if_neg (by omega : ¬ a < 0), if_neg (by omega : ¬ a ≥ 2097152), if_pos (by omega : a / 8192 < 128), if_pos (by omega : a / 8192 < 128)]
  exact ⟨rfl, rfl, rfl⟩
theorem ram {a : Int} (h0 : 2031616 ≤ a) (h1 : a < 2064384) : kW a = 1 ∧ pW a = 0 ∧ aW a = a % 8192 := by
  unfold kW pW aW
  rw [if_neg (by omega : ¬ a < 0), if_neg (by omega : ¬ a ≥ 2097152), if_neg (by omega : ¬ a < 0), if_pos (by omega : a ≥ 1048576), if_neg (by omega : ¬ a < 0), if_neg (by omega : ¬ a ≥ 2097152), if_neg (by omega : ¬ a / 8192 < 128), if_neg (by omega : ¬ a / 8192 < 128), if_pos (by omega : 248 ≤ a / 8192 ∧ a / 8192 ≤ 251), if_pos (by omega : 248 ≤ a / 8192 ∧ a / 8192 ≤ 251)]
  exact ⟨rfl, rfl, rfl⟩
theorem dev {a : Int} (h0 : 2088960 ≤ a) (h1 : a < 2097152) : kW a = portK (a - 2088960) ∧ pW a = 0 ∧ aW a = portA (a - 2088960) := by
  unfold kW pW aW
  rw [if_neg (by omega : ¬ a < 0), if_neg (by omega : ¬ a ≥ 2097152), if_neg (by omega : ¬ a < 0), if_pos (by omega : a ≥ 1048576), if_neg (by omega : ¬ a < 0), if_neg (by omega : ¬ a ≥ 2097152), if_neg (by omega : ¬ a / 8192 < 128), if_neg (by omega : ¬ a / 8192 < 128), if_neg (by omega : ¬ (248 ≤ a / 8192 ∧ a / 8192 ≤ 251)), if_neg (by omega : ¬ (248 ≤ a / 8192 ∧ a / 8192 ≤ 251)), if_pos (by omega : a / 8192 = 255), if_pos (by omega : a / 8192 = 255)]
  rw [show a % 8192 = a - 2088960 by omega]
  exact ⟨rfl, rfl, rfl⟩
theorem nothing {a : Int} (h0 : 1048576 ≤ a) (h1 : a < 2097152) (h2 : ¬ (248 ≤ a / 8192 ∧ a / 8192 ≤ 251)) (h3 : a / 8192 ≠ 255) : kW a = 8 ∧ pW a = 0 ∧ aW a = 0 := by
  unfold kW pW aW
  rw [if_neg (by omega : ¬ a < 0), if_neg (by omega : ¬ a ≥ 2097152), if_neg (by omega : ¬ a < 0), if_pos (by omega : a ≥ 1048576), if_neg (by omega : ¬ a < 0), if_neg (by omega : ¬ a ≥ 2097152), if_neg (by omega : ¬ a / 8192 < 128), if_neg (by omega : ¬ a / 8192 < 128), if_neg h2, if_neg h2, if_neg h3, if_neg h3]
  exact ⟨rfl, rfl, rfl⟩
theorem ram_or (a : Int) : bitI .or .i64 2031616 (a % 32768) = 2031616 + a % 32768 := by
  have h := or_nat (x := 2031616) (y := a % 32768) (by decide) (by decide) (by omega) (by omega)
  refine h.trans ?_
  have h2 := Nat.two_pow_add_eq_or_of_lt (i := 15) (b := (a % 32768).toNat) (by omega) 62
  have h3 : Int.toNat 2031616 = 2 ^ 15 * 62 := by decide
  rw [h3, ← h2]
  omega
theorem parts8192 (a b : Int) : (a / 8192 = b / 8192 ∧ a % 8192 = b % 8192) ↔ a = b := by omega
theorem part8192 (a : Int) : (2031616 + a % 32768) % 8192 = a % 8192 := by omega
theorem regionApart_ok (n : Int) (_ : IntKind.i64.has n) (m : Int) (_ : IntKind.i64.has m) :
    evCallH Try.prog [sWhere, sSlow, sHeld] [(12, .int .i64 (n % 1048576)), (14, .int .i64 (m % 1048576)), (48, .int .i64 (2031616 + n % 1048576 % 32768)), (51, .int .i64 (2031616 + m % 1048576 % 32768)),
      (30, .bool (n % 1048576 == m % 1048576)), (67, .bool (n % 1048576 % 8192 == m % 1048576 % 8192))] 100 11 [.int .i64 n, .int .i64 m] [] asB = some true := by
  refine (lawApart_ev n m _ _ _ _ _ _).trans ?_
  rw [and_m20, and_m20, and_m15, and_m15, and_m13, and_m13, ram_or, ram_or]
  generalize ha : n % 1048576 = a
  generalize hb : m % 1048576 = b
  obtain ⟨a1, a2, a3⟩ := rom (a := a) (by omega) (by omega)
  obtain ⟨b1, b2, b3⟩ := rom (a := b) (by omega) (by omega)
  obtain ⟨u1, u2, u3⟩ := ram (a := 2031616 + a % 32768) (by omega) (by omega)
  obtain ⟨v1, v2, v3⟩ := ram (a := 2031616 + b % 32768) (by omega) (by omega)
  rw [a1, a2, a3, b1, b2, b3, u1, u2, u3, v1, v2, v3]
  have e1 : ((0 : Int) == 0 && (a / 8192 == b / 8192 && (a % 8192 == b % 8192 && true))) = (a == b) := by
    rw [Bool.eq_iff_iff]; simp only [Bool.and_eq_true, beq_iff_eq, and_true, true_and]; exact parts8192 a b
  have e2 : ((1 : Int) == 1 && ((0 : Int) == 0 && ((2031616 + a % 32768) % 8192 == (2031616 + b % 32768) % 8192 && true))) = (a % 8192 == b % 8192) := by
    rw [Bool.eq_iff_iff]; simp only [Bool.and_eq_true, beq_iff_eq, and_true, true_and, part8192]
  rw [e1, e2, wrap_id (n := a / 8192 * 8192) (by omega) (by omega), wrap_id (by omega) (by omega), show a / 8192 * 8192 + a % 8192 = a by omega]
  simp
theorem regionOpen_ok (n : Int) (_ : IntKind.i64.has n) (m : Int) (_ : IntKind.i64.has m) :
    evCallH Try.prog [sWhere, sSlow, sHeld] [(7, .int .i64 (n % 256)), (9, .int .i64 (m % 8192)), (13, .int .i64 (n % 256 * 8192 + m % 8192))] 100 12 [.int .i64 n, .int .i64 m] [] asB = some true := by
  refine (lawOpen_ev n m _ _ _).trans ?_
  rw [and_m8, and_m13]
  generalize hp : n % 256 = p
  generalize hq : m % 8192 = a
  rw [wrap_id (n := p * 8192) (by omega) (by omega), wrap_id (by omega) (by omega)]
  simp only [beq_self_eq_true, cond_true, cdec, ceq]
  by_cases h1 : p < 128
  · obtain ⟨x1, x2, x3⟩ := rom (a := p * 8192 + a) (by omega) (by omega)
    rw [x1, x2, x3, if_pos h1, if_pos rfl, if_pos (by omega), show (p * 8192 + a) % 8192 = a by omega]; simp
  · rw [if_neg h1]
    by_cases h2 : p ≥ 248 ∧ p < 252
    · obtain ⟨x1, x2, x3⟩ := ram (a := p * 8192 + a) (by omega) (by omega)
      rw [x1, x2, x3, if_pos h2.1, if_pos h2.2, if_pos rfl, if_pos rfl, show (p * 8192 + a) % 8192 = a by omega]; simp
    · by_cases h3 : p = 255
      · obtain ⟨x1, x2, x3⟩ := dev (a := p * 8192 + a) (by omega) (by omega)
        have hk : portK (p * 8192 + a - 2088960) ≥ 2 := by unfold portK; split <;> omega
        rw [x1, x2, x3, if_pos (by omega), if_neg (by omega), if_pos h3, if_pos hk]; rfl
      · obtain ⟨x1, x2, x3⟩ := nothing (a := p * 8192 + a) (by omega) (by omega) (by omega) (by omega)
        rw [x1, x2, x3, if_neg h3]
        split <;> first | rfl | (split <;> first | rfl | omega)
theorem regionTells_ok (n : Int) (hn : IntKind.i64.has n) (k : Int) (_ : IntKind.i64.has k) :
    evCallH Try.prog [sWhere, sRWhere, sSlow, sHeld] [(30, .int .i64 (slowN k))] 100 13 [.int .i64 n, .int .i64 k] [] asB = some true := by
  refine (lawRTells_ev n k _).trans ?_
  rw [decide_eq_true (show n ≤ 9223372036854775807 from hn.2)]
  simp only [beq_self_eq_true, cond_true, cdec, ceq, Bool.and_self]
  unfold slowN heldB
  by_cases h4 : 4 ≤ k
  · rw [decide_eq_true h4]
    simp only [Bool.true_and, beq_self_eq_true, cond_true]
    rw [if_neg (by omega : ¬ k = 2), if_neg (by omega : ¬ k = 3), if_neg (show ¬ (k = 2 ∨ k = 3) by omega), if_pos rfl, if_pos (show k ≥ 4 from h4)]
  · rw [decide_eq_false h4]
    simp only [Bool.false_and, beq_self_eq_true, cond_true]
    by_cases h2 : k = 2
    · rw [if_pos h2, if_pos (Or.inl h2), if_pos rfl, if_neg h4]
    · rw [if_neg h2]
      by_cases h3 : k = 3
      · rw [if_pos h3, if_pos (Or.inr h3), if_pos rfl, if_neg h4]
      · rw [if_neg h3, if_neg (show ¬ (k = 2 ∨ k = 3) by omega), if_pos rfl, if_neg h4]
def manyN (q : Int) : Int := if q = 0 then 4 else if q = 1 then 8 else if q = 2 then 16 else if q = 3 then 2 else if q = 5 then 4 else 1
def portsT (q m b r p p2 : Int) : Option Bool :=
  cond (q == q) (cond (inR q 8 && (scaled q 1 + 1).ble 8) (cond (toI ([V.int Go.IntKind.i64 4, V.int Go.IntKind.i64 8, V.int Go.IntKind.i64 16, V.int Go.IntKind.i64 2, V.int Go.IntKind.i64 1, V.int Go.IntKind.i64 4, V.int Go.IntKind.i64 1, V.int Go.IntKind.i64 1].getD (scaled q 1) V.nil) == m) (cond (wr Go.IntKind.i64 (2088960 + wr Go.IntKind.i64 (q * 1024)) == b) (cond (r == r) (cond (wr Go.IntKind.i64 (b + r) == p) (cond (decide (q > 5)) (cond (kW p == 8) (some (aW p == 0)) (some false)) (cond (kW p == wr Go.IntKind.i64 (2 + q)) (cond (!m == 0) (cond (aW p == r.tmod m) (cond (pW p == 0) (cond (!m == 0) (cond (wr Go.IntKind.i64 (b + r.tmod m) == p2) (cond (kW p == kW p2 && (pW p == pW p2 && (aW p == aW p2 && true))) (cond (slowN (kW p) == wr Go.IntKind.i64 (1 - if 1 < wr Go.IntKind.i64 (q.tdiv 2) then 1 else wr Go.IntKind.i64 (q.tdiv 2))) (some (heldB (kW p) == decide (q ≥ 2))) (some false)) (some false)) none) none) (some false)) (some false)) none) (some false))) none) none) none) none) none) none
theorem ports_all : ∀ (q : Fin 8) (r : Fin 1024), portsT q.val (manyN q.val) (2088960 + q.val * 1024) r.val (2088960 + q.val * 1024 + r.val) (2088960 + q.val * 1024 + (r.val : Int) % manyN q.val) = some true := by decide +kernel
theorem regionPorts_ok (k : Int) (_ : IntKind.i64.has k) (a : Int) (_ : IntKind.i64.has a) :
    evCallH Try.prog [sWhere, sSlow, sHeld] [(9, .int .i64 (k % 8)), (12, .int .i64 (manyN (k % 8))), (15, .int .i64 (2088960 + k % 8 * 1024)), (17, .int .i64 (a % 1024)), (20, .int .i64 (2088960 + k % 8 * 1024 + a % 1024)),
      (56, .int .i64 (2088960 + k % 8 * 1024 + a % 1024 % manyN (k % 8)))] 100 14 [.int .i64 k, .int .i64 a] [] asB = some true := by
  refine (lawPorts_ev k a _ _ _ _ _ _).trans ?_
  rw [and_m3, and_m10]
  have h := ports_all ⟨(k % 8).toNat, by omega⟩ ⟨(a % 1024).toNat, by omega⟩
  simp only at h
  rw [Int.toNat_of_nonneg (by omega), Int.toNat_of_nonneg (by omega)] at h
  exact h
end Go.Proofs.Ytcmlhcabbnpibaa

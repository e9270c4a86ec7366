/-
  The texts of an instruction: what the code comes to, in plain words, and as contracts of the two functions.
-/
import Derived.Test.YtnemecmloeonjaaOg1
import Derived.Test.YtnemecmloeonjaaOg2
import Derived.Test.YtnemecmloeonjaaOg3
import Derived.Test.YtnemecmloeonjaaOg4
set_option linter.unusedVariables false
set_option linter.unusedSimpArgs false
namespace Go.Proofs.Ytnemecmloeonjaa
open Go Go.R
/-- a name, and three letters for each byte from i on -/
def wrd (g : Nat → Int) : Nat → Nat → ByteArray → ByteArray
  | 0, _, s => s
  | m + 1, i, s => wrd g m (i + 1) (catS (catS (catS s (bs [32])) (strOf 1 (fun _ => hi4 (g i)))) (strOf 1 (fun _ => lo4 (g i))))
def txN (len : Nat) (g : Nat → Int) : Int := bif Nat.beq len 0 then 0 else bif decide ((len : Int) < ln (by8 (g 0))) then 0 else ln (by8 (g 0))
def txS (len : Nat) (g : Nat → Int) : ByteArray := bif Nat.beq len 0 then bs [] else bif decide ((len : Int) < ln (by8 (g 0))) then bs [] else wrd g ((ln (by8 (g 0))).toNat - 1) 1 (nm (by8 (g 0)))
def textV (len : Nat) (g : Nat → Int) : V := .tup [.str (txS len g), .int .i64 (txN len g)]
/-- all are bytes -/
def allB (len : Nat) (g : Nat → Int) : Bool := (List.range len).all fun j => decide (0 ≤ g j) && decide (g j < 256)
theorem allB_iff (len : Nat) (g : Nat → Int) : allB len g = true ↔ ∀ j, j < len → 0 ≤ g j ∧ g j < 256 := by
  simp [allB, List.all_eq_true]
theorem byte_facts : (List.range 256).all (fun k => inR (((k : Nat) : Int).fdiv 16) 16 && (inR (bitI .and .u8 ((k : Nat) : Int) 15) 16 && (okS (dA k) (dA1 k) && (Nat.beq (sub (dA k) (dA1 k)).size 1 && (okS (dB k) (dB1 k) && (Nat.beq (sub (dB k) (dB1 k)).size 1 &&
    (sEq (one (sub (dA k) (dA1 k))) (strOf 1 (fun _ => hi4 k)) && sEq (one (sub (dB k) (dB1 k))) (strOf 1 (fun _ => lo4 k))))))))) = true := by decide +kernel
theorem byte_fact {x : Int} (h : 0 ≤ x ∧ x < 256) : inR (x.fdiv 16) 16 = true ∧ inR (bitI .and .u8 x 15) 16 = true ∧ okS (dA x) (dA1 x) = true ∧ Nat.beq (sub (dA x) (dA1 x)).size 1 = true ∧ okS (dB x) (dB1 x) = true ∧ Nat.beq (sub (dB x) (dB1 x)).size 1 = true ∧
    one (sub (dA x) (dA1 x)) = strOf 1 (fun _ => hi4 x) ∧ one (sub (dB x) (dB1 x)) = strOf 1 (fun _ => lo4 x) := by
  obtain ⟨k, rfl⟩ := Int.eq_ofNat_of_zero_le h.1
  have := List.all_eq_true.1 byte_facts k (List.mem_range.2 (by omega))
  simp only [Bool.and_eq_true] at this
  obtain ⟨h1, h2, h3, h4, h5, h6, h7, h8⟩ := this
  exact ⟨h1, h2, h3, h4, h5, h6, (sEq_iff _ _).1 h7, (sEq_iff _ _).1 h8⟩
theorem kinds : (List.range 256).all (fun k => (Nat.beq (nm k).size 3 && (ln k == 1 || (ln k == 2 || (ln k == 3 || (ln k == 4 || ln k == 7))))) || (Nat.beq (nm k).size 4 && (ln k == 2 || ln k == 3))) = true := by decide +kernel
theorem kind (k : Nat) (h : k < 256) : ((nm k).size = 3 ∧ (ln k = 1 ∨ ln k = 2 ∨ ln k = 3 ∨ ln k = 4 ∨ ln k = 7)) ∨ ((nm k).size = 4 ∧ (ln k = 2 ∨ ln k = 3)) := by
  have := List.all_eq_true.1 kinds k (List.mem_range.2 h)
  simpa [Bool.or_eq_true, Bool.and_eq_true, Nat.beq_eq] using this

theorem strOf_congr {n : Nat} {f g : Nat → Int} (h : ∀ j, j < n → f j = g j) : strOf n f = strOf n g := by
  unfold strOf
  congr 2
  exact List.map_congr_left fun j hj => by rw [h j (List.mem_range.1 hj)]
theorem strOf_succ (n : Nat) (G : Nat → Int) : strOf (n + 1) G = catS (strOf n G) (strOf 1 (fun _ => G n)) := by
  simp [strOf, catS, List.range_succ]
theorem wrd_strOf (g : Nat → Int) (G : Nat → Int) : ∀ (m i n : Nat), (∀ t, t < m → G (n + 3 * t) = 32 ∧ G (n + 3 * t + 1) = hi4 (g (i + t)) ∧ G (n + 3 * t + 2) = lo4 (g (i + t))) → wrd g m i (strOf n G) = strOf (n + 3 * m) G
  | 0, i, n, _ => rfl
  | m + 1, i, n, h => by
    obtain ⟨h1, h2, h3⟩ := h 0 (by omega)
    simp only [Nat.mul_zero, Nat.add_zero] at h1 h2 h3
    have e : catS (catS (catS (strOf n G) (bs [32])) (strOf 1 (fun _ => hi4 (g i)))) (strOf 1 (fun _ => lo4 (g i))) = strOf (n + 3) G := by
      rw [show n + 3 = (n + 1 + 1) + 1 by omega, strOf_succ (n + 1 + 1) G, strOf_succ (n + 1) G, strOf_succ n G, h1, show n + 1 + 1 = n + 2 by omega, h2, h3]
      rfl
    simp only [wrd]
    rw [e, wrd_strOf g G m (i + 1) (n + 3) (fun t ht => by
      have := h (t + 1) (by omega)
      rw [show n + 3 * (t + 1) = n + 3 + 3 * t by omega, show i + (t + 1) = i + 1 + t by omega] at this
      exact this), show n + 3 + 3 * m = n + 3 * (m + 1) by omega]

theorem wr_byte {x : Int} (h : 0 ≤ x ∧ x < 256) : wr .i64 x = x := wrap_id (by omega) (by omega)
theorem inR_ok {i len : Nat} (h : i < len) : inR (i : Int) len = true := by simp [inR]; omega

theorem chainA_ok {off hi : Nat} {f : Nat → Int} {o : Nat} {fin : Option V} : ∀ (m i : Nat), (∀ t, t < m → off ≤ o + (i + t) ∧ o + (i + t) + 1 ≤ hi ∧ 0 ≤ f (o + (i + t)) ∧ f (o + (i + t)) < 256) → chainA off hi f o fin m i = fin
  | 0, i, _ => rfl
  | m + 1, i, h => by
    obtain ⟨h1, h2, h3⟩ := h 0 (by omega)
    simp only [Nat.add_zero] at h1 h2 h3
    obtain ⟨b1, b2, _⟩ := byte_fact h3
    simp only [chainA]
    rw [b1, b2, Nat.ble_eq_true_of_le h1, Nat.ble_eq_true_of_le h2]
    simp only [Bool.and_self, cond_true]
    exact chainA_ok m (i + 1) (fun t ht => by
      have := h (t + 1) (by omega)
      rwa [show i + (t + 1) = i + 1 + t by omega] at this)
theorem rd_ok {off len hi i : Nat} {x : Option V} (h1 : i < len) (h2 : off + i + 1 ≤ hi) : rd off len hi i x = x := by
  unfold rd
  rw [inR_ok h1, Nat.ble_eq_true_of_le (show off ≤ off + i by omega), Nat.ble_eq_true_of_le h2]
  rfl
theorem chainB_ok {off len hi : Nat} {f : Nat → Int} {l : Int} : ∀ (m i : Nat) (s : ByteArray), (∀ t, t < m → i + t < len ∧ off + (i + t) + 1 ≤ hi ∧ 0 ≤ f (off + (i + t)) ∧ f (off + (i + t)) < 256) →
    chainB off len hi f true l m i s = some (.tup [.str (wrd (fun j => f (off + j)) m i s), .int .i64 l])
  | 0, i, s, _ => rfl
  | m + 1, i, s, h => by
    obtain ⟨h1, h2, h3⟩ := h 0 (by omega)
    simp only [Nat.add_zero] at h1 h2 h3
    obtain ⟨_, _, b1, b2, b3, b4, b5, b6⟩ := byte_fact h3
    simp only [chainB, wrd]
    rw [rd_ok h1 h2, rd_ok h1 h2, rd_ok h1 h2, rd_ok h1 h2, b1, b2, b3, b4, b5, b6]
    simp only [cond_true]
    exact chainB_ok m (i + 1) _ (fun t ht => by
      have := h (t + 1) (by omega)
      rwa [show i + (t + 1) = i + 1 + t by omega] at this)

theorem rowA_val {n l off len cap hi : Nat} {f : Nat → Int} (hlen : len ≤ cap) (hhi : off + len ≤ hi) (hb : ∀ j, j < len → 0 ≤ f (off + j) ∧ f (off + j) < 256) (hl : 1 ≤ l)
    (hln : ln (by8 (f off)) = (l : Int)) (hnm : (nm (by8 (f off))).size = n) : rowA n l off len cap hi f = some (textV len (fun j => f (off + j))) := by
  unfold rowA textV txS txN e0
  by_cases h0 : len = 0
  · subst h0; rfl
  · have hb0 := hb 0 (by omega)
    simp only [Nat.add_zero] at hb0 ⊢
    simp only [wr_byte hb0, hln, hnm]
    have e1 : ((len : Int) == 0) = false := by simp; omega
    have e2 : inR 0 len = true := inR_ok (i := 0) (by omega)
    have e3 : Nat.beq len 0 = false := by cases hq : Nat.beq len 0 with | false => rfl | true => exact absurd (Nat.eq_of_beq_eq_true hq) h0
    rw [e1, e2, e3, Nat.ble_eq_true_of_le (Nat.le_refl off), Nat.ble_eq_true_of_le (show off + 1 ≤ hi by omega)]
    simp only [Bool.and_self, cond_true, cond_false, beq_self_eq_true, Nat.beq_refl]
    by_cases hs : (len : Int) < (l : Int)
    · simp only [decide_eq_true hs, cond_true]
    · simp only [decide_eq_false hs, decide_eq_true (show (1 : Int) ≤ (l : Int) by omega), decide_eq_true (show (l : Int) ≤ (cap : Int) by omega), Bool.and_self, cond_true, cond_false, Int.toNat_natCast]
      have ho : l - 1 = 0 ∨ o1 off cap = off + 1 := by
        by_cases hc : cap = 1
        · left; omega
        · right
          unfold o1
          cases hq : Nat.beq cap 1 with
          | false => rfl
          | true => exact absurd (Nat.eq_of_beq_eq_true hq) hc
      have hge : ∀ t, t < l - 1 → o1 off cap = off + 1 := fun t ht => by
        rcases ho with h | h
        · omega
        · exact h
      rw [chainA_ok (l - 1) 0 (fun t ht => by
        rw [hge t ht]
        have := hb (1 + t) (by omega)
        rw [show off + (1 + t) = off + 1 + (0 + t) by omega] at this
        exact ⟨by omega, by omega, this⟩)]
      have hname : strOf n (byteAt (nm (by8 (f off)))) = nm (by8 (f off)) := by rw [← hnm]; exact strOf_byteAt _
      rw [hname]
      have key := wrd_strOf (fun j => f (off + j)) (gA (nm (by8 (f off))) n f (o1 off cap)) (l - 1) 1 n (fun t ht => by
        have q : ∀ c, c < 3 → Nat.ble (n + 3 * t + c + 1) n = false ∧ n + 3 * t + c - n = 3 * t + c ∧ (3 * t + c) % 3 = c ∧ (3 * t + c) / 3 = t := fun c hc => by
          refine ⟨?_, by omega, by omega, by omega⟩
          cases hq : Nat.ble (n + 3 * t + c + 1) n with
          | false => rfl
          | true => exact absurd (Nat.le_of_ble_eq_true hq) (by omega)
        have q0 := q 0 (by omega); have q1 := q 1 (by omega); have q2 := q 2 (by omega)
        simp only [Nat.add_zero] at q0
        refine ⟨?_, ?_, ?_⟩
        · unfold gA; rw [q0.1, q0.2.1]; simp
        · unfold gA; rw [q1.1, q1.2.1, q1.2.2.1, q1.2.2.2, hge t ht]; simp only [Nat.add_assoc]; rfl
        · unfold gA; rw [q2.1, q2.2.1, q2.2.2.1, q2.2.2.2, hge t ht]; simp only [Nat.add_assoc]; rfl)
      rw [← key]
      have hst : strOf n (gA (nm (by8 (f off))) n f (o1 off cap)) = nm (by8 (f off)) := by
        rw [← hname]
        refine strOf_congr fun j hj => ?_
        unfold gA
        rw [Nat.ble_eq_true_of_le (show j + 1 ≤ n by omega), hname]; rfl
      rw [hst]
theorem rowB_val {n l off len hi : Nat} {f : Nat → Int} (hhi : off + len ≤ hi) (hb : ∀ j, j < len → 0 ≤ f (off + j) ∧ f (off + j) < 256) (hl : 1 ≤ l)
    (hln : ln (by8 (f off)) = (l : Int)) (hnm : (nm (by8 (f off))).size = n) : rowB n l off len hi f = some (textV len (fun j => f (off + j))) := by
  unfold rowB textV txS txN e0
  by_cases h0 : len = 0
  · subst h0; rfl
  · have hb0 := hb 0 (by omega)
    simp only [Nat.add_zero] at hb0 ⊢
    simp only [wr_byte hb0, hln, hnm]
    have e1 : ((len : Int) == 0) = false := by simp; omega
    have e2 : inR 0 len = true := inR_ok (i := 0) (by omega)
    have e3 : Nat.beq len 0 = false := by cases hq : Nat.beq len 0 with | false => rfl | true => exact absurd (Nat.eq_of_beq_eq_true hq) h0
    rw [e1, e2, e3, Nat.ble_eq_true_of_le (Nat.le_refl off), Nat.ble_eq_true_of_le (show off + 1 ≤ hi by omega)]
    simp only [Bool.and_self, cond_true, cond_false, beq_self_eq_true, Nat.beq_refl]
    by_cases hs : (len : Int) < (l : Int)
    · simp only [decide_eq_true hs, cond_true]
    · simp only [decide_eq_false hs, cond_false, Int.toNat_natCast]
      have hname : strOf n (byteAt (nm (by8 (f off)))) = nm (by8 (f off)) := by rw [← hnm]; exact strOf_byteAt _
      rw [hname, chainB_ok (l - 1) 1 _ (fun t ht => ⟨by omega, by omega, hb (1 + t) (by omega)⟩)]

theorem evA_val {off len cap hi : Nat} {f : Nat → Int} (hlen : len ≤ cap) (hhi : off + len ≤ hi) (hb : ∀ j, j < len → 0 ≤ f (off + j) ∧ f (off + j) < 256) : ∃ n l, evA n l off len cap hi f = some (textV len (fun j => f (off + j))) := by
  rcases kind _ (by8_lt (f off)) with ⟨hn, h | h | h | h | h⟩ | ⟨hn, h | h⟩
  · exact ⟨3, 1, (evA31 ..).trans (rowA_val hlen hhi hb (by omega) h hn)⟩
  · exact ⟨3, 2, (evA32 ..).trans (rowA_val hlen hhi hb (by omega) h hn)⟩
  · exact ⟨3, 3, (evA33 ..).trans (rowA_val hlen hhi hb (by omega) h hn)⟩
  · exact ⟨3, 4, (evA34 ..).trans (rowA_val hlen hhi hb (by omega) h hn)⟩
  · exact ⟨3, 7, (evA37 ..).trans (rowA_val hlen hhi hb (by omega) h hn)⟩
  · exact ⟨4, 2, (evA42 ..).trans (rowA_val hlen hhi hb (by omega) h hn)⟩
  · exact ⟨4, 3, (evA43 ..).trans (rowA_val hlen hhi hb (by omega) h hn)⟩
theorem evB_val {off len cap hi : Nat} {f : Nat → Int} (hhi : off + len ≤ hi) (hb : ∀ j, j < len → 0 ≤ f (off + j) ∧ f (off + j) < 256) : ∃ n l, evB n l off len cap hi f = some (textV len (fun j => f (off + j))) := by
  rcases kind _ (by8_lt (f off)) with ⟨hn, h | h | h | h | h⟩ | ⟨hn, h | h⟩
  · exact ⟨3, 1, (evB31 ..).trans (rowB_val hhi hb (by omega) h hn)⟩
  · exact ⟨3, 2, (evB32 ..).trans (rowB_val hhi hb (by omega) h hn)⟩
  · exact ⟨3, 3, (evB33 ..).trans (rowB_val hhi hb (by omega) h hn)⟩
  · exact ⟨3, 4, (evB34 ..).trans (rowB_val hhi hb (by omega) h hn)⟩
  · exact ⟨3, 7, (evB37 ..).trans (rowB_val hhi hb (by omega) h hn)⟩
  · exact ⟨4, 2, (evB42 ..).trans (rowB_val hhi hb (by omega) h hn)⟩
  · exact ⟨4, 3, (evB43 ..).trans (rowB_val hhi hb (by omega) h hn)⟩
theorem nilA : evCallH Try.prog [] [] 300 9 [.nilsl] [] (fun v _ => some v) = e0 := by kernel_rfl
theorem nilB : evCallH Try.prog [] [] 300 10 [.nilsl] [] (fun v _ => some v) = e0 := by kernel_rfl
def sText : Summ Try.prog := mkBytes 9 (fun len g => some (allB len g, textV len g)) (by
    intro g v h
    simp only [Option.some.injEq, Prod.mk.injEq] at h
    obtain ⟨_, rfl⟩ := h
    refine ⟨rfl, fun B ρ w hr => ?_⟩
    exact evCallH_sound hN hM (show evCallH Try.prog [] [] 300 9 [.nilsl] [] (fun v _ => some v) = some (textV 0 g) from nilA) hr rfl) (by
    intro off len cap hi f v h hlen hhi
    simp only [Option.some.injEq, Prod.mk.injEq] at h
    obtain ⟨h1, rfl⟩ := h
    refine ⟨rfl, fun B ρ w hr => ?_⟩
    obtain ⟨n, l, he⟩ := evA_val hlen hhi ((allB_iff _ _).1 h1)
    exact evCallH_sound hN hM he hr rfl)
def sRText : Summ Try.prog := mkBytes 10 (fun len g => some (allB len g, textV len g)) (by
    intro g v h
    simp only [Option.some.injEq, Prod.mk.injEq] at h
    obtain ⟨_, rfl⟩ := h
    refine ⟨rfl, fun B ρ w hr => ?_⟩
    exact evCallH_sound hN hM (show evCallH Try.prog [] [] 300 10 [.nilsl] [] (fun v _ => some v) = some (textV 0 g) from nilB) hr rfl) (by
    intro off len cap hi f v h hlen hhi
    simp only [Option.some.injEq, Prod.mk.injEq] at h
    obtain ⟨h1, rfl⟩ := h
    refine ⟨rfl, fun B ρ w hr => ?_⟩
    obtain ⟨n, l, he⟩ := evB_val (cap := cap) hhi ((allB_iff _ _).1 h1)
    exact evCallH_sound hN hM he hr rfl)
end Go.Proofs.Ytnemecmloeonjaa

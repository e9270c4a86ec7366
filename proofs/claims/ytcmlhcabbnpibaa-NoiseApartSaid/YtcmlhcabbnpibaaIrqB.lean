import Derived.Test.YtcmlhcabbnpibaaIrqA
set_option linter.unusedVariables false
set_option linter.unusedSimpArgs false
namespace Go.Proofs.Ytcmlhcabbnpibaa
open Go Go.R

theorem mod_tells {n m : Int} (h0 : 0 < m) (h1 : m < 4611686018427387904) : evCall Try.prog [] 100 40 [.int .i64 n, .int .i64 m] [] (fun v _ => some v) = some (.int .i64 (n % m)) := by
  rw [mod_ev]
  have hm : (!m == 0) = true := by
    have : (m == 0) = false := beq_eq_false_iff_ne.2 (by omega)
    rw [this]; rfl
  rw [hm, cond_true]
  have e0 := Int.emod_nonneg n (show m ≠ 0 by omega)
  have e1 := Int.emod_lt_of_pos n h0
  have ht : n.tmod m = if 0 ≤ n ∨ m ∣ n then n % m else n % m - m := by
    rw [Int.tmod_eq_emod]
    split <;> omega
  by_cases h : 0 ≤ n ∨ m ∣ n
  · rw [if_pos h] at ht
    have : decide (n.tmod m < 0) = false := by rw [ht]; simp; omega
    rw [this, cond_false, ht]
  · rw [if_neg h] at ht
    have : decide (n.tmod m < 0) = true := by rw [ht]; simp; omega
    rw [this, cond_true, ht, wrap_id (by omega) (by omega)]
    congr 3; omega
def sMod : Summ Try.prog := mkPure [] hN hM 40 100 (fun args => match args with | [.int .i64 n, .int .i64 m] => some (decide (0 < m) && decide (m < 4611686018427387904), .int .i64 (n % m)) | _ => none) (by
  intro args v h
  split at h
  · rename_i n m
    simp only [Option.some.injEq, Prod.mk.injEq, Bool.and_eq_true, decide_eq_true_eq] at h
    obtain ⟨hc, rfl⟩ := h
    exact ⟨rfl, rfl, [], mod_tells hc.1 hc.2⟩
  · cases h)

/-- the interrupt that is taken: by the flag I, and the lines' and the masks' bits, the first line first -/
def pickN (i l4 m4 l2 m2 l1 m1 : Bool) : Int := cond i 0 (cond (l4 && !m4) 65530 (cond (l2 && !m2) 65528 (cond (l1 && !m1) 65526 0)))
def pickB (i l4 m4 l2 m2 l1 m1 : Bool) : Bool := !i && (l4 && !m4 || l2 && !m2 || l1 && !m1)
def pickV (m l p : Int) : V := .tup [.int .i64 (pickN (bt 4 p) (bt 4 l) (bt 4 m) (bt 2 l) (bt 2 m) (bt 1 l) (bt 1 m)), .bool (pickB (bt 4 p) (bt 4 l) (bt 4 m) (bt 2 l) (bt 2 m) (bt 1 l) (bt 1 m))]
theorem pick_eq (s : Nat → Int) (p : Int) : evCall Try.prog [] 100 22 [.aggi .i64 2 s, .int .i64 p] [] (fun v _ => some v) = some (pickV (s 0) (s 1) p) := by
  rw [pick_ev]
  simp only [bt1, bt2, bt4, pickV]
  generalize bt 4 p = b1, bt 4 (s 1) = b2, bt 4 (s 0) = b3, bt 2 (s 1) = b4, bt 2 (s 0) = b5, bt 1 (s 1) = b6, bt 1 (s 0) = b7
  cases b1 <;> cases b2 <;> cases b3 <;> cases b4 <;> cases b5 <;> cases b6 <;> cases b7 <;> rfl
def sPick : Summ Try.prog := mkPure [] hN hM 22 100 (fun args => match args with | [.aggi .i64 2 s, .int .i64 p] => some (true, pickV (s 0) (s 1) p) | _ => none) (by
  intro args v h
  split at h
  · simp only [Option.some.injEq, Prod.mk.injEq, true_and] at h; subst h
    exact ⟨rfl, rfl, [], pick_eq _ _⟩
  · cases h)
/-- the lines behind one that is raised, or not -/
def raiseL (l n : Int) (on : Bool) : Int := cond on (bitI .or .i64 (l % 8) (n % 8)) (bitI .andNot .i64 (l % 8) n)
def sRaise : Summ Try.prog := mkPure [] hN hM 23 100 (fun args => match args with | [.aggi .i64 2 s, .int .i64 n, .bool on] => some (true, .agg [.int .i64 (s 0 % 8), .int .i64 (raiseL (s 1) n on)]) | _ => none) (by
  intro args v h
  split at h
  · rename_i s n on
    simp only [Option.some.injEq, Prod.mk.injEq, true_and] at h; subst h
    refine ⟨rfl, rfl, [], ?_⟩
    refine (raise_ev s n on).trans ?_
    simp only [and_m3, raiseL]
    cases on <;> rfl
  · cases h)
def writeM (m n b : Int) : Int := if n = 2 then b % 8 else if n = 3 then m % 8 else m
def writeL (l n : Int) : Int := if n = 2 then l % 8 else if n = 3 then l % 4 else l
theorem andNot4 (l : Int) : bitI .andNot .i64 l 4 % 8 = l % 4 := by
  have h := andNot_mod (k := 3) (by decide) l 4
  have h4 : ∀ x : Fin 8, x.val ^^^ (x.val &&& 4) = x.val % 4 := by decide
  have h5 := h4 ⟨(l % 8).toNat, by omega⟩
  simp only at h5
  have e : ((4 : Int) % ((2 ^ 3 : Nat) : Int)).toNat = 4 := rfl
  have e8 : ((2 ^ 3 : Nat) : Int) = 8 := rfl
  rw [e, e8] at h
  rw [h, h5]
  omega
def sWrite : Summ Try.prog := mkPure [] hN hM 24 100 (fun args => match args with | [.aggi .i64 2 s, .int .i64 n, .int .i64 b] => some (true, .agg [.int .i64 (writeM (s 0) n b), .int .i64 (writeL (s 1) n)]) | _ => none) (by
  intro args v h
  split at h
  · rename_i s n b
    simp only [Option.some.injEq, Prod.mk.injEq, true_and] at h; subst h
    refine ⟨rfl, rfl, [], ?_⟩
    refine (write_ev s n b).trans ?_
    simp only [and_m3, andNot4, writeM, writeL]
    by_cases h2 : n = 2
    · have : (n == 2) = true := by simpa using h2
      rw [this, cond_true, if_pos h2, if_pos h2]
    · have : (n == 2) = false := by simpa using h2
      rw [this, cond_false, if_neg h2, if_neg h2]
      by_cases h3 : n = 3
      · have : (n == 3) = true := by simpa using h3
        rw [this, cond_true, if_pos h3, if_pos h3]
      · have : (n == 3) = false := by simpa using h3
        rw [this, cond_false, if_neg h3, if_neg h3]
  · cases h)
def readN (m l n : Int) : Int := if n = 2 then m % 8 else if n = 3 then l % 8 else 0
def sRead : Summ Try.prog := mkPure [] hN hM 25 100 (fun args => match args with | [.aggi .i64 2 s, .int .i64 n] => some (true, .int .i64 (readN (s 0) (s 1) n)) | _ => none) (by
  intro args v h
  split at h
  · rename_i s n
    simp only [Option.some.injEq, Prod.mk.injEq, true_and] at h; subst h
    refine ⟨rfl, rfl, [], ?_⟩
    refine (read_ev s n).trans ?_
    simp only [and_m3, readN]
    by_cases h2 : n = 2
    · have : (n == 2) = true := by simpa using h2
      rw [this, cond_true, if_pos h2]
    · have : (n == 2) = false := by simpa using h2
      rw [this, cond_false, if_neg h2]
      by_cases h3 : n = 3
      · have : (n == 3) = true := by simpa using h3
        rw [this, cond_true, if_pos h3]
      · have : (n == 3) = false := by simpa using h3
        rw [this, cond_false, if_neg h3]
  · cases h)
end Go.Proofs.Ytcmlhcabbnpibaa

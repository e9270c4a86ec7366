/-
  The numbers of pages that cards have: both sides' Class.
-/
import Derived.Test.YtabfnphbbdklgaaDoorDm
set_option linter.unusedVariables false
set_option linter.unusedSimpArgs false
namespace Go.Proofs.YtabfnphbbdklgaaDoor
open Go Go.R
def kd (p : Int) : Int := bif p == 48 then 1 else bif p == 96 then 1 else bif p == 320 then 2 else 0
def isC (p : Int) : Bool := p == 1 || p == 2 || p == 4 || p == 8 || p == 16 || p == 32 || p == 64 || p == 128 || p == 48 || p == 96 || p == 320
theorem beqc (a b : Int) : (a == b) = (b == a) := by
  cases h : b == a with
  | true => have := eq_of_beq h; subst this; exact h
  | false =>
    rw [beq_eq_false_iff_ne] at h ⊢
    exact fun e => h e.symm
theorem cl_val (p : Int) : evCall Tryd.prog [] 100 9 [.int .i64 p] [] (fun v _ => some v) = some (.tup [.int .i64 (kd p), .bool (isC p)]) := by
  rw [cl_ev]
  by_cases h1 : p = 1; · subst h1; rfl
  by_cases h2 : p = 2; · subst h2; rfl
  by_cases h4 : p = 4; · subst h4; rfl
  by_cases h8 : p = 8; · subst h8; rfl
  by_cases h16 : p = 16; · subst h16; rfl
  by_cases h32 : p = 32; · subst h32; rfl
  by_cases h64 : p = 64; · subst h64; rfl
  by_cases h128 : p = 128; · subst h128; rfl
  by_cases h48 : p = 48; · subst h48; rfl
  by_cases h96 : p = 96; · subst h96; rfl
  by_cases h320 : p = 320; · subst h320; rfl
  unfold kd isC
  simp only [beqc _ p, beq_eq_false_iff_ne.2 h1, beq_eq_false_iff_ne.2 h2, beq_eq_false_iff_ne.2 h4, beq_eq_false_iff_ne.2 h8, beq_eq_false_iff_ne.2 h16, beq_eq_false_iff_ne.2 h32, beq_eq_false_iff_ne.2 h64, beq_eq_false_iff_ne.2 h128, beq_eq_false_iff_ne.2 h48, beq_eq_false_iff_ne.2 h96, beq_eq_false_iff_ne.2 h320]
  rfl
theorem rc_val (p : Int) : evCall Tryd.prog [] 100 10 [.int .i64 p] [] (fun v _ => some v) = some (.tup [.int .i64 (kd p), .bool (isC p)]) := by
  rw [rc_ev]
  by_cases h1 : p = 1; · subst h1; rfl
  by_cases h2 : p = 2; · subst h2; rfl
  by_cases h4 : p = 4; · subst h4; rfl
  by_cases h8 : p = 8; · subst h8; rfl
  by_cases h16 : p = 16; · subst h16; rfl
  by_cases h32 : p = 32; · subst h32; rfl
  by_cases h64 : p = 64; · subst h64; rfl
  by_cases h128 : p = 128; · subst h128; rfl
  by_cases h48 : p = 48; · subst h48; rfl
  by_cases h96 : p = 96; · subst h96; rfl
  by_cases h320 : p = 320; · subst h320; rfl
  unfold kd isC
  simp only [beq_eq_false_iff_ne.2 h1, beq_eq_false_iff_ne.2 h2, beq_eq_false_iff_ne.2 h4, beq_eq_false_iff_ne.2 h8, beq_eq_false_iff_ne.2 h16, beq_eq_false_iff_ne.2 h32, beq_eq_false_iff_ne.2 h64, beq_eq_false_iff_ne.2 h128, beq_eq_false_iff_ne.2 h48, beq_eq_false_iff_ne.2 h96, beq_eq_false_iff_ne.2 h320]
  rfl
def clF : List V → Option (Bool × V)
  | [.int .i64 p] => some (true, .tup [.int .i64 (kd p), .bool (isC p)])
  | _ => none
def sClass : Summ Tryd.prog := mkPure [] hN hM 9 100 clF (by
  intro args v h
  unfold clF at h
  split at h
  · simp only [Option.some.injEq, Prod.mk.injEq, true_and] at h; subst h
    exact ⟨rfl, rfl, [], cl_val _⟩
  · cases h)
def sRClass : Summ Tryd.prog := mkPure [] hN hM 10 100 clF (by
  intro args v h
  unfold clF at h
  split at h
  · simp only [Option.some.injEq, Prod.mk.injEq, true_and] at h; subst h
    exact ⟨rfl, rfl, [], rc_val _⟩
  · cases h)
end Go.Proofs.YtabfnphbbdklgaaDoor

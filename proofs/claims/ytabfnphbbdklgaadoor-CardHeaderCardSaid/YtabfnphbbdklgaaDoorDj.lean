/-
  errors.As: its summary, for a nil error, and for an error of the target's own type.
-/
import Derived.Test.YtabfnphbbdklgaaDoorDi
set_option linter.unusedVariables false
set_option linter.unusedSimpArgs false
namespace Go.Proofs.YtabfnphbbdklgaaDoor
open Go Go.R Go.RowKit
def isErrT : Value → Bool
  | .iface t (.agg a) => Nat.beq t 68 && (match a.toList with | [.pointer (some ⟨b, o, none⟩)] => Nat.beq b 1 && Nat.beq o 43 | _ => false)
  | _ => false
theorem isErrT_spec {v : Value} (h : isErrT v = true) : v = errT := by
  unfold isErrT at h
  split at h
  · rename_i t a
    simp only [Bool.and_eq_true] at h
    obtain ⟨h1, h2⟩ := h
    have := Nat.eq_of_beq_eq_true h1; subst this
    split at h2
    · rename_i b o ha
      simp only [Bool.and_eq_true] at h2
      have h3 := Nat.eq_of_beq_eq_true h2.1; have h4 := Nat.eq_of_beq_eq_true h2.2
      subst h3; subst h4
      have : a = #[.pointer (some ⟨1, 43, none⟩)] := by apply Array.ext'; simpa using ha
      subst this; rfl
    · cases h2
  · cases h
theorem asW_keeps (w : World) (b : Nat) (k : IntKind) (n : Int) (ht : b < w.heap.size) (c : Array Value) (e : TypeId) (fr : Nat × Nat) (hc : w.heap[b]? = some (.cells c e fr)) :
    Keeps (fun a => a = b) w (asW w ⟨b, 0, none⟩ k n) ∧ (asW w ⟨b, 0, none⟩ k n).heap[b]? = some (.cells (c.setIfInBounds 0 (.int k n)) e fr) := by
  have hp : ∀ (a : Array Obj) (o : Obj) (i : Nat), i < a.size → (a.push o)[i]? = a[i]? := fun a o i hh => by rw [Array.getElem?_push, if_neg (by omega)]
  have hs : (asW w ⟨b, 0, none⟩ k n).heap.size = w.heap.size + 4 := by
    unfold asW World.setCell World.alloc
    simp only [Array.size_modify, Array.size_push]
  have hget : ∀ i, i < w.heap.size → (asW w ⟨b, 0, none⟩ k n).heap[i]? = if b = i then some (.cells (c.setIfInBounds 0 (.int k n)) e fr) else w.heap[i]? := by
    intro i hi
    unfold asW World.setCell World.alloc
    simp only [Array.getElem?_modify]
    rw [hp _ _ _ (by simp only [Array.size_push]; omega), hp _ _ _ (by simp only [Array.size_push]; omega), hp _ _ _ (by simp only [Array.size_push]; omega), hp _ _ _ hi]
    by_cases h : b = i
    · subst h
      rw [if_pos rfl, if_pos rfl, hc]
      rfl
    · rw [if_neg h, if_neg h]
  refine ⟨⟨rfl, rfl, rfl, by omega, fun i hi hn => ?_⟩, ?_⟩
  · rw [hget i hi, if_neg (fun e => hn e.symm)]
  · rw [hget _ ht, if_pos rfl]
def sAsH : Summ Tryd.prog where
  k := 16
  pure := false
  f := fun args σ =>
    match args with
    | [.nilif, _] => some (true, .bool false, σ)
    | [.ifc s (.agg [.int k n]), .ifc s' (.ptr t 0)] =>
      match (σ[(0 : Nat)]? : Option Blk), (σ[t]? : Option Blk) with
      | some (.glob ga g), some (.cells e [old]) => some (Nat.beq s 41 && (Nat.beq s' 46 && (Nat.beq ga 0 && isErrT g)), .bool true, σ.set t (.cells e [.int k n]))
      | _, _ => none
    | _ => none
  touch := fun args => match args with | [_, .ifc _ (.ptr t _)] => [t] | _ => []
  keep := by
    intro args σ v σ' hf b hb hnb
    split at hf
    · simp only [Option.some.injEq, Prod.mk.injEq] at hf; obtain ⟨_, _, rfl⟩ := hf; rfl
    · rename_i s k n s' t
      split at hf
      · simp only [Option.some.injEq, Prod.mk.injEq] at hf; obtain ⟨_, _, rfl⟩ := hf
        rw [List.getElem?_set_ne]
        rintro rfl
        simp at hnb
      · cases hf
    · cases hf
  ok := by
    intro args σ v σ' hf hs
    split at hf
    · rename_i t
      simp only [Option.some.injEq, Prod.mk.injEq, true_and] at hf
      obtain ⟨rfl, rfl⟩ := hf
      refine ⟨Nat.le_refl _, rfl, fun h => (by cases h), fun B ρ w hr _ => ?_⟩
      have := as_nil (t.real ρ) w
      refine this.mono ?_
      rintro e w' ⟨rfl, rfl⟩
      exact ⟨ρ, fun _ _ => rfl, rfl, hr⟩
    · rename_i s k n s' t
      split at hf
      · rename_i ga g e old hg ht
        simp only [Option.some.injEq, Prod.mk.injEq, Bool.and_eq_true] at hf
        obtain ⟨⟨h1, h2, h4, h3⟩, rfl, rfl⟩ := hf
        have h1 := Nat.eq_of_beq_eq_true h1; have h2 := Nat.eq_of_beq_eq_true h2; have h4 := Nat.eq_of_beq_eq_true h4; have h3 := isErrT_spec h3
        subst h1; subst h2; subst h3; subst h4
        refine ⟨by simp, rfl, fun h => by (cases h), fun B ρ w hr _ => ?_⟩
        obtain ⟨ge, c, e0, fr0, g1, g2⟩ := hr.at_ 0 _ hg
        obtain ⟨fr, q1, q2⟩ := hr.at_ t _ ht
        have hlt := hr.lt t _ ht rfl
        have hcell : w.cell? ⟨(ρ t).1, 0, none⟩ = some (old.real ρ) := by simp only [World.cell?, q1, reals]; rfl
        have hgl : w.cell? ⟨0, 0, none⟩ = some errT := by
          rw [ge] at g1
          simp only [World.cell?, g1]
          exact g2
        have hfr : w.frozen? ⟨(ρ t).1, 0, none⟩ = false := by
          have := q2 0 (by simp)
          obtain ⟨lo, hi⟩ := fr
          simp only [World.frozen?, q1]
          simpa using this
        have := as_hit k n ⟨(ρ t).1, 0, none⟩ (old.real ρ) w hgl hcell hfr
        refine Calls.mono (show Calls Tryd.prog 16 (reals ρ [V.ifc 41 (.agg [.int k n]), .ifc 46 (.ptr t 0)]).toArray w _ from this) ?_
        rintro ev w' ⟨rfl, rfl⟩
        obtain ⟨k1, k2⟩ := asW_keeps w (ρ t).1 k n hlt _ _ _ q1
        refine ⟨ρ, fun _ _ => rfl, rfl, hr.turn ht rfl rfl ?_ k1 ⟨fr, k2, q2⟩⟩
        rfl
      · cases hf
    · cases hf
end Go.Proofs.YtabfnphbbdklgaaDoor

/-
  The law IrqTells, whatever the input: it answers true, and each argument reads as it did. No condition.
-/
import Derived.Test.YtcmlhcabbnpibaaRows
import Derived.Test.YtcmlhcabbnpibaaIrqJ
namespace Go.Proofs.Ytcmlhcabbnpibaa.irqTells
open Go Go.R Go.RowKit Go.ChangeShapes Go.WideShapes Go.ChangeAt
theorem walk (W : World) (base : Nat) (args : Array Value) {H : Type} (enc : TypeId × Value → H) (ds : List (DataW H)) (ps : List MemPlace) (hval : ∀ (j : Nat) t v, Try.f10.params[j]? = some t → args[j]? = some v → Value.okWide Try.prog W .any base t v)
    (hA : DataW.TrodAll enc Try.prog W 0 (fun _ => true) true Try.f10.params.toList args.toList ds ps) : Calls Try.prog 10 args W fun e W' => e = .returned (.bool true) ∧ Below W.heap.size W W' := by
  rw [Try.params10] at hA hval
  obtain ⟨v0, vs0, d0, ds0, p0, q0, hargs, rfl, rfl, _, r0⟩ := trodAll_cons hA
  obtain ⟨v1, vs1, d1, ds1, p1, q1, rfl, rfl, rfl, _, r1⟩ := trodAll_cons r0
  obtain ⟨v2, vs2, d2, ds2, p2, q2, rfl, rfl, rfl, _, r2⟩ := trodAll_cons r1
  obtain ⟨rfl, rfl, rfl⟩ := trodAll_nil r2
  obtain rfl : args = #[v0, v1, v2] := by cases args; simp_all
  obtain ⟨a0, e0, w0⟩ := okWide_flat (P := Try.prog) (k := .i64) (n := 2) (by kernel_rfl) (hval 0 28 v0 rfl rfl)
  obtain rfl := e0 (fun _ => (0, 0))
  obtain ⟨a1, e1, w1⟩ := okWide_flat (P := Try.prog) (k := .i64) (n := 3) (by kernel_rfl) (hval 1 37 v1 rfl rfl)
  obtain rfl := e1 (fun _ => (0, 0))
  obtain ⟨a2, rfl⟩ := okWide_b (P := Try.prog) Try.underlying4 (hval 2 4 v2 rfl rfl)
  exact law_true hN hM (irqTells_ok a0 w0 a1 w1 a2) (args := [.aggi .i64 2 a0, .aggi .i64 3 a1, .bool a2]) (Rel.empty (fun _ => (0, 0)) W noS) rfl
theorem lifted (os : Os) (started : os.Started) (H : Type) (enc : TypeId × Value → H) :
    ReturnsInHanded {} Try.checked os 10 .any (Rows.irqTellsSpec.pre6 enc Try.prog Try.f10 Rows.irqTellsRow.domain false) (Rows.irqTellsSpec.post enc Try.prog Try.f10 false true false false) :=
  change_true (C := Try.checked) own started (by kernel_rfl) Try.func10
    (ChangeSpec.witness6 (enc := enc) (C := Try.checked) false ⟨#[], #[.agg #[.int .i64 0, .int .i64 0], .agg #[.int .i64 0, .int .i64 0, .int .i64 0], .bool false], []⟩ 8 (by kernel_rfl) (by kernel_rfl) (by kernel_rfl) (by kernel_rfl))
    (tb := 4) rfl Try.underlying4 rfl laid (by kernel_rfl) (fun ds h => by match ds, h with | [d0, d1, d2], _ => rfl)
    (fun W base args ds ps hval hA _ => walk W base args enc ds ps hval hA)
theorem over : Rows.irqTellsRow.holds Try.pinned (OpenSpec.ofChange Rows.irqTellsSpec) :=
  OpenClaim.holds_of_wide 10 Try.f10 rfl rfl rfl rfl rfl rfl rfl ⟨rfl, rfl, rfl, rfl, rfl⟩ rfl rfl rfl rfl rfl (by kernel_rfl) Try.func10 (by kernel_rfl)
    (of_decide_eq_true (by kernel_rfl)) (by unfold Func.isWrapper; first | (rw [if_pos (by decide +kernel)]; kernel_rfl) | (rw [if_neg (by decide +kernel)]; exact ⟨rfl, rfl⟩))
    (fun os started H enc _ => lifted os started H enc)
end Go.Proofs.Ytcmlhcabbnpibaa.irqTells
namespace Go.Proofs.Ytcmlhcabbnpibaa
theorem irqTells_holds : Rows.IrqTellsSaid := irqTells.over
#print axioms irqTells_holds
end Go.Proofs.Ytcmlhcabbnpibaa

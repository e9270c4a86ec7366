/-
  The law OpcodeBits, whatever the input: it answers true, and each argument reads as it did. No condition.
-/
import Derived.Test.YtnemecmloeonjaaRows
import Derived.Test.YtnemecmloeonjaaOc
namespace Go.Proofs.Ytnemecmloeonjaa.opcodeBits
open Go Go.R Go.RowKit Go.ChangeShapes Go.WideShapes Go.ChangeAt
theorem walk (W : World) (base : Nat) (args : Array Value) {H : Type} (enc : TypeId × Value → H) (ds : List (DataW H)) (ps : List MemPlace) (hval : ∀ (j : Nat) t v, Try.f3.params[j]? = some t → args[j]? = some v → Value.okWide Try.prog W .any base t v)
    (hA : DataW.TrodAll enc Try.prog W 0 (fun _ => true) true Try.f3.params.toList args.toList ds ps) : Calls Try.prog 3 args W fun e W' => e = .returned (.bool true) ∧ Below W.heap.size W W' := by
  rw [Try.params3] at hA hval
  obtain ⟨v0, vs0, d0, ds0, p0, q0, hargs, rfl, rfl, _, r0⟩ := trodAll_cons hA
  obtain ⟨rfl, rfl, rfl⟩ := trodAll_nil r0
  obtain rfl : args = #[v0] := by cases args; simp_all
  obtain ⟨a0, rfl, w0⟩ := okWide_i (P := Try.prog) Try.underlying3 (hval 0 3 v0 rfl rfl)
  exact law_true hN hM (opcodeBits_ok a0 w0) (args := [.int .i64 a0]) (Rel.empty (fun _ => (0, 0)) W noS) rfl
theorem lifted (os : Os) (started : os.Started) (H : Type) (enc : TypeId × Value → H) :
    ReturnsInHanded {} Try.checked os 3 .any (Rows.opcodeBitsSpec.pre6 enc Try.prog Try.f3 Rows.opcodeBitsRow.domain false) (Rows.opcodeBitsSpec.post enc Try.prog Try.f3 false true false false) :=
  change_true (C := Try.checked) own started (by kernel_rfl) Try.func3
    (ChangeSpec.witness6 (enc := enc) (C := Try.checked) false ⟨#[], #[.int .i64 0], []⟩ 8 (by kernel_rfl) (by kernel_rfl) (by kernel_rfl) (by kernel_rfl))
    (tb := 4) rfl Try.underlying4 rfl laid (by kernel_rfl) (fun ds h => by match ds, h with | [d0], _ => rfl)
    (fun W base args ds ps hval hA _ => walk W base args enc ds ps hval hA)
theorem over : Rows.opcodeBitsRow.holds Try.pinned (OpenSpec.ofChange Rows.opcodeBitsSpec) :=
  OpenClaim.holds_of_wide 3 Try.f3 rfl rfl rfl rfl rfl rfl rfl ⟨rfl, rfl, rfl, rfl, rfl⟩ rfl rfl rfl rfl rfl (by kernel_rfl) Try.func3 (by kernel_rfl)
    (of_decide_eq_true (by kernel_rfl)) (by unfold Func.isWrapper; first | (rw [if_pos (by decide +kernel)]; kernel_rfl) | (rw [if_neg (by decide +kernel)]; exact ⟨rfl, rfl⟩))
    (fun os started H enc _ => lifted os started H enc)
end Go.Proofs.Ytnemecmloeonjaa.opcodeBits
namespace Go.Proofs.Ytnemecmloeonjaa
theorem opcodeBits_holds : Rows.OpcodeBitsSaid := opcodeBits.over
#print axioms opcodeBits_holds
end Go.Proofs.Ytnemecmloeonjaa

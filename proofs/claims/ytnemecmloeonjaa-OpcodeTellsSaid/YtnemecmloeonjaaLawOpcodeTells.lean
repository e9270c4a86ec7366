/-
  The law OpcodeTells, whatever the input: it answers true, and each argument reads as it did. No condition.
-/
import Derived.Test.YtnemecmloeonjaaRows
import Derived.Test.YtnemecmloeonjaaOi
namespace Go.Proofs.Ytnemecmloeonjaa.opcodeTells
open Go Go.R Go.RowKit Go.ChangeShapes Go.WideShapes Go.ChangeAt
theorem walk (W : World) (base : Nat) (args : Array Value) {H : Type} (enc : TypeId × Value → H) (ds : List (DataW H)) (ps : List MemPlace) (hval : ∀ (j : Nat) t v, Try.f5.params[j]? = some t → args[j]? = some v → Value.okWide Try.prog W .any base t v)
    (hA : DataW.TrodAll enc Try.prog W 0 (fun _ => true) true Try.f5.params.toList args.toList ds ps) : Calls Try.prog 5 args W fun e W' => e = .returned (.bool true) ∧ Below W.heap.size W W' := by
  rw [Try.params5] at hA hval
  obtain ⟨v0, vs0, d0, ds0, p0, q0, hargs, rfl, rfl, t0, r0⟩ := trodAll_cons hA
  obtain ⟨v1, vs1, d1, ds1, p1, q1, rfl, rfl, rfl, t1, r1⟩ := trodAll_cons r0
  obtain ⟨rfl, rfl, rfl⟩ := trodAll_nil r1
  obtain rfl : args = #[v0, v1] := by cases args; simp_all
  obtain ⟨a0, rfl, w0⟩ := okWide_i (P := Try.prog) Try.underlying3 (hval 0 3 v0 rfl rfl)
  rcases okWide_bytes (P := Try.prog) Try.underlying28 Try.underlying5 (by kernel_rfl) (hval 1 28 v1 rfl rfl) t1 with rfl | ⟨b, off, len, cap, f, rfl, hl, hm, hb, hr⟩
  · have h := law_true hN hM (opcodeTells_nil a0 w0) (args := [.int .i64 a0, .nilsl]) (Rel.empty (fun _ => (0, 0)) W noS) rfl
    exact h
  · have h := law_true hN hM (opcodeTells_sl a0 w0 off len cap f hl hm hb) (args := [.int .i64 a0, .sl 0 off len cap]) hr rfl
    exact h
theorem lifted (os : Os) (started : os.Started) (H : Type) (enc : TypeId × Value → H) :
    ReturnsInHanded {} Try.checked os 5 .any (Rows.opcodeTellsSpec.pre6 enc Try.prog Try.f5 Rows.opcodeTellsRow.domain false) (Rows.opcodeTellsSpec.post enc Try.prog Try.f5 false true false false) :=
  change_true (C := Try.checked) own started (by kernel_rfl) Try.func5
    (ChangeSpec.witness6 (enc := enc) (C := Try.checked) false ⟨#[], #[.int .i64 0, .slice none 0 0], []⟩ 8 (by kernel_rfl) (by kernel_rfl) (by kernel_rfl) (by kernel_rfl))
    (tb := 4) rfl Try.underlying4 rfl laid (by kernel_rfl) (fun ds h => by match ds, h with | [d0, d1], _ => rfl)
    (fun W base args ds ps hval hA _ => walk W base args enc ds ps hval hA)
theorem over : Rows.opcodeTellsRow.holds Try.pinned (OpenSpec.ofChange Rows.opcodeTellsSpec) :=
  OpenClaim.holds_of_wide 5 Try.f5 rfl rfl rfl rfl rfl rfl rfl ⟨rfl, rfl, rfl, rfl, rfl⟩ rfl rfl rfl rfl rfl (by kernel_rfl) Try.func5 (by kernel_rfl)
    (of_decide_eq_true (by kernel_rfl)) (by unfold Func.isWrapper; first | (rw [if_pos (by decide +kernel)]; kernel_rfl) | (rw [if_neg (by decide +kernel)]; exact ⟨rfl, rfl⟩))
    (fun os started H enc _ => lifted os started H enc)
end Go.Proofs.Ytnemecmloeonjaa.opcodeTells
namespace Go.Proofs.Ytnemecmloeonjaa
theorem opcodeTells_holds : Rows.OpcodeTellsSaid := opcodeTells.over
#print axioms opcodeTells_holds
end Go.Proofs.Ytnemecmloeonjaa

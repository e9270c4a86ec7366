/-
  The law OpcodeReads, whatever the input: it answers true, and each argument reads as it did. No condition.
-/
import Derived.Test.YtnemecmloeonjaaRows
import Derived.Test.YtnemecmloeonjaaOn
namespace Go.Proofs.Ytnemecmloeonjaa.opcodeReads
open Go Go.R Go.RowKit Go.ChangeShapes Go.WideShapes Go.ChangeAt
theorem walk (W : World) (base : Nat) (args : Array Value) {H : Type} (enc : TypeId × Value → H) (ds : List (DataW H)) (ps : List MemPlace) (hval : ∀ (j : Nat) t v, Try.f7.params[j]? = some t → args[j]? = some v → Value.okWide Try.prog W .any base t v)
    (hA : DataW.TrodAll enc Try.prog W 0 (fun _ => true) true Try.f7.params.toList args.toList ds ps) : Calls Try.prog 7 args W fun e W' => e = .returned (.bool true) ∧ Below W.heap.size W W' := by
  rw [Try.params7] at hA hval
  obtain ⟨v0, vs0, d0, ds0, p0, q0, hargs, rfl, rfl, t0, r0⟩ := trodAll_cons hA
  obtain ⟨rfl, rfl, rfl⟩ := trodAll_nil r0
  obtain rfl : args = #[v0] := by cases args; simp_all

  rcases okWide_bytes (P := Try.prog) Try.underlying28 Try.underlying5 (by kernel_rfl) (hval 0 28 v0 rfl rfl) t0 with rfl | ⟨b, off, len, cap, f, rfl, hl, hm, hb, hr⟩
  · have h := law_trueM (opcodeReads_nil_calls ) (args := [.nilsl]) (Rel.empty (fun _ => (0, 0)) W noS)
    exact h
  · have h := law_trueM (opcodeReads_sl_calls  off len cap f hl hm hb) (args := [.sl 0 off len cap]) hr
    exact h
theorem lifted (os : Os) (started : os.Started) (H : Type) (enc : TypeId × Value → H) :
    ReturnsInHanded {} Try.checked os 7 .any (Rows.opcodeReadsSpec.pre6 enc Try.prog Try.f7 Rows.opcodeReadsRow.domain false) (Rows.opcodeReadsSpec.post enc Try.prog Try.f7 false true false false) :=
  change_true (C := Try.checked) own started (by kernel_rfl) Try.func7
    (ChangeSpec.witness6 (enc := enc) (C := Try.checked) false ⟨#[], #[.slice none 0 0], []⟩ 8 (by kernel_rfl) (by kernel_rfl) (by kernel_rfl) (by kernel_rfl))
    (tb := 4) rfl Try.underlying4 rfl laid (by kernel_rfl) (fun ds h => by match ds, h with | [d0], _ => rfl)
    (fun W base args ds ps hval hA _ => walk W base args enc ds ps hval hA)
theorem over : Rows.opcodeReadsRow.holds Try.pinned (OpenSpec.ofChange Rows.opcodeReadsSpec) :=
  OpenClaim.holds_of_wide 7 Try.f7 rfl rfl rfl rfl rfl rfl rfl ⟨rfl, rfl, rfl, rfl, rfl⟩ rfl rfl rfl rfl rfl (by kernel_rfl) Try.func7 (by kernel_rfl)
    (of_decide_eq_true (by kernel_rfl)) (by unfold Func.isWrapper; first | (rw [if_pos (by decide +kernel)]; kernel_rfl) | (rw [if_neg (by decide +kernel)]; exact ⟨rfl, rfl⟩))
    (fun os started H enc _ => lifted os started H enc)
end Go.Proofs.Ytnemecmloeonjaa.opcodeReads
namespace Go.Proofs.Ytnemecmloeonjaa
theorem opcodeReads_holds : Rows.OpcodeReadsSaid := opcodeReads.over
#print axioms opcodeReads_holds
end Go.Proofs.Ytnemecmloeonjaa

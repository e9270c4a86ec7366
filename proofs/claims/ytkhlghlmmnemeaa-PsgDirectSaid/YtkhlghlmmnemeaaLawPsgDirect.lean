/-
  The law PsgDirect, whatever the input: it answers true, and each argument reads as it did. No condition.
-/
import Derived.Test.YtkhlghlmmnemeaaRows
import Derived.Test.YtkhlghlmmnemeaaM4
namespace Go.Proofs.Ytkhlghlmmnemeaa.psgDirect
open Go Go.R Go.RowKit Go.ChangeShapes Go.WideShapes Go.ChangeAt
theorem walk (W : World) (base : Nat) (args : Array Value) {H : Type} (enc : TypeId × Value → H) (ds : List (DataW H)) (ps : List MemPlace) (hval : ∀ (j : Nat) t v, Try.f12.params[j]? = some t → args[j]? = some v → Value.okWide Try.prog W .any base t v)
    (hA : DataW.TrodAll enc Try.prog W 0 (fun _ => true) true Try.f12.params.toList args.toList ds ps) : Calls Try.prog 12 args W fun e W' => e = .returned (.bool true) ∧ Below W.heap.size W W' := by
  rw [Try.params12] at hA hval
  obtain ⟨v0, vs0, d0, ds0, p0, q0, hargs, rfl, rfl, _, r0⟩ := trodAll_cons hA
  obtain ⟨v1, vs1, d1, ds1, p1, q1, rfl, rfl, rfl, _, r1⟩ := trodAll_cons r0
  obtain ⟨v2, vs2, d2, ds2, p2, q2, rfl, rfl, rfl, _, r2⟩ := trodAll_cons r1
  obtain ⟨rfl, rfl, rfl⟩ := trodAll_nil r2
  obtain rfl : args = #[v0, v1, v2] := by cases args; simp_all
  obtain ⟨a0, rfl, w0⟩ := okWide_i (P := Try.prog) Try.underlying3 (hval 0 3 v0 rfl rfl)
  obtain ⟨a1, rfl, w1⟩ := okWide_i (P := Try.prog) Try.underlying3 (hval 1 3 v1 rfl rfl)
  obtain ⟨a2, e2, w2⟩ := okWide_flat (P := Try.prog) (k := .i64) (n := 2) (by kernel_rfl) (hval 2 49 v2 rfl rfl)
  obtain rfl := e2 (fun _ => (0, 0))
  exact law_trueC (psgDirect_calls a0 w0 a1 w1 a2 w2) (args := [.int .i64 a0, .int .i64 a1, .aggi .i64 2 a2]) (Rel.empty (fun _ => (0, 0)) W noS)
theorem lifted (os : Os) (started : os.Started) (H : Type) (enc : TypeId × Value → H) :
    ReturnsInHanded {} Try.checked os 12 .any (Rows.psgDirectSpec.pre6 enc Try.prog Try.f12 Rows.psgDirectRow.domain false) (Rows.psgDirectSpec.post enc Try.prog Try.f12 false true false false) :=
  change_true (C := Try.checked) own started (by kernel_rfl) Try.func12
    (ChangeSpec.witness6 (enc := enc) (C := Try.checked) false ⟨#[], #[.int .i64 0, .int .i64 0, .agg #[.int .i64 0, .int .i64 0]], []⟩ 8 (by kernel_rfl) (by kernel_rfl) (by kernel_rfl) (by kernel_rfl))
    (tb := 4) rfl Try.underlying4 rfl laid (by kernel_rfl) (fun ds h => by match ds, h with | [d0, d1, d2], _ => rfl)
    (fun W base args ds ps hval hA _ => walk W base args enc ds ps hval hA)
theorem over : Rows.psgDirectRow.holds Try.pinned (OpenSpec.ofChange Rows.psgDirectSpec) :=
  OpenClaim.holds_of_wide 12 Try.f12 rfl rfl rfl rfl rfl rfl rfl ⟨rfl, rfl, rfl, rfl, rfl⟩ rfl rfl rfl rfl rfl (by kernel_rfl) Try.func12 (by kernel_rfl)
    (of_decide_eq_true (by kernel_rfl)) (by unfold Func.isWrapper; first | (rw [if_pos (by decide +kernel)]; kernel_rfl) | (rw [if_neg (by decide +kernel)]; exact ⟨rfl, rfl⟩))
    (fun os started H enc _ => lifted os started H enc)
end Go.Proofs.Ytkhlghlmmnemeaa.psgDirect
namespace Go.Proofs.Ytkhlghlmmnemeaa
theorem psgDirect_holds : Rows.PsgDirectSaid := psgDirect.over
#print axioms psgDirect_holds
end Go.Proofs.Ytkhlghlmmnemeaa

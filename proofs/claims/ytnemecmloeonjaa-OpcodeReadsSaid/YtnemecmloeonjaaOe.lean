/-
  The reference's Of: what it tells of a byte.
-/
import Derived.Test.YtnemecmloeonjaaOd0
import Derived.Test.YtnemecmloeonjaaOd1
import Derived.Test.YtnemecmloeonjaaOd2
import Derived.Test.YtnemecmloeonjaaOd3
import Derived.Test.YtnemecmloeonjaaOd4
import Derived.Test.YtnemecmloeonjaaOd5
import Derived.Test.YtnemecmloeonjaaOd6
import Derived.Test.YtnemecmloeonjaaOd7
set_option linter.unusedVariables false
set_option linter.unusedSimpArgs false
namespace Go.Proofs.Ytnemecmloeonjaa
open Go Go.R
theorem rof_row (k : Nat) (hk : k < 256) (b : Int) : rofE k b = cond ((by8 b : Int) == (k : Int)) (some (row k)) none := by
  have key : ∀ (i j : Nat), j < 32 → (List.range 32).map (fun k => rofE (i + k) b) = (List.range 32).map (fun k => cond ((by8 b : Int) == ((i + k : Nat) : Int)) (some (row (i + k))) none) → rofE (i + j) b = cond ((by8 b : Int) == ((i + j : Nat) : Int)) (some (row (i + j))) none := by
    intro i j hj h
    exact List.map_inj_left.1 h j (List.mem_range.2 hj)
  rcases Nat.lt_or_ge k 32 with h | h
  · have := key 0 (k - 0) (by omega) (rof_rows0 b); rwa [show 0 + (k - 0) = k by omega] at this
  rcases Nat.lt_or_ge k 64 with h | h
  · have := key 32 (k - 32) (by omega) (rof_rows1 b); rwa [show 32 + (k - 32) = k by omega] at this
  rcases Nat.lt_or_ge k 96 with h | h
  · have := key 64 (k - 64) (by omega) (rof_rows2 b); rwa [show 64 + (k - 64) = k by omega] at this
  rcases Nat.lt_or_ge k 128 with h | h
  · have := key 96 (k - 96) (by omega) (rof_rows3 b); rwa [show 96 + (k - 96) = k by omega] at this
  rcases Nat.lt_or_ge k 160 with h | h
  · have := key 128 (k - 128) (by omega) (rof_rows4 b); rwa [show 128 + (k - 128) = k by omega] at this
  rcases Nat.lt_or_ge k 192 with h | h
  · have := key 160 (k - 160) (by omega) (rof_rows5 b); rwa [show 160 + (k - 160) = k by omega] at this
  rcases Nat.lt_or_ge k 224 with h | h
  · have := key 192 (k - 192) (by omega) (rof_rows6 b); rwa [show 192 + (k - 192) = k by omega] at this
  rcases Nat.lt_or_ge k 256 with h | h
  · have := key 224 (k - 224) (by omega) (rof_rows7 b); rwa [show 224 + (k - 224) = k by omega] at this
  omega
theorem rof_ev (b : Int) : rofE (by8 b) b = some (row (by8 b)) := by
  rw [rof_row _ (by8_lt b)]; simp
def sROf : Summ Try.prog := mkPure [sRByte] hN hM 11 200 (fun args => match args with | [.int .i64 b] => some (true, row (by8 b)) | _ => none) (by
  intro args v h; split at h
  · simp only [Option.some.injEq, Prod.mk.injEq, true_and] at h; subst h
    rename_i b
    exact ⟨rfl, rfl, _, rof_ev b⟩
  · cases h)
end Go.Proofs.Ytnemecmloeonjaa

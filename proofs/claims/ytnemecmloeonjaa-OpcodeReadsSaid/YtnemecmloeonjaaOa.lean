/-
  The table of the instructions, as lists, and what the program's Of tells of a byte.
-/
import Derived.Test.YtnemecmloeonjaaO
import Derived.Test.YtnemecmloeonjaaZ
set_option linter.unusedVariables false
set_option linter.unusedSimpArgs false
namespace Go.Proofs.Ytnemecmloeonjaa
open Go Go.R
def nmT : List ByteArray := [bs [66, 82, 75], bs [79, 82, 65], bs [83, 88, 89], bs [83, 84, 48], bs [84, 83, 66], bs [79, 82, 65], bs [65, 83, 76], bs [82, 77, 66, 48],
  bs [80, 72, 80], bs [79, 82, 65], bs [65, 83, 76], bs [78, 79, 80], bs [84, 83, 66], bs [79, 82, 65], bs [65, 83, 76], bs [66, 66, 82, 48],
  bs [66, 80, 76], bs [79, 82, 65], bs [79, 82, 65], bs [83, 84, 49], bs [84, 82, 66], bs [79, 82, 65], bs [65, 83, 76], bs [82, 77, 66, 49],
  bs [67, 76, 67], bs [79, 82, 65], bs [73, 78, 67], bs [78, 79, 80], bs [84, 82, 66], bs [79, 82, 65], bs [65, 83, 76], bs [66, 66, 82, 49],
  bs [74, 83, 82], bs [65, 78, 68], bs [83, 65, 88], bs [83, 84, 50], bs [66, 73, 84], bs [65, 78, 68], bs [82, 79, 76], bs [82, 77, 66, 50],
  bs [80, 76, 80], bs [65, 78, 68], bs [82, 79, 76], bs [78, 79, 80], bs [66, 73, 84], bs [65, 78, 68], bs [82, 79, 76], bs [66, 66, 82, 50],
  bs [66, 77, 73], bs [65, 78, 68], bs [65, 78, 68], bs [78, 79, 80], bs [66, 73, 84], bs [65, 78, 68], bs [82, 79, 76], bs [82, 77, 66, 51],
  bs [83, 69, 67], bs [65, 78, 68], bs [68, 69, 67], bs [78, 79, 80], bs [66, 73, 84], bs [65, 78, 68], bs [82, 79, 76], bs [66, 66, 82, 51],
  bs [82, 84, 73], bs [69, 79, 82], bs [83, 65, 89], bs [84, 77, 65], bs [66, 83, 82], bs [69, 79, 82], bs [76, 83, 82], bs [82, 77, 66, 52],
  bs [80, 72, 65], bs [69, 79, 82], bs [76, 83, 82], bs [78, 79, 80], bs [74, 77, 80], bs [69, 79, 82], bs [76, 83, 82], bs [66, 66, 82, 52],
  bs [66, 86, 67], bs [69, 79, 82], bs [69, 79, 82], bs [84, 65, 77], bs [67, 83, 76], bs [69, 79, 82], bs [76, 83, 82], bs [82, 77, 66, 53],
  bs [67, 76, 73], bs [69, 79, 82], bs [80, 72, 89], bs [78, 79, 80], bs [78, 79, 80], bs [69, 79, 82], bs [76, 83, 82], bs [66, 66, 82, 53],
  bs [82, 84, 83], bs [65, 68, 67], bs [67, 76, 65], bs [78, 79, 80], bs [83, 84, 90], bs [65, 68, 67], bs [82, 79, 82], bs [82, 77, 66, 54],
  bs [80, 76, 65], bs [65, 68, 67], bs [82, 79, 82], bs [78, 79, 80], bs [74, 77, 80], bs [65, 68, 67], bs [82, 79, 82], bs [66, 66, 82, 54],
  bs [66, 86, 83], bs [65, 68, 67], bs [65, 68, 67], bs [84, 73, 73], bs [83, 84, 90], bs [65, 68, 67], bs [82, 79, 82], bs [82, 77, 66, 55],
  bs [83, 69, 73], bs [65, 68, 67], bs [80, 76, 89], bs [78, 79, 80], bs [74, 77, 80], bs [65, 68, 67], bs [82, 79, 82], bs [66, 66, 82, 55],
  bs [66, 82, 65], bs [83, 84, 65], bs [67, 76, 88], bs [84, 83, 84], bs [83, 84, 89], bs [83, 84, 65], bs [83, 84, 88], bs [83, 77, 66, 48],
  bs [68, 69, 89], bs [66, 73, 84], bs [84, 88, 65], bs [78, 79, 80], bs [83, 84, 89], bs [83, 84, 65], bs [83, 84, 88], bs [66, 66, 83, 48],
  bs [66, 67, 67], bs [83, 84, 65], bs [83, 84, 65], bs [84, 83, 84], bs [83, 84, 89], bs [83, 84, 65], bs [83, 84, 88], bs [83, 77, 66, 49],
  bs [84, 89, 65], bs [83, 84, 65], bs [84, 88, 83], bs [78, 79, 80], bs [83, 84, 90], bs [83, 84, 65], bs [83, 84, 90], bs [66, 66, 83, 49],
  bs [76, 68, 89], bs [76, 68, 65], bs [76, 68, 88], bs [84, 83, 84], bs [76, 68, 89], bs [76, 68, 65], bs [76, 68, 88], bs [83, 77, 66, 50],
  bs [84, 65, 89], bs [76, 68, 65], bs [84, 65, 88], bs [78, 79, 80], bs [76, 68, 89], bs [76, 68, 65], bs [76, 68, 88], bs [66, 66, 83, 50],
  bs [66, 67, 83], bs [76, 68, 65], bs [76, 68, 65], bs [84, 83, 84], bs [76, 68, 89], bs [76, 68, 65], bs [76, 68, 88], bs [83, 77, 66, 51],
  bs [67, 76, 86], bs [76, 68, 65], bs [84, 83, 88], bs [78, 79, 80], bs [76, 68, 89], bs [76, 68, 65], bs [76, 68, 88], bs [66, 66, 83, 51],
  bs [67, 80, 89], bs [67, 77, 80], bs [67, 76, 89], bs [84, 68, 68], bs [67, 80, 89], bs [67, 77, 80], bs [68, 69, 67], bs [83, 77, 66, 52],
  bs [73, 78, 89], bs [67, 77, 80], bs [68, 69, 88], bs [78, 79, 80], bs [67, 80, 89], bs [67, 77, 80], bs [68, 69, 67], bs [66, 66, 83, 52],
  bs [66, 78, 69], bs [67, 77, 80], bs [67, 77, 80], bs [84, 73, 78], bs [67, 83, 72], bs [67, 77, 80], bs [68, 69, 67], bs [83, 77, 66, 53],
  bs [67, 76, 68], bs [67, 77, 80], bs [80, 72, 88], bs [78, 79, 80], bs [78, 79, 80], bs [67, 77, 80], bs [68, 69, 67], bs [66, 66, 83, 53],
  bs [67, 80, 88], bs [83, 66, 67], bs [78, 79, 80], bs [84, 73, 65], bs [67, 80, 88], bs [83, 66, 67], bs [73, 78, 67], bs [83, 77, 66, 54],
  bs [73, 78, 88], bs [83, 66, 67], bs [78, 79, 80], bs [78, 79, 80], bs [67, 80, 88], bs [83, 66, 67], bs [73, 78, 67], bs [66, 66, 83, 54],
  bs [66, 69, 81], bs [83, 66, 67], bs [83, 66, 67], bs [84, 65, 73], bs [83, 69, 84], bs [83, 66, 67], bs [73, 78, 67], bs [83, 77, 66, 55],
  bs [83, 69, 68], bs [83, 66, 67], bs [80, 76, 88], bs [78, 79, 80], bs [78, 79, 80], bs [83, 66, 67], bs [73, 78, 67], bs [66, 66, 83, 55]]
def mdT : List Int := [0, 6, 0, 2, 3, 3, 3, 3, 0, 2, 1, 0, 9, 9, 9, 15,
  14, 7, 8, 2, 3, 4, 4, 3, 0, 11, 1, 0, 9, 10, 10, 15,
  9, 6, 0, 2, 3, 3, 3, 3, 0, 2, 1, 0, 9, 9, 9, 15,
  14, 7, 8, 0, 4, 4, 4, 3, 0, 11, 1, 0, 10, 10, 10, 15,
  0, 6, 0, 2, 14, 3, 3, 3, 0, 2, 1, 0, 9, 9, 9, 15,
  14, 7, 8, 2, 0, 4, 4, 3, 0, 11, 0, 0, 0, 10, 10, 15,
  0, 6, 0, 0, 3, 3, 3, 3, 0, 2, 1, 0, 12, 9, 9, 15,
  14, 7, 8, 16, 4, 4, 4, 3, 0, 11, 0, 0, 13, 10, 10, 15,
  14, 6, 0, 17, 3, 3, 3, 3, 0, 2, 0, 0, 9, 9, 9, 15,
  14, 7, 8, 19, 4, 4, 5, 3, 0, 11, 0, 0, 9, 10, 10, 15,
  2, 6, 2, 18, 3, 3, 3, 3, 0, 2, 0, 0, 9, 9, 9, 15,
  14, 7, 8, 20, 4, 4, 5, 3, 0, 11, 0, 0, 10, 10, 11, 15,
  2, 6, 0, 16, 3, 3, 3, 3, 0, 2, 0, 0, 9, 9, 9, 15,
  14, 7, 8, 16, 0, 4, 4, 3, 0, 11, 0, 0, 0, 10, 10, 15,
  2, 6, 0, 16, 3, 3, 3, 3, 0, 2, 0, 0, 9, 9, 9, 15,
  14, 7, 8, 16, 0, 4, 4, 3, 0, 11, 0, 0, 0, 10, 10, 15]
def lnT : List Int := [1, 2, 1, 2, 2, 2, 2, 2, 1, 2, 1, 1, 3, 3, 3, 3,
  2, 2, 2, 2, 2, 2, 2, 2, 1, 3, 1, 1, 3, 3, 3, 3,
  3, 2, 1, 2, 2, 2, 2, 2, 1, 2, 1, 1, 3, 3, 3, 3,
  2, 2, 2, 1, 2, 2, 2, 2, 1, 3, 1, 1, 3, 3, 3, 3,
  1, 2, 1, 2, 2, 2, 2, 2, 1, 2, 1, 1, 3, 3, 3, 3,
  2, 2, 2, 2, 1, 2, 2, 2, 1, 3, 1, 1, 1, 3, 3, 3,
  1, 2, 1, 1, 2, 2, 2, 2, 1, 2, 1, 1, 3, 3, 3, 3,
  2, 2, 2, 7, 2, 2, 2, 2, 1, 3, 1, 1, 3, 3, 3, 3,
  2, 2, 1, 3, 2, 2, 2, 2, 1, 2, 1, 1, 3, 3, 3, 3,
  2, 2, 2, 4, 2, 2, 2, 2, 1, 3, 1, 1, 3, 3, 3, 3,
  2, 2, 2, 3, 2, 2, 2, 2, 1, 2, 1, 1, 3, 3, 3, 3,
  2, 2, 2, 4, 2, 2, 2, 2, 1, 3, 1, 1, 3, 3, 3, 3,
  2, 2, 1, 7, 2, 2, 2, 2, 1, 2, 1, 1, 3, 3, 3, 3,
  2, 2, 2, 7, 1, 2, 2, 2, 1, 3, 1, 1, 1, 3, 3, 3,
  2, 2, 1, 7, 2, 2, 2, 2, 1, 2, 1, 1, 3, 3, 3, 3,
  2, 2, 2, 7, 1, 2, 2, 2, 1, 3, 1, 1, 1, 3, 3, 3]
def cyT : List Int := [8, 7, 3, 4, 6, 4, 6, 7, 3, 2, 2, 2, 7, 5, 7, 6,
  2, 7, 7, 4, 6, 4, 6, 7, 2, 5, 2, 2, 7, 5, 7, 6,
  7, 7, 3, 4, 4, 4, 6, 7, 4, 2, 2, 2, 5, 5, 7, 6,
  2, 7, 7, 2, 4, 4, 6, 7, 2, 5, 2, 2, 5, 5, 7, 6,
  7, 7, 3, 4, 8, 4, 6, 7, 3, 2, 2, 2, 4, 5, 7, 6,
  2, 7, 7, 5, 3, 4, 6, 7, 2, 5, 3, 2, 2, 5, 7, 6,
  7, 7, 2, 2, 4, 4, 6, 7, 4, 2, 2, 2, 7, 5, 7, 6,
  2, 7, 7, 17, 4, 4, 6, 7, 2, 5, 4, 2, 7, 5, 7, 6,
  4, 7, 2, 7, 4, 4, 4, 7, 2, 2, 2, 2, 5, 5, 5, 6,
  2, 7, 7, 8, 4, 4, 4, 7, 2, 5, 2, 2, 5, 5, 5, 6,
  2, 7, 2, 7, 4, 4, 4, 7, 2, 2, 2, 2, 5, 5, 5, 6,
  2, 7, 7, 8, 4, 4, 4, 7, 2, 5, 2, 2, 5, 5, 5, 6,
  2, 7, 2, 17, 4, 4, 6, 7, 2, 2, 2, 2, 5, 5, 7, 6,
  2, 7, 7, 17, 3, 4, 6, 7, 2, 5, 3, 2, 2, 5, 7, 6,
  2, 7, 2, 17, 4, 4, 6, 7, 2, 2, 2, 2, 5, 5, 7, 6,
  2, 7, 7, 17, 2, 4, 6, 7, 2, 5, 4, 2, 2, 5, 7, 6]
def nm (k : Nat) : ByteArray := nmT.getD k (bs [])
def md (k : Nat) : Int := mdT.getD k 0
def ln (k : Nat) : Int := lnT.getD k 0
def cy (k : Nat) : Int := cyT.getD k 0
def row (k : Nat) : V := .agg [.str (nm k), .int .i64 (md k), .int .i64 (ln k), .int .i64 (cy k)]
def longB : Blk := .mapi .i64 .i64 [(0, 1), (1, 1), (9, 3), (10, 3), (11, 3), (12, 3), (13, 3), (15, 3), (16, 7), (17, 3), (18, 3), (19, 4), (20, 4)]
theorem long_ev : evCallH Try.prog [] [] 40 14 [] [] newK = some (.mp 0, some longB) := by kernel_rfl
def sLong : Summ Try.prog := mkNew 14 (fun args => match args with | [] => some (true, .mp 0, some longB) | _ => none) (by
  intro args v ob h; split at h
  · simp only [Option.some.injEq, Prod.mk.injEq, true_and] at h; obtain ⟨rfl, rfl⟩ := h
    refine ⟨fun blk hb => ?_, fun hb => (by cases hb), fun B ρ w hr => ?_⟩
    · simp only [Option.some.injEq] at hb; subst hb; exact ⟨rfl, rfl, rfl⟩
    · exact evCallH_sound hN hM long_ev hr rfl
  · cases h)
noncomputable def ofE (k : Nat) (b : Int) : Option V := evCallH Try.prog [sLong] [(7, .int .i64 k)] 60 8 [.int .i64 b] [] (fun v _ => some v)
theorem of_rows0 (b : Int) : (List.range 64).map (fun k => ofE (0 + k) b) = (List.range 64).map (fun k => cond (bitI .and .i64 b 255 == ((0 + k : Nat) : Int)) (some (row (0 + k))) none) := by kernel_rfl
theorem of_rows1 (b : Int) : (List.range 64).map (fun k => ofE (64 + k) b) = (List.range 64).map (fun k => cond (bitI .and .i64 b 255 == ((64 + k : Nat) : Int)) (some (row (64 + k))) none) := by kernel_rfl
theorem of_rows2 (b : Int) : (List.range 64).map (fun k => ofE (128 + k) b) = (List.range 64).map (fun k => cond (bitI .and .i64 b 255 == ((128 + k : Nat) : Int)) (some (row (128 + k))) none) := by kernel_rfl
theorem of_rows3 (b : Int) : (List.range 64).map (fun k => ofE (192 + k) b) = (List.range 64).map (fun k => cond (bitI .and .i64 b 255 == ((192 + k : Nat) : Int)) (some (row (192 + k))) none) := by kernel_rfl
theorem of_row (k : Nat) (hk : k < 256) (b : Int) : ofE k b = cond (bitI .and .i64 b 255 == (k : Int)) (some (row k)) none := by
  have key : ∀ (i j : Nat), j < 64 → (List.range 64).map (fun k => ofE (i + k) b) = (List.range 64).map (fun k => cond (bitI .and .i64 b 255 == ((i + k : Nat) : Int)) (some (row (i + k))) none) → ofE (i + j) b = cond (bitI .and .i64 b 255 == ((i + j : Nat) : Int)) (some (row (i + j))) none := by
    intro i j hj h
    exact List.map_inj_left.1 h j (List.mem_range.2 hj)
  rcases Nat.lt_or_ge k 64 with h | h
  · have := key 0 k h (of_rows0 b); simpa using this
  rcases Nat.lt_or_ge k 128 with h2 | h2
  · have := key 64 (k - 64) (by omega) (of_rows1 b); rwa [show 64 + (k - 64) = k by omega] at this
  rcases Nat.lt_or_ge k 192 with h3 | h3
  · have := key 128 (k - 128) (by omega) (of_rows2 b); rwa [show 128 + (k - 128) = k by omega] at this
  · have := key 192 (k - 192) (by omega) (of_rows3 b); rwa [show 192 + (k - 192) = k by omega] at this
/-- the byte of a number -/
def by8 (b : Int) : Nat := (b % 256).toNat
theorem by8_lt (b : Int) : by8 b < 256 := by unfold by8; omega
theorem and255 (b : Int) : bitI .and .i64 b 255 = (by8 b : Int) := by
  have h2 : bitI .and .i64 b 255 = ((u64 b &&& 255 : Nat) : Int) := by
    rw [bitI_and, show u64 255 = 255 by decide, show (255 : Nat) = 2 ^ 8 - 1 by decide, Nat.and_two_pow_sub_one_eq_mod]
    rw [wrap_id (by omega) (by omega)]
  rw [h2, show (255 : Nat) = 2 ^ 8 - 1 by decide, Nat.and_two_pow_sub_one_eq_mod, u64_nmod b (by decide)]
  rfl
theorem of_ev (b : Int) : ofE (by8 b) b = some (row (by8 b)) := by
  rw [of_row _ (by8_lt b), and255]; simp
def sOf : Summ Try.prog := mkPure [sLong] hN hM 8 60 (fun args => match args with | [.int .i64 b] => some (true, row (by8 b)) | _ => none) (by
  intro args v h; split at h
  · simp only [Option.some.injEq, Prod.mk.injEq, true_and] at h; subst h
    rename_i b
    exact ⟨rfl, rfl, _, of_ev b⟩
  · cases h)
end Go.Proofs.Ytnemecmloeonjaa

import Derived.Test.YtnemecmloeonjaaOa
set_option linter.unusedVariables false
set_option linter.unusedSimpArgs false
namespace Go.Proofs.Ytnemecmloeonjaa
open Go Go.R
theorem modes_ev (a : Int) (b : Int) : evCall Try.prog [sOf] 60 4 [.int .i64 a, .int .i64 b] [] asB =
  cond (md (by8 a) != md (by8 b)) (cond (sEq (nm (by8 a)) (nm (by8 (bitI BinOp.and Go.IntKind.i64 a 255))) && (md (by8 a) == md (by8 (bitI BinOp.and Go.IntKind.i64 a 255)) && (ln (by8 a) == ln (by8 (bitI BinOp.and Go.IntKind.i64 a 255)) && (cy (by8 a) == cy (by8 (bitI BinOp.and Go.IntKind.i64 a 255)) && true)))) (cond (decide (md (by8 a) ≥ 0)) (cond (decide (md (by8 a) ≤ 20)) (some true) (some false)) (some false)) (some false)) (cond (ln (by8 a) == ln (by8 b)) (cond (sEq (nm (by8 a)) (nm (by8 (bitI BinOp.and Go.IntKind.i64 a 255))) && (md (by8 a) == md (by8 (bitI BinOp.and Go.IntKind.i64 a 255)) && (ln (by8 a) == ln (by8 (bitI BinOp.and Go.IntKind.i64 a 255)) && (cy (by8 a) == cy (by8 (bitI BinOp.and Go.IntKind.i64 a 255)) && true)))) (cond (decide (md (by8 a) ≥ 0)) (cond (decide (md (by8 a) ≤ 20)) (some true) (some false)) (some false)) (some false)) (some false)) := by kernel_rfl
theorem bits0_ev (d : Int) : evCallH Try.prog [sOf] [(9, .int .i64 0)] 60 3 [.int .i64 d] [] asB =
  cond (bitI BinOp.and Go.IntKind.i64 d 7 == 0) (some true) none := by kernel_rfl
theorem bits1_ev (d : Int) : evCallH Try.prog [sOf] [(9, .int .i64 1)] 60 3 [.int .i64 d] [] asB =
  cond (bitI BinOp.and Go.IntKind.i64 d 7 == 1) (some true) none := by kernel_rfl
theorem bits2_ev (d : Int) : evCallH Try.prog [sOf] [(9, .int .i64 2)] 60 3 [.int .i64 d] [] asB =
  cond (bitI BinOp.and Go.IntKind.i64 d 7 == 2) (some true) none := by kernel_rfl
theorem bits3_ev (d : Int) : evCallH Try.prog [sOf] [(9, .int .i64 3)] 60 3 [.int .i64 d] [] asB =
  cond (bitI BinOp.and Go.IntKind.i64 d 7 == 3) (some true) none := by kernel_rfl
theorem bits4_ev (d : Int) : evCallH Try.prog [sOf] [(9, .int .i64 4)] 60 3 [.int .i64 d] [] asB =
  cond (bitI BinOp.and Go.IntKind.i64 d 7 == 4) (some true) none := by kernel_rfl
theorem bits5_ev (d : Int) : evCallH Try.prog [sOf] [(9, .int .i64 5)] 60 3 [.int .i64 d] [] asB =
  cond (bitI BinOp.and Go.IntKind.i64 d 7 == 5) (some true) none := by kernel_rfl
theorem bits6_ev (d : Int) : evCallH Try.prog [sOf] [(9, .int .i64 6)] 60 3 [.int .i64 d] [] asB =
  cond (bitI BinOp.and Go.IntKind.i64 d 7 == 6) (some true) none := by kernel_rfl
theorem bits7_ev (d : Int) : evCallH Try.prog [sOf] [(9, .int .i64 7)] 60 3 [.int .i64 d] [] asB =
  cond (bitI BinOp.and Go.IntKind.i64 d 7 == 7) (some true) none := by kernel_rfl
end Go.Proofs.Ytnemecmloeonjaa

import Derived.Test.YtcmlhcabbnpibaaNzK
set_option linter.unusedVariables false
set_option linter.unusedSimpArgs false
namespace Go.Proofs.Ytcmlhcabbnpibaa
open Go Go.R
theorem lawApart_ev (s t : Int) (a b : Int) : evCallH Try.prog [sStep, sOut] [(7, .int .i64 a), (10, .int .i64 b)] 100 4 [.int .i64 s, .int .i64 t] [] (asB) =
  cond (wr Go.IntKind.i64 (1 + bitI BinOp.and Go.IntKind.i64 s 131071) == a) (cond (wr Go.IntKind.i64 (1 + bitI BinOp.and Go.IntKind.i64 t 131071) == b) (cond ((nstep a == nstep b) == (a == b)) (some true) (some false)) none) none := by kernel_rfl
theorem lawParts_ev (s a b : Int) (A Bv x y z u v : Int) : evCallH Try.prog [sStep, sOut, sJump] [(9, .int .i64 A), (11, .int .i64 Bv), (14, .int .i64 x), (17, .int .i64 y), (22, .int .i64 z), (26, .int .i64 u), (30, .int .i64 v)] 100 5 [.int .i64 s, .int .i64 a, .int .i64 b] [] (asB) =
  cond (bitI BinOp.and Go.IntKind.i64 a 2305843009213693951 == A) (cond (bitI BinOp.and Go.IntKind.i64 b 2305843009213693951 == Bv) (cond (decide (A < 9223372036854775808)) (cond (jumpI s A == x) (cond (decide (Bv < 9223372036854775808)) (cond (jumpI x Bv == y) (cond (decide (wr Go.IntKind.i64 (A + Bv) < 9223372036854775808)) (cond (jumpI s (wr Go.IntKind.i64 (A + Bv)) == z) (cond (y == z) (cond (nstep x == u) (cond (decide (wr Go.IntKind.i64 (A + 1) < 9223372036854775808)) (cond (jumpI s (wr Go.IntKind.i64 (A + 1)) == v) (cond (u == v) (cond (decide (x > 0)) (cond (decide (x < 262144)) (some true) (some false)) (some false)) (some false)) none) none) none) (some false)) none) none) none) none) none) none) none) none := by kernel_rfl
theorem lawTells_ev (s n b : Int) : evCall Try.prog [sStep, sOut, sJump, sRJump, sRStep, sPeriod, sRPeriod] 100 6 [.int .i64 s, .int .i64 n, .int .i64 b] [] (asB) =
  cond (nstep s == nstep s) (cond (decide (n.tmod 5000 < 9223372036854775808)) (cond (decide (n.tmod 5000 < 4611686018427387904)) (cond (jumpI s (n.tmod 5000) == jumpR s (n.tmod 5000)) (cond (nst s % 2 * 31 == wr Go.IntKind.i64 ((jumpR s 0).tmod 2 * 31)) (cond (per b == per b) (some true) (some false)) (some false)) (some false)) none) none) (some false) := by kernel_rfl
end Go.Proofs.Ytcmlhcabbnpibaa

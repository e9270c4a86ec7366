import Derived.Test.YtcmlhcabbnpibaaNzD
set_option linter.unusedVariables false
set_option linter.unusedSimpArgs false
namespace Go.Proofs.Ytcmlhcabbnpibaa
open Go Go.R
theorem rjTo_ev (s n : Int) : evTo Try.prog [sRState, sRStep] 100 [] (ntOf Try.prog 19 [.int .i64 s, .int .i64 n]) [1, 1, 0, 1] (bodyOf Try.prog 19) (envOf [.int .i64 s, .int .i64 n] 0) [] (Kt [0, 1, 5]) =
  some (V.tup [V.int Go.IntKind.i64 (nst s), V.int Go.IntKind.i64 n, V.int Go.IntKind.i64 0], []) := by kernel_rfl
theorem rjBody_ev (s n i : Int) (rest : Env) : ev Try.prog [sRState, sRStep] 100 [] 16 (sub [1, 1, 0, 1, 0, 0] (bodyOf Try.prog 19)) (zipE [0, 1, 5] [.int .i64 s, .int .i64 n, .int .i64 i] rest) [] (Kl [0, 1, 5]) =
  cond (decide (i < n)) (some (V.tup [V.int Go.IntKind.i64 (-1), V.int Go.IntKind.i64 (nstep s), V.int Go.IntKind.i64 n, V.int Go.IntKind.i64 (wr Go.IntKind.i64 (i + 1))], [])) (some (V.tup [V.int Go.IntKind.i64 0, V.int Go.IntKind.i64 s, V.int Go.IntKind.i64 n, V.int Go.IntKind.i64 i], [])) := by kernel_rfl
theorem rjFrom_ev (s n i : Int) (rest : Env) : evFrom Try.prog [sRState, sRStep] 100 [] 16 [1, 1, 0, 1] (bodyOf Try.prog 19) (zipE [0, 1, 5] [.int .i64 s, .int .i64 n, .int .i64 i] rest) [] (leaveOf Try.prog 19 (fun v _ => some v)) =
  some (V.int Go.IntKind.i64 s) := by kernel_rfl
theorem ofTo_ev (f : Nat → Int) (s : Int) : evTo Try.prog [] 100 [] (ntOf Try.prog 36 [.aggi .i64 18 f, .int .i64 s]) [1, 1, 0, 1] (bodyOf Try.prog 36) (envOf [.aggi .i64 18 f, .int .i64 s] 0) [] (Kt [1, 5, 8, 9]) =
  some (V.tup [V.int Go.IntKind.i64 s, V.int Go.IntKind.i64 0, V.aggi Go.IntKind.i64 18 fun j => f (0 + j), V.int Go.IntKind.i64 0], [Blk.ints 51 Go.IntKind.i64 18 f]) := by kernel_rfl
theorem ofBody_ev (f : Nat → Int) (b : Blk) (s o k : Int) (rest : Env) : ev Try.prog [] 100 [] 23 (sub [1, 1, 0, 1, 0, 0] (bodyOf Try.prog 36)) (zipE [1, 5, 8, 9] [.int .i64 s, .int .i64 o, .aggi .i64 18 f, .int .i64 k] rest) [b] (Kl [1, 5, 8, 9]) =
  cond (decide (k < 18)) (cond (inR k 18 && (scaled k 1 + 1).ble 18) (cond (decide (0 ≤ k)) (cond (bitI BinOp.and Go.IntKind.i64 (s.fdiv (2 ^ min k.toNat 64)) 1 == 1) (some (V.tup [V.int Go.IntKind.i64 (-1), V.int Go.IntKind.i64 s, V.int Go.IntKind.i64 (bitI BinOp.xor Go.IntKind.i64 o (f (scaled k 1))), V.aggi Go.IntKind.i64 18 f, V.int Go.IntKind.i64 (wr Go.IntKind.i64 (k + 1))], [b])) (some (V.tup [V.int Go.IntKind.i64 (-1), V.int Go.IntKind.i64 s, V.int Go.IntKind.i64 o, V.aggi Go.IntKind.i64 18 f, V.int Go.IntKind.i64 (wr Go.IntKind.i64 (k + 1))], [b]))) none) none) (some (V.tup [V.int Go.IntKind.i64 0, V.int Go.IntKind.i64 s, V.int Go.IntKind.i64 o, V.aggi Go.IntKind.i64 18 f, V.int Go.IntKind.i64 k], [b])) := by kernel_rfl
theorem ofFrom_ev (f : Nat → Int) (b : Blk) (s o k : Int) (rest : Env) : evFrom Try.prog [] 100 [] 23 [1, 1, 0, 1] (bodyOf Try.prog 36) (zipE [1, 5, 8, 9] [.int .i64 s, .int .i64 o, .aggi .i64 18 f, .int .i64 k] rest) [b] (leaveOf Try.prog 36 (fun v _ => some v)) =
  some (V.int Go.IntKind.i64 o) := by kernel_rfl
end Go.Proofs.Ytcmlhcabbnpibaa

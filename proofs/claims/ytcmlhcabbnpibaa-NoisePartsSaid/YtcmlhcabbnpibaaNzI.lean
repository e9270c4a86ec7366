import Derived.Test.YtcmlhcabbnpibaaNzH
set_option linter.unusedVariables false
set_option linter.unusedSimpArgs false
namespace Go.Proofs.Ytcmlhcabbnpibaa
open Go Go.R
theorem jpBody_ev (M : Nat → Int) (s n k : Int) (rest : Env) : ev Try.prog [sOf, sTwice] 100 [] 44 (sub [1, 1, 1, 1, 0, 1, 0, 0] (bodyOf Try.prog 18)) (zipE [0, 1, 5, 25] [.int .i64 s, .int .i64 n, .ptr 0 0, .int .i64 k] rest) [.ints 51 .i64 18 M] (Kl [0, 1, 5, 25]) =
  cond (decide (k < 63)) (cond (decide (0 ≤ k)) (cond (decide (n < wr Go.IntKind.i64 (1 * 2 ^ min k.toNat 64))) (some (V.tup [V.int Go.IntKind.i64 2, V.int Go.IntKind.i64 s, V.int Go.IntKind.i64 n, V.ptr 0 0, V.int Go.IntKind.i64 k], [Blk.ints 51 Go.IntKind.i64 18 M])) (cond (decide (0 ≤ k)) (cond (bitI BinOp.and Go.IntKind.i64 (n.fdiv (2 ^ min k.toNat 64)) 1 == 1) (some (V.tup [V.int Go.IntKind.i64 (-1), V.int Go.IntKind.i64 (ofI (fun j => M (0 + j)) s), V.int Go.IntKind.i64 n, V.ptr 0 0, V.int Go.IntKind.i64 (wr Go.IntKind.i64 (k + 1))], [Blk.ints 51 Go.IntKind.i64 18 fun j => upd M 0 18 (fun j => twF (fun j => M (0 + j)) j) j])) (some (V.tup [V.int Go.IntKind.i64 (-1), V.int Go.IntKind.i64 s, V.int Go.IntKind.i64 n, V.ptr 0 0, V.int Go.IntKind.i64 (wr Go.IntKind.i64 (k + 1))], [Blk.ints 51 Go.IntKind.i64 18 fun j => upd M 0 18 (fun j => twF (fun j => M (0 + j)) j) j]))) none)) none) (some (V.tup [V.int Go.IntKind.i64 2, V.int Go.IntKind.i64 s, V.int Go.IntKind.i64 n, V.ptr 0 0, V.int Go.IntKind.i64 k], [Blk.ints 51 Go.IntKind.i64 18 M])) := by kernel_rfl
theorem jpFrom_ev (M : Nat → Int) (s n k : Int) (rest : Env) : evFrom Try.prog [] 100 [] 44 [1, 1, 1, 1, 0, 1] (bodyOf Try.prog 18) (zipE [0, 1, 5, 25] [.int .i64 s, .int .i64 n, .ptr 0 0, .int .i64 k] rest) [.ints 51 .i64 18 M] (leaveOf Try.prog 18 (fun v _ => some v)) =
  some (V.int Go.IntKind.i64 s) := by kernel_rfl
end Go.Proofs.Ytcmlhcabbnpibaa

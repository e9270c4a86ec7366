import Derived.Test.YtcmlhcabbnpibaaNzH
set_option linter.unusedVariables false
set_option linter.unusedSimpArgs false
namespace Go.Proofs.Ytcmlhcabbnpibaa
open Go Go.R
theorem jpTo_ev (s n : Int) : evTo Try.prog [sState, sOdd] 100 [] (ntOf Try.prog 18 [.int .i64 s, .int .i64 n]) [1, 1, 1, 1, 0, 1] (bodyOf Try.prog 18) (envOf [.int .i64 s, .int .i64 n] 0) [] (Kt [0, 1, 5, 25]) =
  some (V.tup [V.int Go.IntKind.i64 (nst s), V.int Go.IntKind.i64 n, V.ptr 0 0, V.int Go.IntKind.i64 0], [Blk.ints 51 Go.IntKind.i64 18 fun j => upd1 (fun j => upd1 (fun j => upd1 (fun j => upd1 (fun j => upd1 (fun j => upd1 (fun j => upd1 (fun j => upd1 (fun j => upd1 (fun j => upd1 (fun j => upd1 (fun j => upd1 (fun j => upd1 (fun j => upd1 (fun j => upd1 (fun j => upd1 (fun j => upd1 (fun j => upd1 (fun j => 0) 0 131072 j) 1 131073 j) 2 2 j) 3 4 j) 4 8 j) 5 16 j) 6 32 j) 7 64 j) 8 128 j) 9 256 j) 10 512 j) 11 132096 j) 12 133120 j) 13 4096 j) 14 8192 j) 15 16384 j) 16 32768 j) 17 196608 j]) := by kernel_rfl
end Go.Proofs.Ytcmlhcabbnpibaa

import Derived.Test.YtcmlhcabbnpibaaIrqB
set_option linter.unusedVariables false
set_option linter.unusedSimpArgs false
namespace Go.Proofs.Ytcmlhcabbnpibaa
open Go Go.R
theorem period_ev (b : Int) : evCall Try.prog [] 100 15 [.int .i64 b] [] (fun v _ => some v) =
  cond (wr Go.IntKind.i64 (31 - bitI BinOp.and Go.IntKind.i64 b 31) != 0) (some (V.int Go.IntKind.i64 (wr Go.IntKind.i64 (128 * wr Go.IntKind.i64 (31 - bitI BinOp.and Go.IntKind.i64 b 31))))) (some (V.int Go.IntKind.i64 64)) := by kernel_rfl
theorem state_ev (s : Int) : evCall Try.prog [] 100 34 [.int .i64 s] [] (fun v _ => some v) =
  cond (bitI BinOp.and Go.IntKind.i64 s 262143 == 0) (some (V.int Go.IntKind.i64 1)) (some (V.int Go.IntKind.i64 (bitI BinOp.and Go.IntKind.i64 s 262143))) := by kernel_rfl
theorem out_ev (s : Int) : evCall Try.prog [] 100 17 [.int .i64 s] [] (fun v _ => some v) =
  cond (bitI BinOp.and Go.IntKind.i64 s 262143 == 0) (some (V.int Go.IntKind.i64 31)) (some (V.int Go.IntKind.i64 (wr Go.IntKind.i64 (bitI BinOp.and Go.IntKind.i64 (bitI BinOp.and Go.IntKind.i64 s 262143) 1 * 31)))) := by kernel_rfl
theorem rperiod_ev (b : Int) : evCall Try.prog [sMod] 100 21 [.int .i64 b] [] (fun v _ => some v) =
  cond (wr Go.IntKind.i64 (31 - b % 32) == 0) (some (V.int Go.IntKind.i64 64)) (some (V.int Go.IntKind.i64 (wr Go.IntKind.i64 (128 * wr Go.IntKind.i64 (31 - b % 32))))) := by kernel_rfl
theorem rstate_ev (s : Int) : evCall Try.prog [sMod] 100 38 [.int .i64 s] [] (fun v _ => some v) =
  cond (s % 262144 == 0) (some (V.int Go.IntKind.i64 1)) (some (V.int Go.IntKind.i64 (s % 262144))) := by kernel_rfl
theorem rbit0_ev (s : Int) : evCall Try.prog [] 100 39 [.int .i64 s, .int .i64 0] [] (fun v _ => some v) =
  some (V.int Go.IntKind.i64 ((wr Go.IntKind.i64 (s.tdiv 1)).tmod 2)) := by kernel_rfl
theorem rbit1_ev (s : Int) : evCall Try.prog [] 100 39 [.int .i64 s, .int .i64 1] [] (fun v _ => some v) =
  some (V.int Go.IntKind.i64 ((wr Go.IntKind.i64 (s.tdiv 2)).tmod 2)) := by kernel_rfl
theorem rbit11_ev (s : Int) : evCall Try.prog [] 100 39 [.int .i64 s, .int .i64 11] [] (fun v _ => some v) =
  some (V.int Go.IntKind.i64 ((wr Go.IntKind.i64 (s.tdiv 2048)).tmod 2)) := by kernel_rfl
theorem rbit12_ev (s : Int) : evCall Try.prog [] 100 39 [.int .i64 s, .int .i64 12] [] (fun v _ => some v) =
  some (V.int Go.IntKind.i64 ((wr Go.IntKind.i64 (s.tdiv 4096)).tmod 2)) := by kernel_rfl
theorem rbit17_ev (s : Int) : evCall Try.prog [] 100 39 [.int .i64 s, .int .i64 17] [] (fun v _ => some v) =
  some (V.int Go.IntKind.i64 ((wr Go.IntKind.i64 (s.tdiv 131072)).tmod 2)) := by kernel_rfl
end Go.Proofs.Ytcmlhcabbnpibaa

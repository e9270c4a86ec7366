import Derived.Test.YtecbemlfhmepfaaZ
set_option linter.unusedVariables false
set_option linter.unusedSimpArgs false
namespace Go.Proofs.Ytecbemlfhmepfaa
open Go Go.R
theorem byte_ev (n : Int) : evCall Try.prog [] 100 16 [.int .i64 n] [] (fun v _ => some v) =
  some (V.int Go.IntKind.i64 (bitI BinOp.and Go.IntKind.i64 n 255)) := by kernel_rfl
theorem withh_ev (p f : Int) (on : Bool) : evCall Try.prog [] 100 20 [.int .i64 p, .int .i64 f, .bool on] [] (fun v _ => some v) =
  cond on (some (V.int Go.IntKind.i64 (bitI BinOp.or Go.IntKind.i64 p f))) (some (V.int Go.IntKind.i64 (bitI BinOp.andNot Go.IntKind.i64 p f))) := by kernel_rfl
theorem mod_ev (n m : Int) : evCall Try.prog [] 100 31 [.int .i64 n, .int .i64 m] [] (fun v _ => some v) =
  cond (!m == 0) (cond (decide (n.tmod m < 0)) (some (V.int Go.IntKind.i64 (wr Go.IntKind.i64 (n.tmod m + m)))) (some (V.int Go.IntKind.i64 (n.tmod m)))) none := by kernel_rfl
theorem set_ev (p f : Int) (on : Bool) : evCall Try.prog [] 100 27 [.int .i64 p, .int .i64 f, .bool on] [] (fun v _ => some v) =
  cond (!f == 0) (cond on (some (V.int Go.IntKind.i64 (wr Go.IntKind.i64 (wr Go.IntKind.i64 (p - wr Go.IntKind.i64 ((wr Go.IntKind.i64 (p.tdiv f)).tmod 2 * f)) + f)))) (some (V.int Go.IntKind.i64 (wr Go.IntKind.i64 (p - wr Go.IntKind.i64 ((wr Go.IntKind.i64 (p.tdiv f)).tmod 2 * f)))))) none := by kernel_rfl
theorem add1_ev (x y c : Int) : evCall Try.prog [] 100 29 [.int .i64 x, .int .i64 y, .ptr 0 0] [.ints 3 .i64 1 (fun _ => c)] (fun v σ => some (v, σ)) =
  cond (decide (wr Go.IntKind.i64 (wr Go.IntKind.i64 (bitI BinOp.and Go.IntKind.i64 x 15 + bitI BinOp.and Go.IntKind.i64 y 15) + c) > 9)) (cond (decide (wr Go.IntKind.i64 (wr Go.IntKind.i64 (wr Go.IntKind.i64 (bitI BinOp.and Go.IntKind.i64 x 15 + bitI BinOp.and Go.IntKind.i64 y 15) + c) + 6) > 15)) (some (V.int Go.IntKind.i64 (bitI BinOp.and Go.IntKind.i64 (wr Go.IntKind.i64 (wr Go.IntKind.i64 (wr Go.IntKind.i64 (bitI BinOp.and Go.IntKind.i64 x 15 + bitI BinOp.and Go.IntKind.i64 y 15) + c) + 6)) 15), [Blk.ints 3 Go.IntKind.i64 1 fun j => upd1 (fun j => upd1 (fun j => c) 0 0 j) 0 1 j])) (some (V.int Go.IntKind.i64 (bitI BinOp.and Go.IntKind.i64 (wr Go.IntKind.i64 (wr Go.IntKind.i64 (wr Go.IntKind.i64 (bitI BinOp.and Go.IntKind.i64 x 15 + bitI BinOp.and Go.IntKind.i64 y 15) + c) + 6)) 15), [Blk.ints 3 Go.IntKind.i64 1 fun j => upd1 (fun j => c) 0 0 j]))) (cond (decide (wr Go.IntKind.i64 (wr Go.IntKind.i64 (bitI BinOp.and Go.IntKind.i64 x 15 + bitI BinOp.and Go.IntKind.i64 y 15) + c) > 15)) (some (V.int Go.IntKind.i64 (bitI BinOp.and Go.IntKind.i64 (wr Go.IntKind.i64 (wr Go.IntKind.i64 (bitI BinOp.and Go.IntKind.i64 x 15 + bitI BinOp.and Go.IntKind.i64 y 15) + c)) 15), [Blk.ints 3 Go.IntKind.i64 1 fun j => upd1 (fun j => upd1 (fun j => c) 0 0 j) 0 1 j])) (some (V.int Go.IntKind.i64 (bitI BinOp.and Go.IntKind.i64 (wr Go.IntKind.i64 (wr Go.IntKind.i64 (bitI BinOp.and Go.IntKind.i64 x 15 + bitI BinOp.and Go.IntKind.i64 y 15) + c)) 15), [Blk.ints 3 Go.IntKind.i64 1 fun j => upd1 (fun j => c) 0 0 j]))) := by kernel_rfl
end Go.Proofs.Ytecbemlfhmepfaa

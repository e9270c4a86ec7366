import Derived.Test.YtkhlghlmmnemeaaNz
import Derived.Test.YtkhlghlmmnemeaaO
set_option linter.unusedVariables false
set_option linter.unusedSimpArgs false
namespace Go.Proofs.Ytkhlghlmmnemeaa
open Go Go.R
theorem plfo_ev (f : Nat → Int) : evCall Try.prog [] 300 40 [.ptr 0 0] [.ints 32 .i64 244 f] (fun v σ => some (v, σ)) =
  cond (bitI BinOp.and Go.IntKind.i64 (f 3) 128 != 0) (some (V.int Go.IntKind.i64 0, [Blk.ints 32 Go.IntKind.i64 244 f])) (some (V.int Go.IntKind.i64 (bitI BinOp.and Go.IntKind.i64 (f 3) 3), [Blk.ints 32 Go.IntKind.i64 244 f])) := by kernel_rfl
theorem steps_ev (g : Nat → Int) (a : Int) : evCall Try.prog [] 300 46 [.aggi .i64 1 g, .int .i64 a] [] (fun v _ => some v) =
  cond (!g 0 == 0) (cond (!g 0 == 0) (some (V.tup [V.int Go.IntKind.i64 (wr Go.IntKind.i64 (a.tdiv (g 0))), V.int Go.IntKind.i64 (a.tmod (g 0))])) none) none := by kernel_rfl
theorem value_ev (f : Nat → Int) (t : Int) (o : Nat) (nz : Bool) : evCall Try.prog [Nz.sOut] 300 41 [.agg [.int .i64 t, .ptr 0 o, .bool nz]] [.ints 32 .i64 244 f] (fun v σ => some (v, σ.take 1)) =
  cond ((o + 1 + 1).ble 244) (cond (bitI BinOp.and Go.IntKind.i64 (f (o + 1)) 64 != 0) (cond ((o + 39 + 1).ble 244) (some (V.int Go.IntKind.i64 (f (o + 39)), [Blk.ints 32 Go.IntKind.i64 244 f])) none) (cond nz (cond ((o + 38 + 1).ble 244) (some (V.int Go.IntKind.i64 (Nz.nst (f (o + 38)) % 2 * 31), [Blk.ints 32 Go.IntKind.i64 244 f])) none) (cond ((o + 36 + 1).ble 244) (cond (inR (f (o + 36)) 32) (cond ((o + 4 + scaled (f (o + 36)) 1 + 1).ble 244) (some (V.int Go.IntKind.i64 (f (o + 4 + scaled (f (o + 36)) 1)), [Blk.ints 32 Go.IntKind.i64 244 f])) none) none) none))) none := by kernel_rfl
theorem rlfo_ev (f : Nat → Int) : evCall Try.prog [] 300 36 [.aggi .i64 244 f] [] (fun v _ => some v) =
  cond (decide (f 3 ≥ 128)) (some (V.int Go.IntKind.i64 0)) (some (V.int Go.IntKind.i64 ((f 3).tmod 4))) := by kernel_rfl
theorem rnoisy_ev (f : Nat → Int) (k : Int) : evCall Try.prog [] 300 37 [.aggi .i64 244 f, .int .i64 k] [] (fun v _ => some v) =
  cond (decide (k ≥ 4)) (cond (inR k 6) (cond ((4 + scaled k 40 + 3 + 1).ble 244) (some (V.bool (decide (f (4 + scaled k 40 + 3) ≥ 128)))) none) none) (some (V.bool false)) := by kernel_rfl
end Go.Proofs.Ytkhlghlmmnemeaa

import Derived.Test.YtkhlghlmmnemeaaM1
import Derived.Test.YtkhlghlmmnemeaaN
set_option linter.unusedVariables false
set_option linter.unusedSimpArgs false
namespace Go.Proofs.Ytkhlghlmmnemeaa
open Go Go.R
theorem writeBad_ev (f : Nat → Int) (at_ b : Int) : evCallH Try.prog [sValid, sByte] [(8, .bool false)] 300 19 [.aggi .i64 244 f, .int .i64 at_, .int .i64 b] [] (fun v _ => some v) =
  cond ((okP fun j => f (0 + j)) == false) (some (V.aggi Go.IntKind.i64 244 fun j => upd (fun j => 0) 0 244 (fun j => f (0 + j)) (0 + j))) none := by kernel_rfl
theorem rwriteBad_ev (f : Nat → Int) (at_ b : Int) : evCallH Try.prog [sRValid, sRByte] [(9, .bool false)] 300 20 [.aggi .i64 244 f, .int .i64 at_, .int .i64 b] [] (fun v _ => some v) =
  cond ((okP fun j => f (0 + j)) == false) (some (V.aggi Go.IntKind.i64 244 fun j => upd (fun j => 0) 0 244 (fun j => f (0 + j)) (0 + j))) none := by kernel_rfl
theorem write0_ev (f : Nat → Int) (b : Int) (B : Int) : evCallH Try.prog [sValid, sByte] [(8, .bool true), (12, .int .i64 B)] 300 19 [.aggi .i64 244 f, .int .i64 0, .int .i64 b] [] (fun v _ => some v) =
  cond ((okP fun j => f (0 + j)) == true) (cond (b % 256 == B) (some (V.aggi Go.IntKind.i64 244 fun j => upd (fun j => 0) 0 244 (fun j => upd1 f 0 (bitI BinOp.and Go.IntKind.i64 B 7) (0 + j)) (0 + j))) none) none := by kernel_rfl
theorem rwrite0_ev (f : Nat → Int) (b : Int) (B : Int) : evCallH Try.prog [sRValid, sRByte] [(9, .bool true), (13, .int .i64 B)] 300 20 [.aggi .i64 244 f, .int .i64 0, .int .i64 b] [] (fun v _ => some v) =
  cond ((okP fun j => f (0 + j)) == true) (cond (b % 256 == B) (cond (decide (B.tmod 8 > 5)) (some (V.aggi Go.IntKind.i64 244 fun j => upd (fun j => 0) 0 244 (fun j => upd1 f 0 (B.tmod 8) (0 + j)) (0 + j))) (some (V.aggi Go.IntKind.i64 244 fun j => upd (fun j => 0) 0 244 (fun j => upd1 f 0 (B.tmod 8) (0 + j)) (0 + j)))) none) none := by kernel_rfl
theorem write1_ev (f : Nat → Int) (b : Int) (B : Int) : evCallH Try.prog [sValid, sByte] [(8, .bool true), (12, .int .i64 B)] 300 19 [.aggi .i64 244 f, .int .i64 1, .int .i64 b] [] (fun v _ => some v) =
  cond ((okP fun j => f (0 + j)) == true) (cond (b % 256 == B) (some (V.aggi Go.IntKind.i64 244 fun j => upd (fun j => 0) 0 244 (fun j => upd1 f 1 B (0 + j)) (0 + j))) none) none := by kernel_rfl
theorem rwrite1_ev (f : Nat → Int) (b : Int) (B : Int) : evCallH Try.prog [sRValid, sRByte] [(9, .bool true), (13, .int .i64 B)] 300 20 [.aggi .i64 244 f, .int .i64 1, .int .i64 b] [] (fun v _ => some v) =
  cond ((okP fun j => f (0 + j)) == true) (cond (b % 256 == B) (cond (decide (f 0 > 5)) (some (V.aggi Go.IntKind.i64 244 fun j => upd (fun j => 0) 0 244 (fun j => upd1 f 1 B (0 + j)) (0 + j))) (some (V.aggi Go.IntKind.i64 244 fun j => upd (fun j => 0) 0 244 (fun j => upd1 f 1 B (0 + j)) (0 + j)))) none) none := by kernel_rfl
theorem write2_ev (f : Nat → Int) (b : Int) (B : Int) : evCallH Try.prog [sValid, sByte] [(8, .bool true), (12, .int .i64 B)] 300 19 [.aggi .i64 244 f, .int .i64 2, .int .i64 b] [] (fun v _ => some v) =
  cond ((okP fun j => f (0 + j)) == true) (cond (b % 256 == B) (cond (decide (f 0 < 6)) (cond (inR (f 0) 6) (cond ((4 + scaled (f 0) 40 + 0 + 1).ble 244) (cond ((4 + scaled (f 0) 40 + 0 + 1).ble 244) (some (V.aggi Go.IntKind.i64 244 fun j => upd (fun j => 0) 0 244 (fun j => upd1 f (4 + scaled (f 0) 40 + 0) (bitI BinOp.or Go.IntKind.i64 (bitI BinOp.andNot Go.IntKind.i64 (f (4 + scaled (f 0) 40 + 0)) 255) B) (0 + j)) (0 + j))) none) none) none) (some (V.aggi Go.IntKind.i64 244 fun j => upd (fun j => 0) 0 244 (fun j => f (0 + j)) (0 + j)))) none) none := by kernel_rfl
theorem rwrite2_ev (f : Nat → Int) (b : Int) (B : Int) : evCallH Try.prog [sRValid, sRByte] [(9, .bool true), (13, .int .i64 B)] 300 20 [.aggi .i64 244 f, .int .i64 2, .int .i64 b] [] (fun v _ => some v) =
  cond ((okP fun j => f (0 + j)) == true) (cond (b % 256 == B) (cond (decide (f 0 > 5)) (some (V.aggi Go.IntKind.i64 244 fun j => upd (fun j => 0) 0 244 (fun j => f (0 + j)) (0 + j))) (cond (inR (f 0) 6) (cond ((4 + scaled (f 0) 40 + 40).ble 244) (cond (inR (f 0) 6) (cond ((4 + scaled (f 0) 40 + 40).ble 244) (some (V.aggi Go.IntKind.i64 244 fun j => upd (fun j => 0) 0 244 (fun j => upd f (4 + scaled (f 0) 40) 40 (fun j => upd1 (fun j => upd (fun j => 0) 0 40 (fun j => f (4 + scaled (f 0) 40 + j)) j) 0 (wr Go.IntKind.i64 (wr Go.IntKind.i64 (wr Go.IntKind.i64 ((f (4 + scaled (f 0) 40 + 0)).tdiv 256) * 256) + B)) (0 + j)) (0 + j)) (0 + j))) none) none) none) none)) none) none := by kernel_rfl
theorem write3_ev (f : Nat → Int) (b : Int) (B : Int) : evCallH Try.prog [sValid, sByte] [(8, .bool true), (12, .int .i64 B)] 300 19 [.aggi .i64 244 f, .int .i64 3, .int .i64 b] [] (fun v _ => some v) =
  cond ((okP fun j => f (0 + j)) == true) (cond (b % 256 == B) (cond (decide (f 0 < 6)) (cond (inR (f 0) 6) (cond ((4 + scaled (f 0) 40 + 0 + 1).ble 244) (cond ((4 + scaled (f 0) 40 + 0 + 1).ble 244) (some (V.aggi Go.IntKind.i64 244 fun j => upd (fun j => 0) 0 244 (fun j => upd1 f (4 + scaled (f 0) 40 + 0) (bitI BinOp.or Go.IntKind.i64 (bitI BinOp.and Go.IntKind.i64 (f (4 + scaled (f 0) 40 + 0)) 255) (wr Go.IntKind.i64 (bitI BinOp.and Go.IntKind.i64 B 15 * 256))) (0 + j)) (0 + j))) none) none) none) (some (V.aggi Go.IntKind.i64 244 fun j => upd (fun j => 0) 0 244 (fun j => f (0 + j)) (0 + j)))) none) none := by kernel_rfl
theorem rwrite3_ev (f : Nat → Int) (b : Int) (B : Int) : evCallH Try.prog [sRValid, sRByte] [(9, .bool true), (13, .int .i64 B)] 300 20 [.aggi .i64 244 f, .int .i64 3, .int .i64 b] [] (fun v _ => some v) =
  cond ((okP fun j => f (0 + j)) == true) (cond (b % 256 == B) (cond (decide (f 0 > 5)) (some (V.aggi Go.IntKind.i64 244 fun j => upd (fun j => 0) 0 244 (fun j => f (0 + j)) (0 + j))) (cond (inR (f 0) 6) (cond ((4 + scaled (f 0) 40 + 40).ble 244) (cond (inR (f 0) 6) (cond ((4 + scaled (f 0) 40 + 40).ble 244) (some (V.aggi Go.IntKind.i64 244 fun j => upd (fun j => 0) 0 244 (fun j => upd f (4 + scaled (f 0) 40) 40 (fun j => upd1 (fun j => upd (fun j => 0) 0 40 (fun j => f (4 + scaled (f 0) 40 + j)) j) 0 (wr Go.IntKind.i64 ((f (4 + scaled (f 0) 40 + 0)).tmod 256 + wr Go.IntKind.i64 (B.tmod 16 * 256))) (0 + j)) (0 + j)) (0 + j))) none) none) none) none)) none) none := by kernel_rfl
theorem write4_ev (f : Nat → Int) (b : Int) (B : Int) : evCallH Try.prog [sValid, sByte] [(8, .bool true), (12, .int .i64 B)] 300 19 [.aggi .i64 244 f, .int .i64 4, .int .i64 b] [] (fun v _ => some v) =
  cond ((okP fun j => f (0 + j)) == true) (cond (b % 256 == B) (cond (decide (f 0 < 6)) (cond (inR (f 0) 6) (cond ((4 + scaled (f 0) 40 + 1 + 1).ble 244) (cond (bitI BinOp.and Go.IntKind.i64 B 192 == 64) (cond ((4 + scaled (f 0) 40 + 36 + 1).ble 244) (some (V.aggi Go.IntKind.i64 244 fun j => upd (fun j => 0) 0 244 (fun j => upd1 (fun j => upd1 f (4 + scaled (f 0) 40 + 1) B j) (4 + scaled (f 0) 40 + 36) 0 (0 + j)) (0 + j))) none) (some (V.aggi Go.IntKind.i64 244 fun j => upd (fun j => 0) 0 244 (fun j => upd1 f (4 + scaled (f 0) 40 + 1) B (0 + j)) (0 + j)))) none) none) (some (V.aggi Go.IntKind.i64 244 fun j => upd (fun j => 0) 0 244 (fun j => f (0 + j)) (0 + j)))) none) none := by kernel_rfl
theorem rwrite4_ev (f : Nat → Int) (b : Int) (B : Int) : evCallH Try.prog [sRValid, sRByte] [(9, .bool true), (13, .int .i64 B)] 300 20 [.aggi .i64 244 f, .int .i64 4, .int .i64 b] [] (fun v _ => some v) =
  cond ((okP fun j => f (0 + j)) == true) (cond (b % 256 == B) (cond (decide (f 0 > 5)) (some (V.aggi Go.IntKind.i64 244 fun j => upd (fun j => 0) 0 244 (fun j => f (0 + j)) (0 + j))) (cond (inR (f 0) 6) (cond ((4 + scaled (f 0) 40 + 40).ble 244) (cond (wr Go.IntKind.i64 (B.tdiv 64) == 1) (cond (inR (f 0) 6) (cond ((4 + scaled (f 0) 40 + 40).ble 244) (some (V.aggi Go.IntKind.i64 244 fun j => upd (fun j => 0) 0 244 (fun j => upd f (4 + scaled (f 0) 40) 40 (fun j => upd1 (fun j => upd1 (fun j => upd (fun j => 0) 0 40 (fun j => f (4 + scaled (f 0) 40 + j)) j) 1 B j) 36 0 (0 + j)) (0 + j)) (0 + j))) none) none) (cond (inR (f 0) 6) (cond ((4 + scaled (f 0) 40 + 40).ble 244) (some (V.aggi Go.IntKind.i64 244 fun j => upd (fun j => 0) 0 244 (fun j => upd f (4 + scaled (f 0) 40) 40 (fun j => upd1 (fun j => upd (fun j => 0) 0 40 (fun j => f (4 + scaled (f 0) 40 + j)) j) 1 B (0 + j)) (0 + j)) (0 + j))) none) none)) none) none)) none) none := by kernel_rfl
theorem write5_ev (f : Nat → Int) (b : Int) (B : Int) : evCallH Try.prog [sValid, sByte] [(8, .bool true), (12, .int .i64 B)] 300 19 [.aggi .i64 244 f, .int .i64 5, .int .i64 b] [] (fun v _ => some v) =
  cond ((okP fun j => f (0 + j)) == true) (cond (b % 256 == B) (cond (decide (f 0 < 6)) (cond (inR (f 0) 6) (cond ((4 + scaled (f 0) 40 + 2 + 1).ble 244) (some (V.aggi Go.IntKind.i64 244 fun j => upd (fun j => 0) 0 244 (fun j => upd1 f (4 + scaled (f 0) 40 + 2) B (0 + j)) (0 + j))) none) none) (some (V.aggi Go.IntKind.i64 244 fun j => upd (fun j => 0) 0 244 (fun j => f (0 + j)) (0 + j)))) none) none := by kernel_rfl
theorem rwrite5_ev (f : Nat → Int) (b : Int) (B : Int) : evCallH Try.prog [sRValid, sRByte] [(9, .bool true), (13, .int .i64 B)] 300 20 [.aggi .i64 244 f, .int .i64 5, .int .i64 b] [] (fun v _ => some v) =
  cond ((okP fun j => f (0 + j)) == true) (cond (b % 256 == B) (cond (decide (f 0 > 5)) (some (V.aggi Go.IntKind.i64 244 fun j => upd (fun j => 0) 0 244 (fun j => f (0 + j)) (0 + j))) (cond (inR (f 0) 6) (cond ((4 + scaled (f 0) 40 + 40).ble 244) (cond (inR (f 0) 6) (cond ((4 + scaled (f 0) 40 + 40).ble 244) (some (V.aggi Go.IntKind.i64 244 fun j => upd (fun j => 0) 0 244 (fun j => upd f (4 + scaled (f 0) 40) 40 (fun j => upd1 (fun j => upd (fun j => 0) 0 40 (fun j => f (4 + scaled (f 0) 40 + j)) j) 2 B (0 + j)) (0 + j)) (0 + j))) none) none) none) none)) none) none := by kernel_rfl
theorem write6_ev (f : Nat → Int) (b : Int) (B : Int) : evCallH Try.prog [sValid, sByte] [(8, .bool true), (12, .int .i64 B)] 300 19 [.aggi .i64 244 f, .int .i64 6, .int .i64 b] [] (fun v _ => some v) =
  cond ((okP fun j => f (0 + j)) == true) (cond (b % 256 == B) (cond (decide (f 0 < 6)) (cond (inR (f 0) 6) (cond ((4 + scaled (f 0) 40 + 1 + 1).ble 244) (cond (bitI BinOp.and Go.IntKind.i64 (f (4 + scaled (f 0) 40 + 1)) 64 != 0) (cond ((4 + scaled (f 0) 40 + 39 + 1).ble 244) (some (V.aggi Go.IntKind.i64 244 fun j => upd (fun j => 0) 0 244 (fun j => upd1 f (4 + scaled (f 0) 40 + 39) (bitI BinOp.and Go.IntKind.i64 B 31) (0 + j)) (0 + j))) none) (cond ((4 + scaled (f 0) 40 + 36 + 1).ble 244) (cond (inR (f (4 + scaled (f 0) 40 + 36)) 32) (cond ((4 + scaled (f 0) 40 + 4 + scaled (f (4 + scaled (f 0) 40 + 36)) 1 + 1).ble 244 && true) (cond ((4 + scaled (f 0) 40 + 36 + 1).ble 244) (cond ((4 + scaled (f 0) 40 + 36 + 1).ble 244) (some (V.aggi Go.IntKind.i64 244 fun j => upd (fun j => 0) 0 244 (fun j => upd1 (fun j => upd1 f (4 + scaled (f 0) 40 + 4 + scaled (f (4 + scaled (f 0) 40 + 36)) 1) (bitI BinOp.and Go.IntKind.i64 B 31) j) (4 + scaled (f 0) 40 + 36) ((wr Go.IntKind.i64 (upd1 f (4 + scaled (f 0) 40 + 4 + scaled (f (4 + scaled (f 0) 40 + 36)) 1) (bitI BinOp.and Go.IntKind.i64 B 31) (4 + scaled (f 0) 40 + 36) + 1)).tmod 32) (0 + j)) (0 + j))) none) none) none) none) none)) none) none) (some (V.aggi Go.IntKind.i64 244 fun j => upd (fun j => 0) 0 244 (fun j => f (0 + j)) (0 + j)))) none) none := by kernel_rfl
theorem rwrite6_ev (f : Nat → Int) (b : Int) (B : Int) : evCallH Try.prog [sRValid, sRByte] [(9, .bool true), (13, .int .i64 B)] 300 20 [.aggi .i64 244 f, .int .i64 6, .int .i64 b] [] (fun v _ => some v) =
  cond ((okP fun j => f (0 + j)) == true) (cond (b % 256 == B) (cond (decide (f 0 > 5)) (some (V.aggi Go.IntKind.i64 244 fun j => upd (fun j => 0) 0 244 (fun j => f (0 + j)) (0 + j))) (cond (inR (f 0) 6) (cond ((4 + scaled (f 0) 40 + 40).ble 244) (cond ((wr Go.IntKind.i64 ((f (4 + scaled (f 0) 40 + 1)).tdiv 64)).tmod 2 == 1) (cond (inR (f 0) 6) (cond ((4 + scaled (f 0) 40 + 40).ble 244) (some (V.aggi Go.IntKind.i64 244 fun j => upd (fun j => 0) 0 244 (fun j => upd f (4 + scaled (f 0) 40) 40 (fun j => upd1 (fun j => upd (fun j => 0) 0 40 (fun j => f (4 + scaled (f 0) 40 + j)) j) 39 (B.tmod 32) (0 + j)) (0 + j)) (0 + j))) none) none) (cond (inR (f (4 + scaled (f 0) 40 + 36)) 32) (cond ((4 + scaled (f (4 + scaled (f 0) 40 + 36)) 1 + 1).ble 40) (cond (inR (f 0) 6) (cond ((4 + scaled (f 0) 40 + 40).ble 244) (some (V.aggi Go.IntKind.i64 244 fun j => upd (fun j => 0) 0 244 (fun j => upd f (4 + scaled (f 0) 40) 40 (fun j => upd1 (fun j => upd1 (fun j => upd (fun j => 0) 0 40 (fun j => f (4 + scaled (f 0) 40 + j)) j) (4 + scaled (f (4 + scaled (f 0) 40 + 36)) 1) (B.tmod 32) j) 36 ((wr Go.IntKind.i64 (upd1 (fun j => upd (fun j => 0) 0 40 (fun j => f (4 + scaled (f 0) 40 + j)) j) (4 + scaled (f (4 + scaled (f 0) 40 + 36)) 1) (B.tmod 32) 36 + 1)).tmod 32) (0 + j)) (0 + j)) (0 + j))) none) none) none) none)) none) none)) none) none := by kernel_rfl
theorem write7_ev (f : Nat → Int) (b : Int) (B : Int) : evCallH Try.prog [sValid, sByte] [(8, .bool true), (12, .int .i64 B)] 300 19 [.aggi .i64 244 f, .int .i64 7, .int .i64 b] [] (fun v _ => some v) =
  cond ((okP fun j => f (0 + j)) == true) (cond (b % 256 == B) (cond (decide (f 0 < 6)) (cond (inR (f 0) 6) (cond (decide (f 0 ≥ 4)) (cond ((4 + scaled (f 0) 40 + 3 + 1).ble 244) (some (V.aggi Go.IntKind.i64 244 fun j => upd (fun j => 0) 0 244 (fun j => upd1 f (4 + scaled (f 0) 40 + 3) B (0 + j)) (0 + j))) none) (some (V.aggi Go.IntKind.i64 244 fun j => upd (fun j => 0) 0 244 (fun j => f (0 + j)) (0 + j)))) none) (some (V.aggi Go.IntKind.i64 244 fun j => upd (fun j => 0) 0 244 (fun j => f (0 + j)) (0 + j)))) none) none := by kernel_rfl
theorem rwrite7_ev (f : Nat → Int) (b : Int) (B : Int) : evCallH Try.prog [sRValid, sRByte] [(9, .bool true), (13, .int .i64 B)] 300 20 [.aggi .i64 244 f, .int .i64 7, .int .i64 b] [] (fun v _ => some v) =
  cond ((okP fun j => f (0 + j)) == true) (cond (b % 256 == B) (cond (decide (f 0 > 5)) (some (V.aggi Go.IntKind.i64 244 fun j => upd (fun j => 0) 0 244 (fun j => f (0 + j)) (0 + j))) (cond (inR (f 0) 6) (cond ((4 + scaled (f 0) 40 + 40).ble 244) (cond (decide (f 0 ≥ 4)) (cond (inR (f 0) 6) (cond ((4 + scaled (f 0) 40 + 40).ble 244) (some (V.aggi Go.IntKind.i64 244 fun j => upd (fun j => 0) 0 244 (fun j => upd f (4 + scaled (f 0) 40) 40 (fun j => upd1 (fun j => upd (fun j => 0) 0 40 (fun j => f (4 + scaled (f 0) 40 + j)) j) 3 B (0 + j)) (0 + j)) (0 + j))) none) none) (cond (inR (f 0) 6) (cond ((4 + scaled (f 0) 40 + 40).ble 244) (some (V.aggi Go.IntKind.i64 244 fun j => upd (fun j => 0) 0 244 (fun j => upd f (4 + scaled (f 0) 40) 40 (fun j => upd (fun j => 0) 0 40 (fun j => f (4 + scaled (f 0) 40 + j)) (0 + j)) (0 + j)) (0 + j))) none) none)) none) none)) none) none := by kernel_rfl
theorem write8_ev (f : Nat → Int) (b : Int) (B : Int) : evCallH Try.prog [sValid, sByte] [(8, .bool true), (12, .int .i64 B)] 300 19 [.aggi .i64 244 f, .int .i64 8, .int .i64 b] [] (fun v _ => some v) =
  cond ((okP fun j => f (0 + j)) == true) (cond (b % 256 == B) (some (V.aggi Go.IntKind.i64 244 fun j => upd (fun j => 0) 0 244 (fun j => upd1 f 2 B (0 + j)) (0 + j))) none) none := by kernel_rfl
theorem rwrite8_ev (f : Nat → Int) (b : Int) (B : Int) : evCallH Try.prog [sRValid, sRByte] [(9, .bool true), (13, .int .i64 B)] 300 20 [.aggi .i64 244 f, .int .i64 8, .int .i64 b] [] (fun v _ => some v) =
  cond ((okP fun j => f (0 + j)) == true) (cond (b % 256 == B) (cond (decide (f 0 > 5)) (some (V.aggi Go.IntKind.i64 244 fun j => upd (fun j => 0) 0 244 (fun j => upd1 f 2 B (0 + j)) (0 + j))) (some (V.aggi Go.IntKind.i64 244 fun j => upd (fun j => 0) 0 244 (fun j => upd1 f 2 B (0 + j)) (0 + j)))) none) none := by kernel_rfl
theorem write9_ev (f : Nat → Int) (b : Int) (B : Int) : evCallH Try.prog [sValid, sByte] [(8, .bool true), (12, .int .i64 B)] 300 19 [.aggi .i64 244 f, .int .i64 9, .int .i64 b] [] (fun v _ => some v) =
  cond ((okP fun j => f (0 + j)) == true) (cond (b % 256 == B) (some (V.aggi Go.IntKind.i64 244 fun j => upd (fun j => 0) 0 244 (fun j => upd1 f 3 B (0 + j)) (0 + j))) none) none := by kernel_rfl
theorem rwrite9_ev (f : Nat → Int) (b : Int) (B : Int) : evCallH Try.prog [sRValid, sRByte] [(9, .bool true), (13, .int .i64 B)] 300 20 [.aggi .i64 244 f, .int .i64 9, .int .i64 b] [] (fun v _ => some v) =
  cond ((okP fun j => f (0 + j)) == true) (cond (b % 256 == B) (cond (decide (f 0 > 5)) (some (V.aggi Go.IntKind.i64 244 fun j => upd (fun j => 0) 0 244 (fun j => upd1 f 3 B (0 + j)) (0 + j))) (some (V.aggi Go.IntKind.i64 244 fun j => upd (fun j => 0) 0 244 (fun j => upd1 f 3 B (0 + j)) (0 + j)))) none) none := by kernel_rfl
theorem writeN_ev (f : Nat → Int) (at_ b : Int) (B : Int) : evCallH Try.prog [sValid, sByte] [(8, .bool true), (12, .int .i64 B), (28, .bool false), (33, .bool false), (37, .bool false), (41, .bool false)] 300 19 [.aggi .i64 244 f, .int .i64 at_, .int .i64 b] [] (fun v _ => some v) =
  cond ((okP fun j => f (0 + j)) == true) (cond (b % 256 == B) (cond ((at_ == 0) == false) (cond ((at_ == 1) == false) (cond ((at_ == 8) == false) (cond ((at_ == 9) == false) (cond (decide (f 0 < 6)) (cond (inR (f 0) 6) (cond (at_ == 2) (cond ((4 + scaled (f 0) 40 + 0 + 1).ble 244) (cond ((4 + scaled (f 0) 40 + 0 + 1).ble 244) (some (V.aggi Go.IntKind.i64 244 fun j => upd (fun j => 0) 0 244 (fun j => upd1 f (4 + scaled (f 0) 40 + 0) (bitI BinOp.or Go.IntKind.i64 (bitI BinOp.andNot Go.IntKind.i64 (f (4 + scaled (f 0) 40 + 0)) 255) B) (0 + j)) (0 + j))) none) none) (cond (at_ == 3) (cond ((4 + scaled (f 0) 40 + 0 + 1).ble 244) (cond ((4 + scaled (f 0) 40 + 0 + 1).ble 244) (some (V.aggi Go.IntKind.i64 244 fun j => upd (fun j => 0) 0 244 (fun j => upd1 f (4 + scaled (f 0) 40 + 0) (bitI BinOp.or Go.IntKind.i64 (bitI BinOp.and Go.IntKind.i64 (f (4 + scaled (f 0) 40 + 0)) 255) (wr Go.IntKind.i64 (bitI BinOp.and Go.IntKind.i64 B 15 * 256))) (0 + j)) (0 + j))) none) none) (cond (at_ == 4) (cond ((4 + scaled (f 0) 40 + 1 + 1).ble 244) (cond (bitI BinOp.and Go.IntKind.i64 B 192 == 64) (cond ((4 + scaled (f 0) 40 + 36 + 1).ble 244) (some (V.aggi Go.IntKind.i64 244 fun j => upd (fun j => 0) 0 244 (fun j => upd1 (fun j => upd1 f (4 + scaled (f 0) 40 + 1) B j) (4 + scaled (f 0) 40 + 36) 0 (0 + j)) (0 + j))) none) (some (V.aggi Go.IntKind.i64 244 fun j => upd (fun j => 0) 0 244 (fun j => upd1 f (4 + scaled (f 0) 40 + 1) B (0 + j)) (0 + j)))) none) (cond (at_ == 5) (cond ((4 + scaled (f 0) 40 + 2 + 1).ble 244) (some (V.aggi Go.IntKind.i64 244 fun j => upd (fun j => 0) 0 244 (fun j => upd1 f (4 + scaled (f 0) 40 + 2) B (0 + j)) (0 + j))) none) (cond (at_ == 6) (cond ((4 + scaled (f 0) 40 + 1 + 1).ble 244) (cond (bitI BinOp.and Go.IntKind.i64 (f (4 + scaled (f 0) 40 + 1)) 64 != 0) (cond ((4 + scaled (f 0) 40 + 39 + 1).ble 244) (some (V.aggi Go.IntKind.i64 244 fun j => upd (fun j => 0) 0 244 (fun j => upd1 f (4 + scaled (f 0) 40 + 39) (bitI BinOp.and Go.IntKind.i64 B 31) (0 + j)) (0 + j))) none) (cond ((4 + scaled (f 0) 40 + 36 + 1).ble 244) (cond (inR (f (4 + scaled (f 0) 40 + 36)) 32) (cond ((4 + scaled (f 0) 40 + 4 + scaled (f (4 + scaled (f 0) 40 + 36)) 1 + 1).ble 244 && true) (cond ((4 + scaled (f 0) 40 + 36 + 1).ble 244) (cond ((4 + scaled (f 0) 40 + 36 + 1).ble 244) (some (V.aggi Go.IntKind.i64 244 fun j => upd (fun j => 0) 0 244 (fun j => upd1 (fun j => upd1 f (4 + scaled (f 0) 40 + 4 + scaled (f (4 + scaled (f 0) 40 + 36)) 1) (bitI BinOp.and Go.IntKind.i64 B 31) j) (4 + scaled (f 0) 40 + 36) ((wr Go.IntKind.i64 (upd1 f (4 + scaled (f 0) 40 + 4 + scaled (f (4 + scaled (f 0) 40 + 36)) 1) (bitI BinOp.and Go.IntKind.i64 B 31) (4 + scaled (f 0) 40 + 36) + 1)).tmod 32) (0 + j)) (0 + j))) none) none) none) none) none)) none) (cond (at_ == 7) (cond (decide (f 0 ≥ 4)) (cond ((4 + scaled (f 0) 40 + 3 + 1).ble 244) (some (V.aggi Go.IntKind.i64 244 fun j => upd (fun j => 0) 0 244 (fun j => upd1 f (4 + scaled (f 0) 40 + 3) B (0 + j)) (0 + j))) none) (some (V.aggi Go.IntKind.i64 244 fun j => upd (fun j => 0) 0 244 (fun j => f (0 + j)) (0 + j)))) (some (V.aggi Go.IntKind.i64 244 fun j => upd (fun j => 0) 0 244 (fun j => f (0 + j)) (0 + j))))))))) none) (some (V.aggi Go.IntKind.i64 244 fun j => upd (fun j => 0) 0 244 (fun j => f (0 + j)) (0 + j)))) none) none) none) none) none) none := by kernel_rfl
theorem rwriteN_ev (f : Nat → Int) (at_ b : Int) (B : Int) : evCallH Try.prog [sRValid, sRByte] [(9, .bool true), (13, .int .i64 B), (16, .bool false), (21, .bool false), (25, .bool false), (29, .bool false), (42, .bool true)] 300 20 [.aggi .i64 244 f, .int .i64 at_, .int .i64 b] [] (fun v _ => some v) =
  cond ((okP fun j => f (0 + j)) == true) (cond (b % 256 == B) (cond ((at_ == 0) == false) (cond ((at_ == 1) == false) (cond ((at_ == 8) == false) (cond ((at_ == 9) == false) (cond (decide (f 0 > 5)) (some (V.aggi Go.IntKind.i64 244 fun j => upd (fun j => 0) 0 244 (fun j => f (0 + j)) (0 + j))) (cond (decide (at_ < 2)) (some (V.aggi Go.IntKind.i64 244 fun j => upd (fun j => 0) 0 244 (fun j => f (0 + j)) (0 + j))) (cond (decide (at_ > 7) == true) (some (V.aggi Go.IntKind.i64 244 fun j => upd (fun j => 0) 0 244 (fun j => f (0 + j)) (0 + j))) none))) none) none) none) none) none) none := by kernel_rfl
end Go.Proofs.Ytkhlghlmmnemeaa

namespace Go.Proofs.Ytkhlghlmmnemeaa
open Go Go.R
/-! ### a write, plainly -/
def wrC (f : Nat → Int) (o : Nat) (at_ B : Int) (nz : Bool) : Nat → Int :=
  if at_ = 2 then upd1 f o (f o / 256 * 256 + B) else if at_ = 3 then upd1 f o (f o % 256 + B % 16 * 256)
  else if at_ = 4 then (if B / 64 = 1 then upd1 (upd1 f (o + 1) B) (o + 36) 0 else upd1 f (o + 1) B)
  else if at_ = 5 then upd1 f (o + 2) B
  else if at_ = 6 then (if f (o + 1) / 64 % 2 = 1 then upd1 f (o + 39) (B % 32) else upd1 (upd1 f (o + 4 + (f (o + 36)).toNat) (B % 32)) (o + 36) ((f (o + 36) + 1) % 32))
  else if at_ = 7 then (if nz = true then upd1 f (o + 3) B else f) else f
def wrG (f : Nat → Int) (at_ B : Int) : Nat → Int :=
  if at_ = 0 then upd1 f 0 (B % 8) else if at_ = 1 then upd1 f 1 B else if at_ = 8 then upd1 f 2 B else if at_ = 9 then upd1 f 3 B
  else if f 0 < 6 then wrC f (4 + (f 0).toNat * 40) at_ B (decide (f 0 ≥ 4)) else f
def wrF (f : Nat → Int) (at_ b : Int) : Nat → Int := cut (if okP f = true then wrG f at_ (b % 256) else f)
theorem ok_shift (f : Nat → Int) : (okP fun j => f (0 + j)) = okP f := by rw [show (fun j => f (0 + j)) = f from funext fun j => by rw [Nat.zero_add]]
theorem ok_in {f : Nat → Int} (h : okP f = true) {j : Nat} {m : Int} (hj : (j, m) ∈ codesP) (hm : (m == -1) = false) : 0 ≤ f j ∧ f j ≤ m := by
  have h1 := List.all_eq_true.1 h (j, m) hj
  unfold chk at h1
  rw [if_neg (by simpa using hm)] at h1
  unfold inB at h1
  simp only [Bool.and_eq_true, Bool.not_eq_true', decide_eq_false_iff_not] at h1
  omega
theorem mem_ch : ∀ k : Fin 6, (4 + k.val * 40, (4095 : Int)) ∈ codesP ∧ (4 + k.val * 40 + 1, (255 : Int)) ∈ codesP ∧ (4 + k.val * 40 + 36, (31 : Int)) ∈ codesP := by decide +kernel
/-- which channel, and where it lies -/
theorem sel_cases {f : Nat → Int} (h : okP f = true) : (f 0 < 6 ∧ ∃ k : Nat, k < 6 ∧ f 0 = k ∧ scaled (f 0) 40 = k * 40 ∧ (f 0).toNat = k) ∨ ¬ f 0 < 6 := by
  by_cases h6 : f 0 < 6
  · left
    have h0 := ok_in h (j := 0) (m := 7) (by decide) rfl
    obtain ⟨k, hk⟩ := Int.eq_ofNat_of_zero_le h0.1
    refine ⟨h6, k, by omega, hk, ?_, by rw [hk]; simp⟩
    rw [scaled_eq, hk]; simp
  · exact .inr h6
theorem ch_bounds {f : Nat → Int} (h : okP f = true) {k : Nat} (hk : k < 6) : (0 ≤ f (4 + k * 40) ∧ f (4 + k * 40) ≤ 4095) ∧ (0 ≤ f (4 + k * 40 + 1) ∧ f (4 + k * 40 + 1) ≤ 255) ∧ (0 ≤ f (4 + k * 40 + 36) ∧ f (4 + k * 40 + 36) ≤ 31) := by
  obtain ⟨a, b, c⟩ := mem_ch ⟨k, hk⟩
  exact ⟨ok_in h a rfl, ok_in h b rfl, ok_in h c rfl⟩
def allN (f : Nat → Bool) (n : Nat) : Bool := Nat.rec true (fun n ih => f n && ih) n
theorem allN_spec {f : Nat → Bool} {n : Nat} (h : allN f n = true) : ∀ k, k < n → f k = true := by
  induction n with
  | zero => intro k hk; omega
  | succ n ih =>
    have h' : (f n && allN f n) = true := h
    simp only [Bool.and_eq_true] at h'
    intro k hk
    by_cases e : k = n
    · subst e; exact h'.1
    · exact ih h'.2 k (by omega)
theorem or_low {q B : Nat} (h : B < 256) : (256 * q) ||| B = 256 * q + B := (Nat.two_pow_add_eq_or_of_lt (i := 8) (b := B) h q).symm
theorem freq_lo {x B : Int} (h0 : 0 ≤ x) (h1 : x ≤ 4095) (b0 : 0 ≤ B) (b1 : B < 256) : bitI .or .i64 (bitI .andNot .i64 x 255) B = x / 256 * 256 + B := by
  have a1 : ∀ k, k < 4096 → Nat.beq (k ^^^ (k &&& 255)) (256 * (k / 256)) = true := allN_spec (by decide +kernel)
  have e := Nat.eq_of_beq_eq_true (a1 x.toNat (by omega))
  rw [andNot_nat (by omega) (by omega) (by omega) (by omega), show Int.toNat 255 = 255 from rfl, e]
  rw [or_nat (by omega) (by omega) (by omega) (by omega), Int.toNat_natCast, or_low (by omega)]
  omega
theorem freq_hi {x B : Int} (b0 : 0 ≤ B) (b1 : B < 256) : bitI .or .i64 (bitI .and .i64 x 255) (wr .i64 (bitI .and .i64 B 15 * 256)) = x % 256 + B % 16 * 256 := by
  rw [and_m8, and_m4, wrap_id (by omega) (by omega)]
  rw [or_nat (by omega) (by omega) (by omega) (by omega), Nat.or_comm, show (B % 16 * 256).toNat = 256 * (B % 16).toNat by omega, or_low (by omega)]
  omega
theorem dda_on {B : Int} (b0 : 0 ≤ B) (b1 : B < 256) : (bitI .and .i64 B 192 == 64) = decide (B / 64 = 1) := by
  have a1 : ∀ k, k < 256 → Nat.beq (k &&& 192) (k / 64 * 64) = true := allN_spec (by decide +kernel)
  have e := Nat.eq_of_beq_eq_true (a1 B.toNat (by omega))
  rw [and_nat (by omega) (by omega) (by omega) (by omega), show Int.toNat 192 = 192 from rfl, e, Bool.eq_iff_iff]
  simp only [beq_iff_eq, decide_eq_true_eq]; omega
theorem cut_intro (X : Nat → Int) : (fun j => upd (fun j => 0) 0 244 (fun j => X (0 + j)) (0 + j)) = cut X := rfl
theorem upd1_self (f : Nat → Int) (o : Nat) (x : Int) {j : Nat} (h : j ≠ o) : upd1 f o x j = f j := by
  unfold upd1
  rw [show Nat.beq o j = false by
    cases hb : Nat.beq o j with
    | false => rfl
    | true => exact absurd (Nat.eq_of_beq_eq_true hb).symm h, cond_false]
theorem upd1_at (f : Nat → Int) (o : Nat) (x : Int) : upd1 f o x o = x := by unfold upd1; simp
/-- a channel that is taken out, turned, and laid back -/
theorem upd_back {f h G : Nat → Int} {o : Nat} (h1 : ∀ j, j < 40 → G j = h (o + j)) (h2 : ∀ i, ¬ (o ≤ i ∧ i < o + 40) → h i = f i) : upd f o 40 (fun j => G (0 + j)) = h := by
  funext i
  unfold upd
  by_cases hi : o ≤ i ∧ i < o + 40
  · rw [show (Nat.ble o i && Nat.ble (i + 1) (o + 40)) = true by simp; omega, cond_true]
    show G (0 + (i - o)) = h i
    rw [Nat.zero_add, h1 _ (by omega), show o + (i - o) = i by omega]
  · rw [show (Nat.ble o i && Nat.ble (i + 1) (o + 40)) = false by
      cases hb : (Nat.ble o i && Nat.ble (i + 1) (o + 40)) with
      | false => rfl
      | true => simp at hb; omega, cond_false, h2 i hi]
def own40 (f : Nat → Int) (o : Nat) : Nat → Int := fun j => upd (fun j => 0) 0 40 (fun j => f (o + j)) j
theorem own40_in (f : Nat → Int) (o : Nat) {j : Nat} (h : j < 40) : own40 f o j = f (o + j) := by
  unfold own40 upd
  rw [show (Nat.ble 0 j && Nat.ble (j + 1) (0 + 40)) = true by simp; omega, cond_true, Nat.sub_zero]
theorem back1 (f : Nat → Int) (o k : Nat) (x : Int) (hk : k < 40) : upd f o 40 (fun j => upd1 (own40 f o) k x (0 + j)) = upd1 f (o + k) x := by
  refine upd_back (G := upd1 (own40 f o) k x) (fun j hj => ?_) (fun i hi => upd1_self _ _ _ (by omega))
  by_cases e : j = k
  · subst e; rw [upd1_at, upd1_at]
  · rw [upd1_self _ _ _ e, upd1_self _ _ _ (by omega), own40_in f o hj]
theorem back2 (f : Nat → Int) (o k l : Nat) (x y : Int) (hk : k < 40) (hl : l < 40) : upd f o 40 (fun j => upd1 (fun j => upd1 (own40 f o) k x j) l y (0 + j)) = upd1 (upd1 f (o + k) x) (o + l) y := by
  refine upd_back (G := upd1 (fun j => upd1 (own40 f o) k x j) l y) (fun j hj => ?_) (fun i hi => by rw [upd1_self _ _ _ (by omega), upd1_self _ _ _ (by omega)])
  by_cases e : j = l
  · subst e; rw [upd1_at, upd1_at]
  · have e1 : upd1 (fun j => upd1 (own40 f o) k x j) l y j = upd1 (own40 f o) k x j := upd1_self _ _ _ e
    have e3 : upd1 (upd1 f (o + k) x) (o + l) y (o + j) = upd1 f (o + k) x (o + j) := upd1_self _ _ _ (by omega)
    rw [e1, e3]
    by_cases e2 : j = k
    · subst e2; rw [upd1_at, upd1_at]
    · rw [upd1_self _ _ _ e2, upd1_self _ _ _ (by omega), own40_in f o hj]
theorem back0 (f : Nat → Int) (o : Nat) : upd f o 40 (fun j => own40 f o (0 + j)) = f :=
  upd_back (fun j hj => own40_in f o hj) (fun i _ => rfl)
end Go.Proofs.Ytkhlghlmmnemeaa

namespace Go.Proofs.Ytkhlghlmmnemeaa
open Go Go.R
theorem inR6 {k : Nat} (hk : k < 6) : inR (k : Int) 6 = true := by simp [inR]; omega
theorem fits {n : Nat} (hn : n ≤ 244) : n.ble 244 = true := by simpa using hn
section
variable {f : Nat → Int} (h : okP f = true) (b : Int)
include h
theorem wrF_ok (at_ : Int) : wrF f at_ b = cut (wrG f at_ (b % 256)) := by unfold wrF; rw [if_pos h]
theorem w0 : ∃ H, evCallH Try.prog [sValid, sByte] H 300 19 [.aggi .i64 244 f, .int .i64 0, .int .i64 b] [] (fun v _ => some v) = some (.aggi .i64 244 (wrF f 0 b)) := by
  refine ⟨_, (write0_ev f b (b % 256)).trans ?_⟩
  rw [ok_shift, h, beq_self_eq_true, beq_self_eq_true, and_m3, wrF_ok h]; rfl
theorem w1 : ∃ H, evCallH Try.prog [sValid, sByte] H 300 19 [.aggi .i64 244 f, .int .i64 1, .int .i64 b] [] (fun v _ => some v) = some (.aggi .i64 244 (wrF f 1 b)) := by
  refine ⟨_, (write1_ev f b (b % 256)).trans ?_⟩
  rw [ok_shift, h, beq_self_eq_true, beq_self_eq_true, wrF_ok h]; rfl
theorem w8 : ∃ H, evCallH Try.prog [sValid, sByte] H 300 19 [.aggi .i64 244 f, .int .i64 8, .int .i64 b] [] (fun v _ => some v) = some (.aggi .i64 244 (wrF f 8 b)) := by
  refine ⟨_, (write8_ev f b (b % 256)).trans ?_⟩
  rw [ok_shift, h, beq_self_eq_true, beq_self_eq_true, wrF_ok h]; rfl
theorem w9 : ∃ H, evCallH Try.prog [sValid, sByte] H 300 19 [.aggi .i64 244 f, .int .i64 9, .int .i64 b] [] (fun v _ => some v) = some (.aggi .i64 244 (wrF f 9 b)) := by
  refine ⟨_, (write9_ev f b (b % 256)).trans ?_⟩
  rw [ok_shift, h, beq_self_eq_true, beq_self_eq_true, wrF_ok h]; rfl
theorem w_chan (at_ : Int) (ha : at_ ≠ 0 ∧ at_ ≠ 1 ∧ at_ ≠ 8 ∧ at_ ≠ 9) : wrF f at_ b = cut (if f 0 < 6 then wrC f (4 + (f 0).toNat * 40) at_ (b % 256) (decide (f 0 ≥ 4)) else f) := by
  rw [wrF_ok h]; unfold wrG; rw [if_neg ha.1, if_neg ha.2.1, if_neg ha.2.2.1, if_neg ha.2.2.2]
theorem w2 : ∃ H, evCallH Try.prog [sValid, sByte] H 300 19 [.aggi .i64 244 f, .int .i64 2, .int .i64 b] [] (fun v _ => some v) = some (.aggi .i64 244 (wrF f 2 b)) := by
  refine ⟨_, (write2_ev f b (b % 256)).trans ?_⟩
  rw [ok_shift, h, beq_self_eq_true, beq_self_eq_true, w_chan h b 2 (by decide)]
  rcases sel_cases h with ⟨h6, k, hk, hf, hs, ht⟩ | h6
  · obtain ⟨g1, g2, g3⟩ := ch_bounds h hk
    rw [if_pos h6, decide_eq_true h6, hs, ht, hf, inR6 hk, fits (by omega)]
    rw [show 4 + k * 40 + 0 = 4 + k * 40 from rfl, freq_lo g1.1 g1.2 (by omega) (by omega)]; rfl
  · rw [if_neg h6, decide_eq_false h6]; rfl
theorem w3 : ∃ H, evCallH Try.prog [sValid, sByte] H 300 19 [.aggi .i64 244 f, .int .i64 3, .int .i64 b] [] (fun v _ => some v) = some (.aggi .i64 244 (wrF f 3 b)) := by
  refine ⟨_, (write3_ev f b (b % 256)).trans ?_⟩
  rw [ok_shift, h, beq_self_eq_true, beq_self_eq_true, w_chan h b 3 (by decide)]
  rcases sel_cases h with ⟨h6, k, hk, hf, hs, ht⟩ | h6
  · obtain ⟨g1, g2, g3⟩ := ch_bounds h hk
    rw [if_pos h6, decide_eq_true h6, hs, ht, hf, inR6 hk, fits (by omega)]
    rw [show 4 + k * 40 + 0 = 4 + k * 40 from rfl, freq_hi (by omega) (by omega)]; rfl
  · rw [if_neg h6, decide_eq_false h6]; rfl
theorem w4 : ∃ H, evCallH Try.prog [sValid, sByte] H 300 19 [.aggi .i64 244 f, .int .i64 4, .int .i64 b] [] (fun v _ => some v) = some (.aggi .i64 244 (wrF f 4 b)) := by
  refine ⟨_, (write4_ev f b (b % 256)).trans ?_⟩
  rw [ok_shift, h, beq_self_eq_true, beq_self_eq_true, w_chan h b 4 (by decide)]
  rcases sel_cases h with ⟨h6, k, hk, hf, hs, ht⟩ | h6
  · rw [if_pos h6, decide_eq_true h6, hs, ht, hf, inR6 hk, fits (show 4 + k * 40 + 1 + 1 ≤ 244 by omega), fits (show 4 + k * 40 + 36 + 1 ≤ 244 by omega), dda_on (by omega) (by omega)]
    by_cases hd : b % 256 / 64 = 1
    · rw [decide_eq_true hd]; unfold wrC; rw [if_neg (by decide), if_neg (by decide), if_pos rfl, if_pos hd]; rfl
    · rw [decide_eq_false hd]; unfold wrC; rw [if_neg (by decide), if_neg (by decide), if_pos rfl, if_neg hd]; rfl
  · rw [if_neg h6, decide_eq_false h6]; rfl
theorem w5 : ∃ H, evCallH Try.prog [sValid, sByte] H 300 19 [.aggi .i64 244 f, .int .i64 5, .int .i64 b] [] (fun v _ => some v) = some (.aggi .i64 244 (wrF f 5 b)) := by
  refine ⟨_, (write5_ev f b (b % 256)).trans ?_⟩
  rw [ok_shift, h, beq_self_eq_true, beq_self_eq_true, w_chan h b 5 (by decide)]
  rcases sel_cases h with ⟨h6, k, hk, hf, hs, ht⟩ | h6
  · rw [if_pos h6, decide_eq_true h6, hs, ht, hf, inR6 hk, fits (by omega)]; rfl
  · rw [if_neg h6, decide_eq_false h6]; rfl
theorem w6 : ∃ H, evCallH Try.prog [sValid, sByte] H 300 19 [.aggi .i64 244 f, .int .i64 6, .int .i64 b] [] (fun v _ => some v) = some (.aggi .i64 244 (wrF f 6 b)) := by
  refine ⟨_, (write6_ev f b (b % 256)).trans ?_⟩
  rw [ok_shift, h, beq_self_eq_true, beq_self_eq_true, w_chan h b 6 (by decide)]
  rcases sel_cases h with ⟨h6, k, hk, hf, hs, ht⟩ | h6
  · obtain ⟨g1, g2, g3⟩ := ch_bounds h hk
    obtain ⟨v, hv⟩ := Int.eq_ofNat_of_zero_le g3.1
    rw [if_pos h6, decide_eq_true h6, hs, ht, hf, inR6 hk, fits (show 4 + k * 40 + 1 + 1 ≤ 244 by omega), fits (show 4 + k * 40 + 36 + 1 ≤ 244 by omega), fits (show 4 + k * 40 + 39 + 1 ≤ 244 by omega), and_6b, and_m5]
    unfold wrC
    rw [if_neg (by decide), if_neg (by decide), if_neg (by decide), if_neg (by decide), if_pos rfl]
    by_cases hd : f (4 + k * 40 + 1) / 64 % 2 = 1
    · rw [if_pos hd, show (64 * (f (4 + k * 40 + 1) / 64 % 2) != 0) = true by rw [hd]; rfl]; rfl
    · rw [if_neg hd, show (64 * (f (4 + k * 40 + 1) / 64 % 2) != 0) = false by rw [show f (4 + k * 40 + 1) / 64 % 2 = 0 by omega]; rfl]
      have hw : upd1 f (4 + k * 40 + 4 + v) (b % 256 % 32) (4 + k * 40 + 36) = f (4 + k * 40 + 36) := upd1_self _ _ _ (by omega)
      rw [hv] at hw ⊢
      have e1 : scaled (v : Int) 1 = v := by rw [scaled_eq]; simp
      rw [e1, hw, show inR (v : Int) 32 = true by simp [inR]; omega, fits (show 4 + k * 40 + 4 + v + 1 ≤ 244 by omega), wrap_id (n := (v : Int) + 1) (by omega) (by omega), tmod_pos (by omega), Int.toNat_natCast]
      rfl
  · rw [if_neg h6, decide_eq_false h6]; rfl
theorem w7 : ∃ H, evCallH Try.prog [sValid, sByte] H 300 19 [.aggi .i64 244 f, .int .i64 7, .int .i64 b] [] (fun v _ => some v) = some (.aggi .i64 244 (wrF f 7 b)) := by
  refine ⟨_, (write7_ev f b (b % 256)).trans ?_⟩
  rw [ok_shift, h, beq_self_eq_true, beq_self_eq_true, w_chan h b 7 (by decide)]
  rcases sel_cases h with ⟨h6, k, hk, hf, hs, ht⟩ | h6
  · rw [if_pos h6, decide_eq_true h6, hs, ht, hf, inR6 hk, fits (by omega)]
    unfold wrC
    rw [if_neg (by decide), if_neg (by decide), if_neg (by decide), if_neg (by decide), if_neg (by decide), if_pos rfl]
    cases decide ((k : Int) ≥ 4) <;> rfl
  · rw [if_neg h6, decide_eq_false h6]; rfl
theorem wN {at_ : Int} (ha : at_ < 0 ∨ 9 < at_) : ∃ H, evCallH Try.prog [sValid, sByte] H 300 19 [.aggi .i64 244 f, .int .i64 at_, .int .i64 b] [] (fun v _ => some v) = some (.aggi .i64 244 (wrF f at_ b)) := by
  refine ⟨_, (writeN_ev f at_ b (b % 256)).trans ?_⟩
  have ne : ∀ n : Int, 0 ≤ n → n ≤ 9 → (at_ == n) = false := fun n h0 h9 => beq_eq_false_iff_ne.2 (by omega)
  rw [ok_shift, h, beq_self_eq_true, beq_self_eq_true, w_chan h b at_ (by omega), ne 0 (by decide) (by decide), ne 1 (by decide) (by decide), ne 8 (by decide) (by decide), ne 9 (by decide) (by decide), ne 2 (by decide) (by decide), ne 3 (by decide) (by decide), ne 4 (by decide) (by decide), ne 5 (by decide) (by decide), ne 6 (by decide) (by decide), ne 7 (by decide) (by decide)]
  rcases sel_cases h with ⟨h6, k, hk, hf, hs, ht⟩ | h6
  · rw [if_pos h6, decide_eq_true h6, hf, inR6 hk]
    unfold wrC
    rw [if_neg (by omega), if_neg (by omega), if_neg (by omega), if_neg (by omega), if_neg (by omega), if_neg (by omega)]; rfl
  · rw [if_neg h6, decide_eq_false h6]; rfl
end
theorem ten (at_ : Int) : (at_ < 0 ∨ 9 < at_) ∨ at_ = 0 ∨ at_ = 1 ∨ at_ = 2 ∨ at_ = 3 ∨ at_ = 4 ∨ at_ = 5 ∨ at_ = 6 ∨ at_ = 7 ∨ at_ = 8 ∨ at_ = 9 := by omega
theorem write_all (f : Nat → Int) (at_ b : Int) : ∃ H, evCallH Try.prog [sValid, sByte] H 300 19 [.aggi .i64 244 f, .int .i64 at_, .int .i64 b] [] (fun v _ => some v) = some (.aggi .i64 244 (wrF f at_ b)) := by
  cases h : okP f with
  | false =>
    refine ⟨_, (writeBad_ev f at_ b).trans ?_⟩
    rw [ok_shift, h]; unfold wrF; rw [h]; rfl
  | true =>
    rcases ten at_ with ha | rfl | rfl | rfl | rfl | rfl | rfl | rfl | rfl | rfl | rfl
    · exact wN h b ha
    · exact w0 h b
    · exact w1 h b
    · exact w2 h b
    · exact w3 h b
    · exact w4 h b
    · exact w5 h b
    · exact w6 h b
    · exact w7 h b
    · exact w8 h b
    · exact w9 h b
def sWrite : Summ Try.prog := mkPure [sValid, sByte] hN hM 19 300 (fun args => match args with | [.aggi .i64 244 f, .int .i64 at_, .int .i64 b] => some (true, .aggi .i64 244 (wrF f at_ b)) | _ => none) (by
  intro args v h; split at h
  · simp only [Option.some.injEq, Prod.mk.injEq, true_and] at h; subst h; exact ⟨rfl, rfl, write_all _ _ _⟩
  · cases h)
end Go.Proofs.Ytkhlghlmmnemeaa

namespace Go.Proofs.Ytkhlghlmmnemeaa
open Go Go.R
theorem same2 {α : Type} (c : Bool) (x : α) : cond c x x = x := by cases c <;> rfl
theorem inR6' {k : Nat} (hk : k < 6) : decide ((k : Int) > 5) = false := decide_eq_false (by omega)
section
variable {f : Nat → Int} (h : okP f = true) (b : Int)
include h
theorem r0 : ∃ H, evCallH Try.prog [sRValid, sRByte] H 300 20 [.aggi .i64 244 f, .int .i64 0, .int .i64 b] [] (fun v _ => some v) = some (.aggi .i64 244 (wrF f 0 b)) := by
  refine ⟨_, (rwrite0_ev f b (b % 256)).trans ?_⟩
  rw [ok_shift, h, beq_self_eq_true, beq_self_eq_true, same2, tmod_pos (by omega), wrF_ok h]; rfl
theorem r1 : ∃ H, evCallH Try.prog [sRValid, sRByte] H 300 20 [.aggi .i64 244 f, .int .i64 1, .int .i64 b] [] (fun v _ => some v) = some (.aggi .i64 244 (wrF f 1 b)) := by
  refine ⟨_, (rwrite1_ev f b (b % 256)).trans ?_⟩
  rw [ok_shift, h, beq_self_eq_true, beq_self_eq_true, same2, wrF_ok h]; rfl
theorem r8 : ∃ H, evCallH Try.prog [sRValid, sRByte] H 300 20 [.aggi .i64 244 f, .int .i64 8, .int .i64 b] [] (fun v _ => some v) = some (.aggi .i64 244 (wrF f 8 b)) := by
  refine ⟨_, (rwrite8_ev f b (b % 256)).trans ?_⟩
  rw [ok_shift, h, beq_self_eq_true, beq_self_eq_true, same2, wrF_ok h]; rfl
theorem r9 : ∃ H, evCallH Try.prog [sRValid, sRByte] H 300 20 [.aggi .i64 244 f, .int .i64 9, .int .i64 b] [] (fun v _ => some v) = some (.aggi .i64 244 (wrF f 9 b)) := by
  refine ⟨_, (rwrite9_ev f b (b % 256)).trans ?_⟩
  rw [ok_shift, h, beq_self_eq_true, beq_self_eq_true, same2, wrF_ok h]; rfl
theorem r2 : ∃ H, evCallH Try.prog [sRValid, sRByte] H 300 20 [.aggi .i64 244 f, .int .i64 2, .int .i64 b] [] (fun v _ => some v) = some (.aggi .i64 244 (wrF f 2 b)) := by
  refine ⟨_, (rwrite2_ev f b (b % 256)).trans ?_⟩
  rw [ok_shift, h, beq_self_eq_true, beq_self_eq_true, w_chan h b 2 (by decide)]
  rcases sel_cases h with ⟨h6, k, hk, hf, hs, ht⟩ | h6
  · obtain ⟨g1, g2, g3⟩ := ch_bounds h hk
    rw [if_pos h6, hs, ht, hf, inR6' hk, inR6 hk, fits (by omega)]
    rw [show 4 + k * 40 + 0 = 4 + k * 40 from rfl, tdiv_pos g1.1, wrap_id (n := f (4 + k * 40) / 256) (by omega) (by omega), wrap_id (n := f (4 + k * 40) / 256 * 256) (by omega) (by omega), wrap_id (n := f (4 + k * 40) / 256 * 256 + b % 256) (by omega) (by omega)]
    show some (V.aggi Go.IntKind.i64 244 (cut (upd f (4 + k * 40) 40 (fun j => upd1 (own40 f (4 + k * 40)) 0 (f (4 + k * 40) / 256 * 256 + b % 256) (0 + j))))) = _
    rw [back1 f _ 0 _ (by decide)]; rfl
  · rw [if_neg h6, decide_eq_true (show f 0 > 5 by omega)]; rfl
theorem r3 : ∃ H, evCallH Try.prog [sRValid, sRByte] H 300 20 [.aggi .i64 244 f, .int .i64 3, .int .i64 b] [] (fun v _ => some v) = some (.aggi .i64 244 (wrF f 3 b)) := by
  refine ⟨_, (rwrite3_ev f b (b % 256)).trans ?_⟩
  rw [ok_shift, h, beq_self_eq_true, beq_self_eq_true, w_chan h b 3 (by decide)]
  rcases sel_cases h with ⟨h6, k, hk, hf, hs, ht⟩ | h6
  · obtain ⟨g1, g2, g3⟩ := ch_bounds h hk
    rw [if_pos h6, hs, ht, hf, inR6' hk, inR6 hk, fits (by omega)]
    rw [show 4 + k * 40 + 0 = 4 + k * 40 from rfl, tmod_pos (n := f (4 + k * 40)) g1.1, tmod_pos (n := b % 256) (by omega), wrap_id (n := b % 256 % 16 * 256) (by omega) (by omega), wrap_id (n := f (4 + k * 40) % 256 + b % 256 % 16 * 256) (by omega) (by omega)]
    show some (V.aggi Go.IntKind.i64 244 (cut (upd f (4 + k * 40) 40 (fun j => upd1 (own40 f (4 + k * 40)) 0 (f (4 + k * 40) % 256 + b % 256 % 16 * 256) (0 + j))))) = _
    rw [back1 f _ 0 _ (by decide)]; rfl
  · rw [if_neg h6, decide_eq_true (show f 0 > 5 by omega)]; rfl
theorem r4 : ∃ H, evCallH Try.prog [sRValid, sRByte] H 300 20 [.aggi .i64 244 f, .int .i64 4, .int .i64 b] [] (fun v _ => some v) = some (.aggi .i64 244 (wrF f 4 b)) := by
  refine ⟨_, (rwrite4_ev f b (b % 256)).trans ?_⟩
  rw [ok_shift, h, beq_self_eq_true, beq_self_eq_true, w_chan h b 4 (by decide)]
  rcases sel_cases h with ⟨h6, k, hk, hf, hs, ht⟩ | h6
  · rw [if_pos h6, hs, ht, hf, inR6' hk, inR6 hk, fits (by omega)]
    rw [tdiv_pos (n := b % 256) (by omega), wrap_id (n := b % 256 / 64) (by omega) (by omega)]
    unfold wrC
    rw [if_neg (by decide), if_neg (by decide), if_pos rfl]
    by_cases hd : b % 256 / 64 = 1
    · rw [if_pos hd, show (b % 256 / 64 == 1) = true by rw [hd]; rfl]
      show some (V.aggi Go.IntKind.i64 244 (cut (upd f (4 + k * 40) 40 (fun j => upd1 (fun j => upd1 (own40 f (4 + k * 40)) 1 (b % 256) j) 36 0 (0 + j))))) = _
      rw [back2 f _ 1 36 _ _ (by decide) (by decide)]
    · rw [if_neg hd, beq_eq_false_iff_ne.2 hd]
      show some (V.aggi Go.IntKind.i64 244 (cut (upd f (4 + k * 40) 40 (fun j => upd1 (own40 f (4 + k * 40)) 1 (b % 256) (0 + j))))) = _
      rw [back1 f _ 1 _ (by decide)]
  · rw [if_neg h6, decide_eq_true (show f 0 > 5 by omega)]; rfl
theorem r5 : ∃ H, evCallH Try.prog [sRValid, sRByte] H 300 20 [.aggi .i64 244 f, .int .i64 5, .int .i64 b] [] (fun v _ => some v) = some (.aggi .i64 244 (wrF f 5 b)) := by
  refine ⟨_, (rwrite5_ev f b (b % 256)).trans ?_⟩
  rw [ok_shift, h, beq_self_eq_true, beq_self_eq_true, w_chan h b 5 (by decide)]
  rcases sel_cases h with ⟨h6, k, hk, hf, hs, ht⟩ | h6
  · rw [if_pos h6, hs, ht, hf, inR6' hk, inR6 hk, fits (by omega)]
    show some (V.aggi Go.IntKind.i64 244 (cut (upd f (4 + k * 40) 40 (fun j => upd1 (own40 f (4 + k * 40)) 2 (b % 256) (0 + j))))) = _
    rw [back1 f _ 2 _ (by decide)]; rfl
  · rw [if_neg h6, decide_eq_true (show f 0 > 5 by omega)]; rfl
theorem r6 : ∃ H, evCallH Try.prog [sRValid, sRByte] H 300 20 [.aggi .i64 244 f, .int .i64 6, .int .i64 b] [] (fun v _ => some v) = some (.aggi .i64 244 (wrF f 6 b)) := by
  refine ⟨_, (rwrite6_ev f b (b % 256)).trans ?_⟩
  rw [ok_shift, h, beq_self_eq_true, beq_self_eq_true, w_chan h b 6 (by decide)]
  rcases sel_cases h with ⟨h6, k, hk, hf, hs, ht⟩ | h6
  · obtain ⟨g1, g2, g3⟩ := ch_bounds h hk
    obtain ⟨v, hv⟩ := Int.eq_ofNat_of_zero_le g3.1
    rw [if_pos h6, hs, ht, hf, inR6' hk, inR6 hk, fits (by omega), tdiv_pos (n := f (4 + k * 40 + 1)) g2.1, wrap_id (n := f (4 + k * 40 + 1) / 64) (by omega) (by omega), tmod_pos (n := f (4 + k * 40 + 1) / 64) (by omega), tmod_pos (n := b % 256) (m := 32) (by omega)]
    unfold wrC
    rw [if_neg (by decide), if_neg (by decide), if_neg (by decide), if_neg (by decide), if_pos rfl]
    by_cases hd : f (4 + k * 40 + 1) / 64 % 2 = 1
    · rw [if_pos hd, show (f (4 + k * 40 + 1) / 64 % 2 == 1) = true by rw [hd]; rfl]
      show some (V.aggi Go.IntKind.i64 244 (cut (upd f (4 + k * 40) 40 (fun j => upd1 (own40 f (4 + k * 40)) 39 (b % 256 % 32) (0 + j))))) = _
      rw [back1 f _ 39 _ (by decide)]
    · rw [if_neg hd, beq_eq_false_iff_ne.2 hd]
      have e1 : scaled (f (4 + k * 40 + 36)) 1 = v := by rw [hv, scaled_eq]; simp
      have hw : upd1 (own40 f (4 + k * 40)) (4 + v) (b % 256 % 32) 36 = f (4 + k * 40 + 36) := by rw [upd1_self _ _ _ (by omega), own40_in _ _ (by decide)]
      have e2 : (wr Go.IntKind.i64 (upd1 (own40 f (4 + k * 40)) (4 + v) (b % 256 % 32) 36 + 1)).tmod 32 = (f (4 + k * 40 + 36) + 1) % 32 := by
        rw [hw, wrap_id (by omega) (by omega), tmod_pos (by omega)]
      rw [e1, show inR (f (4 + k * 40 + 36)) 32 = true by rw [hv]; simp [inR]; omega, show (4 + v + 1).ble 40 = true by simp; omega]
      show some (V.aggi Go.IntKind.i64 244 (cut (upd f (4 + k * 40) 40 (fun j => upd1 (fun j => upd1 (own40 f (4 + k * 40)) (4 + v) (b % 256 % 32) j) 36 ((wr Go.IntKind.i64 (upd1 (own40 f (4 + k * 40)) (4 + v) (b % 256 % 32) 36 + 1)).tmod 32) (0 + j))))) = _
      rw [e2, back2 f _ (4 + v) 36 _ _ (by omega) (by decide), hv, Int.toNat_natCast, Nat.add_assoc (4 + k * 40) 4 v]
  · rw [if_neg h6, decide_eq_true (show f 0 > 5 by omega)]; rfl
theorem r7 : ∃ H, evCallH Try.prog [sRValid, sRByte] H 300 20 [.aggi .i64 244 f, .int .i64 7, .int .i64 b] [] (fun v _ => some v) = some (.aggi .i64 244 (wrF f 7 b)) := by
  refine ⟨_, (rwrite7_ev f b (b % 256)).trans ?_⟩
  rw [ok_shift, h, beq_self_eq_true, beq_self_eq_true, w_chan h b 7 (by decide)]
  rcases sel_cases h with ⟨h6, k, hk, hf, hs, ht⟩ | h6
  · rw [if_pos h6, hs, ht, hf, inR6' hk, inR6 hk, fits (by omega)]
    unfold wrC
    rw [if_neg (by decide), if_neg (by decide), if_neg (by decide), if_neg (by decide), if_neg (by decide), if_pos rfl]
    cases decide ((k : Int) ≥ 4)
    · show some (V.aggi Go.IntKind.i64 244 (cut (upd f (4 + k * 40) 40 (fun j => own40 f (4 + k * 40) (0 + j))))) = _
      rw [back0]; rfl
    · show some (V.aggi Go.IntKind.i64 244 (cut (upd f (4 + k * 40) 40 (fun j => upd1 (own40 f (4 + k * 40)) 3 (b % 256) (0 + j))))) = _
      rw [back1 f _ 3 _ (by decide)]; rfl
  · rw [if_neg h6, decide_eq_true (show f 0 > 5 by omega)]; rfl
theorem rN {at_ : Int} (ha : at_ < 0 ∨ 9 < at_) : ∃ H, evCallH Try.prog [sRValid, sRByte] H 300 20 [.aggi .i64 244 f, .int .i64 at_, .int .i64 b] [] (fun v _ => some v) = some (.aggi .i64 244 (wrF f at_ b)) := by
  refine ⟨_, (rwriteN_ev f at_ b (b % 256)).trans ?_⟩
  have ne : ∀ n : Int, 0 ≤ n → n ≤ 9 → (at_ == n) = false := fun n h0 h9 => beq_eq_false_iff_ne.2 (by omega)
  have hw : wrF f at_ b = cut f := by
    rw [w_chan h b at_ (by omega)]
    by_cases h6 : f 0 < 6
    · rw [if_pos h6]; unfold wrC
      rw [if_neg (by omega), if_neg (by omega), if_neg (by omega), if_neg (by omega), if_neg (by omega), if_neg (by omega)]
    · rw [if_neg h6]
  rw [ok_shift, h, beq_self_eq_true, beq_self_eq_true, hw, ne 0 (by decide) (by decide), ne 1 (by decide) (by decide), ne 8 (by decide) (by decide), ne 9 (by decide) (by decide)]
  cases decide (f 0 > 5)
  · rcases ha with ha | ha
    · rw [decide_eq_true (show at_ < 2 by omega)]; rfl
    · rw [decide_eq_false (show ¬ at_ < 2 by omega), decide_eq_true (show at_ > 7 by omega)]; rfl
  · rfl
end
theorem rwrite_all (f : Nat → Int) (at_ b : Int) : ∃ H, evCallH Try.prog [sRValid, sRByte] H 300 20 [.aggi .i64 244 f, .int .i64 at_, .int .i64 b] [] (fun v _ => some v) = some (.aggi .i64 244 (wrF f at_ b)) := by
  cases h : okP f with
  | false =>
    refine ⟨_, (rwriteBad_ev f at_ b).trans ?_⟩
    rw [ok_shift, h]; unfold wrF; rw [h]; rfl
  | true =>
    rcases ten at_ with ha | rfl | rfl | rfl | rfl | rfl | rfl | rfl | rfl | rfl | rfl
    · exact rN h b ha
    · exact r0 h b
    · exact r1 h b
    · exact r2 h b
    · exact r3 h b
    · exact r4 h b
    · exact r5 h b
    · exact r6 h b
    · exact r7 h b
    · exact r8 h b
    · exact r9 h b
def sRWrite : Summ Try.prog := mkPure [sRValid, sRByte] hN hM 20 300 (fun args => match args with | [.aggi .i64 244 f, .int .i64 at_, .int .i64 b] => some (true, .aggi .i64 244 (wrF f at_ b)) | _ => none) (by
  intro args v h; split at h
  · simp only [Option.some.injEq, Prod.mk.injEq, true_and] at h; subst h; exact ⟨rfl, rfl, rwrite_all _ _ _⟩
  · cases h)
def freshF : Nat → Int := fun j => upd (fun j => 0) 0 244 (fun j => upd1 (fun j => upd1 (fun j => upd1 (fun j => upd1 (fun j => upd1 (fun j => upd1 (fun j => 0) 42 1 j) 82 1 j) 122 1 j) 162 1 j) 202 1 j) 242 1 (0 + j)) (0 + j)
def sFresh : Summ Try.prog := mkPure [] hN hM 17 300 (fun args => match args with | [] => some (true, .aggi .i64 244 freshF) | _ => none) (by
  intro args v h; split at h
  · simp only [Option.some.injEq, Prod.mk.injEq, true_and] at h; subst h; exact ⟨rfl, rfl, _, fresh_ev⟩
  · cases h)
end Go.Proofs.Ytkhlghlmmnemeaa

namespace Go.Proofs.Ytkhlghlmmnemeaa
open Go Go.R
theorem lawWrites_ev (f : Nat → Int) (at_ b : Int) : evCall Try.prog [sWrite, sRWrite, sOwn, sValid, sRValid, sFresh] 300 6 [.aggi .i64 244 f, .int .i64 at_, .int .i64 b] [] (asB) =
  cond (cut (fun j => wrF (fun j => f (0 + j)) at_ b j) 0 == wrF (fun j => cut (fun j => f (0 + j)) j) at_ b 0 && (cut (fun j => wrF (fun j => f (0 + j)) at_ b j) 1 == wrF (fun j => cut (fun j => f (0 + j)) j) at_ b 1 && (cut (fun j => wrF (fun j => f (0 + j)) at_ b j) 2 == wrF (fun j => cut (fun j => f (0 + j)) j) at_ b 2 && (cut (fun j => wrF (fun j => f (0 + j)) at_ b j) 3 == wrF (fun j => cut (fun j => f (0 + j)) j) at_ b 3 && (cut (fun j => wrF (fun j => f (0 + j)) at_ b j) 4 == wrF (fun j => cut (fun j => f (0 + j)) j) at_ b 4 && (cut (fun j => wrF (fun j => f (0 + j)) at_ b j) 5 == wrF (fun j => cut (fun j => f (0 + j)) j) at_ b 5 && (cut (fun j => wrF (fun j => f (0 + j)) at_ b j) 6 == wrF (fun j => cut (fun j => f (0 + j)) j) at_ b 6 && (cut (fun j => wrF (fun j => f (0 + j)) at_ b j) 7 == wrF (fun j => cut (fun j => f (0 + j)) j) at_ b 7 && (cut (fun j => wrF (fun j => f (0 + j)) at_ b j) 8 == wrF (fun j => cut (fun j => f (0 + j)) j) at_ b 8 && (cut (fun j => wrF (fun j => f (0 + j)) at_ b j) 9 == wrF (fun j => cut (fun j => f (0 + j)) j) at_ b 9 && (cut (fun j => wrF (fun j => f (0 + j)) at_ b j) 10 == wrF (fun j => cut (fun j => f (0 + j)) j) at_ b 10 && (cut (fun j => wrF (fun j => f (0 + j)) at_ b j) 11 == wrF (fun j => cut (fun j => f (0 + j)) j) at_ b 11 && (cut (fun j => wrF (fun j => f (0 + j)) at_ b j) 12 == wrF (fun j => cut (fun j => f (0 + j)) j) at_ b 12 && (cut (fun j => wrF (fun j => f (0 + j)) at_ b j) 13 == wrF (fun j => cut (fun j => f (0 + j)) j) at_ b 13 && (cut (fun j => wrF (fun j => f (0 + j)) at_ b j) 14 == wrF (fun j => cut (fun j => f (0 + j)) j) at_ b 14 && (cut (fun j => wrF (fun j => f (0 + j)) at_ b j) 15 == wrF (fun j => cut (fun j => f (0 + j)) j) at_ b 15 && (cut (fun j => wrF (fun j => f (0 + j)) at_ b j) 16 == wrF (fun j => cut (fun j => f (0 + j)) j) at_ b 16 && (cut (fun j => wrF (fun j => f (0 + j)) at_ b j) 17 == wrF (fun j => cut (fun j => f (0 + j)) j) at_ b 17 && (cut (fun j => wrF (fun j => f (0 + j)) at_ b j) 18 == wrF (fun j => cut (fun j => f (0 + j)) j) at_ b 18 && (cut (fun j => wrF (fun j => f (0 + j)) at_ b j) 19 == wrF (fun j => cut (fun j => f (0 + j)) j) at_ b 19 && (cut (fun j => wrF (fun j => f (0 + j)) at_ b j) 20 == wrF (fun j => cut (fun j => f (0 + j)) j) at_ b 20 && (cut (fun j => wrF (fun j => f (0 + j)) at_ b j) 21 == wrF (fun j => cut (fun j => f (0 + j)) j) at_ b 21 && (cut (fun j => wrF (fun j => f (0 + j)) at_ b j) 22 == wrF (fun j => cut (fun j => f (0 + j)) j) at_ b 22 && (cut (fun j => wrF (fun j => f (0 + j)) at_ b j) 23 == wrF (fun j => cut (fun j => f (0 + j)) j) at_ b 23 && (cut (fun j => wrF (fun j => f (0 + j)) at_ b j) 24 == wrF (fun j => cut (fun j => f (0 + j)) j) at_ b 24 && (cut (fun j => wrF (fun j => f (0 + j)) at_ b j) 25 == wrF (fun j => cut (fun j => f (0 + j)) j) at_ b 25 && (cut (fun j => wrF (fun j => f (0 + j)) at_ b j) 26 == wrF (fun j => cut (fun j => f (0 + j)) j) at_ b 26 && (cut (fun j => wrF (fun j => f (0 + j)) at_ b j) 27 == wrF (fun j => cut (fun j => f (0 + j)) j) at_ b 27 && (cut (fun j => wrF (fun j => f (0 + j)) at_ b j) 28 == wrF (fun j => cut (fun j => f (0 + j)) j) at_ b 28 && (cut (fun j => wrF (fun j => f (0 + j)) at_ b j) 29 == wrF (fun j => cut (fun j => f (0 + j)) j) at_ b 29 && (cut (fun j => wrF (fun j => f (0 + j)) at_ b j) 30 == wrF (fun j => cut (fun j => f (0 + j)) j) at_ b 30 && (cut (fun j => wrF (fun j => f (0 + j)) at_ b j) 31 == wrF (fun j => cut (fun j => f (0 + j)) j) at_ b 31 && (cut (fun j => wrF (fun j => f (0 + j)) at_ b j) 32 == wrF (fun j => cut (fun j => f (0 + j)) j) at_ b 32 && (cut (fun j => wrF (fun j => f (0 + j)) at_ b j) 33 == wrF (fun j => cut (fun j => f (0 + j)) j) at_ b 33 && (cut (fun j => wrF (fun j => f (0 + j)) at_ b j) 34 == wrF (fun j => cut (fun j => f (0 + j)) j) at_ b 34 && (cut (fun j => wrF (fun j => f (0 + j)) at_ b j) 35 == wrF (fun j => cut (fun j => f (0 + j)) j) at_ b 35 && (cut (fun j => wrF (fun j => f (0 + j)) at_ b j) 36 == wrF (fun j => cut (fun j => f (0 + j)) j) at_ b 36 && (cut (fun j => wrF (fun j => f (0 + j)) at_ b j) 37 == wrF (fun j => cut (fun j => f (0 + j)) j) at_ b 37 && (cut (fun j => wrF (fun j => f (0 + j)) at_ b j) 38 == wrF (fun j => cut (fun j => f (0 + j)) j) at_ b 38 && (cut (fun j => wrF (fun j => f (0 + j)) at_ b j) 39 == wrF (fun j => cut (fun j => f (0 + j)) j) at_ b 39 && true))))))))))))))))))))))))))))))) && (cut (fun j => wrF (fun j => f (0 + j)) at_ b j) 40 == wrF (fun j => cut (fun j => f (0 + j)) j) at_ b 40 && (cut (fun j => wrF (fun j => f (0 + j)) at_ b j) 41 == wrF (fun j => cut (fun j => f (0 + j)) j) at_ b 41 && (cut (fun j => wrF (fun j => f (0 + j)) at_ b j) 42 == wrF (fun j => cut (fun j => f (0 + j)) j) at_ b 42 && (cut (fun j => wrF (fun j => f (0 + j)) at_ b j) 43 == wrF (fun j => cut (fun j => f (0 + j)) j) at_ b 43 && true)))))))) && (cut (fun j => wrF (fun j => f (0 + j)) at_ b j) 44 == wrF (fun j => cut (fun j => f (0 + j)) j) at_ b 44 && (cut (fun j => wrF (fun j => f (0 + j)) at_ b j) 45 == wrF (fun j => cut (fun j => f (0 + j)) j) at_ b 45 && (cut (fun j => wrF (fun j => f (0 + j)) at_ b j) 46 == wrF (fun j => cut (fun j => f (0 + j)) j) at_ b 46 && (cut (fun j => wrF (fun j => f (0 + j)) at_ b j) 47 == wrF (fun j => cut (fun j => f (0 + j)) j) at_ b 47 && (cut (fun j => wrF (fun j => f (0 + j)) at_ b j) 48 == wrF (fun j => cut (fun j => f (0 + j)) j) at_ b 48 && (cut (fun j => wrF (fun j => f (0 + j)) at_ b j) 49 == wrF (fun j => cut (fun j => f (0 + j)) j) at_ b 49 && (cut (fun j => wrF (fun j => f (0 + j)) at_ b j) 50 == wrF (fun j => cut (fun j => f (0 + j)) j) at_ b 50 && (cut (fun j => wrF (fun j => f (0 + j)) at_ b j) 51 == wrF (fun j => cut (fun j => f (0 + j)) j) at_ b 51 && (cut (fun j => wrF (fun j => f (0 + j)) at_ b j) 52 == wrF (fun j => cut (fun j => f (0 + j)) j) at_ b 52 && (cut (fun j => wrF (fun j => f (0 + j)) at_ b j) 53 == wrF (fun j => cut (fun j => f (0 + j)) j) at_ b 53 && (cut (fun j => wrF (fun j => f (0 + j)) at_ b j) 54 == wrF (fun j => cut (fun j => f (0 + j)) j) at_ b 54 && (cut (fun j => wrF (fun j => f (0 + j)) at_ b j) 55 == wrF (fun j => cut (fun j => f (0 + j)) j) at_ b 55 && (cut (fun j => wrF (fun j => f (0 + j)) at_ b j) 56 == wrF (fun j => cut (fun j => f (0 + j)) j) at_ b 56 && (cut (fun j => wrF (fun j => f (0 + j)) at_ b j) 57 == wrF (fun j => cut (fun j => f (0 + j)) j) at_ b 57 && (cut (fun j => wrF (fun j => f (0 + j)) at_ b j) 58 == wrF (fun j => cut (fun j => f (0 + j)) j) at_ b 58 && (cut (fun j => wrF (fun j => f (0 + j)) at_ b j) 59 == wrF (fun j => cut (fun j => f (0 + j)) j) at_ b 59 && (cut (fun j => wrF (fun j => f (0 + j)) at_ b j) 60 == wrF (fun j => cut (fun j => f (0 + j)) j) at_ b 60 && (cut (fun j => wrF (fun j => f (0 + j)) at_ b j) 61 == wrF (fun j => cut (fun j => f (0 + j)) j) at_ b 61 && (cut (fun j => wrF (fun j => f (0 + j)) at_ b j) 62 == wrF (fun j => cut (fun j => f (0 + j)) j) at_ b 62 && (cut (fun j => wrF (fun j => f (0 + j)) at_ b j) 63 == wrF (fun j => cut (fun j => f (0 + j)) j) at_ b 63 && (cut (fun j => wrF (fun j => f (0 + j)) at_ b j) 64 == wrF (fun j => cut (fun j => f (0 + j)) j) at_ b 64 && (cut (fun j => wrF (fun j => f (0 + j)) at_ b j) 65 == wrF (fun j => cut (fun j => f (0 + j)) j) at_ b 65 && (cut (fun j => wrF (fun j => f (0 + j)) at_ b j) 66 == wrF (fun j => cut (fun j => f (0 + j)) j) at_ b 66 && (cut (fun j => wrF (fun j => f (0 + j)) at_ b j) 67 == wrF (fun j => cut (fun j => f (0 + j)) j) at_ b 67 && (cut (fun j => wrF (fun j => f (0 + j)) at_ b j) 68 == wrF (fun j => cut (fun j => f (0 + j)) j) at_ b 68 && (cut (fun j => wrF (fun j => f (0 + j)) at_ b j) 69 == wrF (fun j => cut (fun j => f (0 + j)) j) at_ b 69 && (cut (fun j => wrF (fun j => f (0 + j)) at_ b j) 70 == wrF (fun j => cut (fun j => f (0 + j)) j) at_ b 70 && (cut (fun j => wrF (fun j => f (0 + j)) at_ b j) 71 == wrF (fun j => cut (fun j => f (0 + j)) j) at_ b 71 && (cut (fun j => wrF (fun j => f (0 + j)) at_ b j) 72 == wrF (fun j => cut (fun j => f (0 + j)) j) at_ b 72 && (cut (fun j => wrF (fun j => f (0 + j)) at_ b j) 73 == wrF (fun j => cut (fun j => f (0 + j)) j) at_ b 73 && (cut (fun j => wrF (fun j => f (0 + j)) at_ b j) 74 == wrF (fun j => cut (fun j => f (0 + j)) j) at_ b 74 && (cut (fun j => wrF (fun j => f (0 + j)) at_ b j) 75 == wrF (fun j => cut (fun j => f (0 + j)) j) at_ b 75 && (cut (fun j => wrF (fun j => f (0 + j)) at_ b j) 76 == wrF (fun j => cut (fun j => f (0 + j)) j) at_ b 76 && (cut (fun j => wrF (fun j => f (0 + j)) at_ b j) 77 == wrF (fun j => cut (fun j => f (0 + j)) j) at_ b 77 && (cut (fun j => wrF (fun j => f (0 + j)) at_ b j) 78 == wrF (fun j => cut (fun j => f (0 + j)) j) at_ b 78 && (cut (fun j => wrF (fun j => f (0 + j)) at_ b j) 79 == wrF (fun j => cut (fun j => f (0 + j)) j) at_ b 79 && true))))))))))))))))))))))))))))))) && (cut (fun j => wrF (fun j => f (0 + j)) at_ b j) 80 == wrF (fun j => cut (fun j => f (0 + j)) j) at_ b 80 && (cut (fun j => wrF (fun j => f (0 + j)) at_ b j) 81 == wrF (fun j => cut (fun j => f (0 + j)) j) at_ b 81 && (cut (fun j => wrF (fun j => f (0 + j)) at_ b j) 82 == wrF (fun j => cut (fun j => f (0 + j)) j) at_ b 82 && (cut (fun j => wrF (fun j => f (0 + j)) at_ b j) 83 == wrF (fun j => cut (fun j => f (0 + j)) j) at_ b 83 && true)))))))) && (cut (fun j => wrF (fun j => f (0 + j)) at_ b j) 84 == wrF (fun j => cut (fun j => f (0 + j)) j) at_ b 84 && (cut (fun j => wrF (fun j => f (0 + j)) at_ b j) 85 == wrF (fun j => cut (fun j => f (0 + j)) j) at_ b 85 && (cut (fun j => wrF (fun j => f (0 + j)) at_ b j) 86 == wrF (fun j => cut (fun j => f (0 + j)) j) at_ b 86 && (cut (fun j => wrF (fun j => f (0 + j)) at_ b j) 87 == wrF (fun j => cut (fun j => f (0 + j)) j) at_ b 87 && (cut (fun j => wrF (fun j => f (0 + j)) at_ b j) 88 == wrF (fun j => cut (fun j => f (0 + j)) j) at_ b 88 && (cut (fun j => wrF (fun j => f (0 + j)) at_ b j) 89 == wrF (fun j => cut (fun j => f (0 + j)) j) at_ b 89 && (cut (fun j => wrF (fun j => f (0 + j)) at_ b j) 90 == wrF (fun j => cut (fun j => f (0 + j)) j) at_ b 90 && (cut (fun j => wrF (fun j => f (0 + j)) at_ b j) 91 == wrF (fun j => cut (fun j => f (0 + j)) j) at_ b 91 && (cut (fun j => wrF (fun j => f (0 + j)) at_ b j) 92 == wrF (fun j => cut (fun j => f (0 + j)) j) at_ b 92 && (cut (fun j => wrF (fun j => f (0 + j)) at_ b j) 93 == wrF (fun j => cut (fun j => f (0 + j)) j) at_ b 93 && (cut (fun j => wrF (fun j => f (0 + j)) at_ b j) 94 == wrF (fun j => cut (fun j => f (0 + j)) j) at_ b 94 && (cut (fun j => wrF (fun j => f (0 + j)) at_ b j) 95 == wrF (fun j => cut (fun j => f (0 + j)) j) at_ b 95 && (cut (fun j => wrF (fun j => f (0 + j)) at_ b j) 96 == wrF (fun j => cut (fun j => f (0 + j)) j) at_ b 96 && (cut (fun j => wrF (fun j => f (0 + j)) at_ b j) 97 == wrF (fun j => cut (fun j => f (0 + j)) j) at_ b 97 && (cut (fun j => wrF (fun j => f (0 + j)) at_ b j) 98 == wrF (fun j => cut (fun j => f (0 + j)) j) at_ b 98 && (cut (fun j => wrF (fun j => f (0 + j)) at_ b j) 99 == wrF (fun j => cut (fun j => f (0 + j)) j) at_ b 99 && (cut (fun j => wrF (fun j => f (0 + j)) at_ b j) 100 == wrF (fun j => cut (fun j => f (0 + j)) j) at_ b 100 && (cut (fun j => wrF (fun j => f (0 + j)) at_ b j) 101 == wrF (fun j => cut (fun j => f (0 + j)) j) at_ b 101 && (cut (fun j => wrF (fun j => f (0 + j)) at_ b j) 102 == wrF (fun j => cut (fun j => f (0 + j)) j) at_ b 102 && (cut (fun j => wrF (fun j => f (0 + j)) at_ b j) 103 == wrF (fun j => cut (fun j => f (0 + j)) j) at_ b 103 && (cut (fun j => wrF (fun j => f (0 + j)) at_ b j) 104 == wrF (fun j => cut (fun j => f (0 + j)) j) at_ b 104 && (cut (fun j => wrF (fun j => f (0 + j)) at_ b j) 105 == wrF (fun j => cut (fun j => f (0 + j)) j) at_ b 105 && (cut (fun j => wrF (fun j => f (0 + j)) at_ b j) 106 == wrF (fun j => cut (fun j => f (0 + j)) j) at_ b 106 && (cut (fun j => wrF (fun j => f (0 + j)) at_ b j) 107 == wrF (fun j => cut (fun j => f (0 + j)) j) at_ b 107 && (cut (fun j => wrF (fun j => f (0 + j)) at_ b j) 108 == wrF (fun j => cut (fun j => f (0 + j)) j) at_ b 108 && (cut (fun j => wrF (fun j => f (0 + j)) at_ b j) 109 == wrF (fun j => cut (fun j => f (0 + j)) j) at_ b 109 && (cut (fun j => wrF (fun j => f (0 + j)) at_ b j) 110 == wrF (fun j => cut (fun j => f (0 + j)) j) at_ b 110 && (cut (fun j => wrF (fun j => f (0 + j)) at_ b j) 111 == wrF (fun j => cut (fun j => f (0 + j)) j) at_ b 111 && (cut (fun j => wrF (fun j => f (0 + j)) at_ b j) 112 == wrF (fun j => cut (fun j => f (0 + j)) j) at_ b 112 && (cut (fun j => wrF (fun j => f (0 + j)) at_ b j) 113 == wrF (fun j => cut (fun j => f (0 + j)) j) at_ b 113 && (cut (fun j => wrF (fun j => f (0 + j)) at_ b j) 114 == wrF (fun j => cut (fun j => f (0 + j)) j) at_ b 114 && (cut (fun j => wrF (fun j => f (0 + j)) at_ b j) 115 == wrF (fun j => cut (fun j => f (0 + j)) j) at_ b 115 && (cut (fun j => wrF (fun j => f (0 + j)) at_ b j) 116 == wrF (fun j => cut (fun j => f (0 + j)) j) at_ b 116 && (cut (fun j => wrF (fun j => f (0 + j)) at_ b j) 117 == wrF (fun j => cut (fun j => f (0 + j)) j) at_ b 117 && (cut (fun j => wrF (fun j => f (0 + j)) at_ b j) 118 == wrF (fun j => cut (fun j => f (0 + j)) j) at_ b 118 && (cut (fun j => wrF (fun j => f (0 + j)) at_ b j) 119 == wrF (fun j => cut (fun j => f (0 + j)) j) at_ b 119 && true))))))))))))))))))))))))))))))) && (cut (fun j => wrF (fun j => f (0 + j)) at_ b j) 120 == wrF (fun j => cut (fun j => f (0 + j)) j) at_ b 120 && (cut (fun j => wrF (fun j => f (0 + j)) at_ b j) 121 == wrF (fun j => cut (fun j => f (0 + j)) j) at_ b 121 && (cut (fun j => wrF (fun j => f (0 + j)) at_ b j) 122 == wrF (fun j => cut (fun j => f (0 + j)) j) at_ b 122 && (cut (fun j => wrF (fun j => f (0 + j)) at_ b j) 123 == wrF (fun j => cut (fun j => f (0 + j)) j) at_ b 123 && true)))))))) && (cut (fun j => wrF (fun j => f (0 + j)) at_ b j) 124 == wrF (fun j => cut (fun j => f (0 + j)) j) at_ b 124 && (cut (fun j => wrF (fun j => f (0 + j)) at_ b j) 125 == wrF (fun j => cut (fun j => f (0 + j)) j) at_ b 125 && (cut (fun j => wrF (fun j => f (0 + j)) at_ b j) 126 == wrF (fun j => cut (fun j => f (0 + j)) j) at_ b 126 && (cut (fun j => wrF (fun j => f (0 + j)) at_ b j) 127 == wrF (fun j => cut (fun j => f (0 + j)) j) at_ b 127 && (cut (fun j => wrF (fun j => f (0 + j)) at_ b j) 128 == wrF (fun j => cut (fun j => f (0 + j)) j) at_ b 128 && (cut (fun j => wrF (fun j => f (0 + j)) at_ b j) 129 == wrF (fun j => cut (fun j => f (0 + j)) j) at_ b 129 && (cut (fun j => wrF (fun j => f (0 + j)) at_ b j) 130 == wrF (fun j => cut (fun j => f (0 + j)) j) at_ b 130 && (cut (fun j => wrF (fun j => f (0 + j)) at_ b j) 131 == wrF (fun j => cut (fun j => f (0 + j)) j) at_ b 131 && (cut (fun j => wrF (fun j => f (0 + j)) at_ b j) 132 == wrF (fun j => cut (fun j => f (0 + j)) j) at_ b 132 && (cut (fun j => wrF (fun j => f (0 + j)) at_ b j) 133 == wrF (fun j => cut (fun j => f (0 + j)) j) at_ b 133 && (cut (fun j => wrF (fun j => f (0 + j)) at_ b j) 134 == wrF (fun j => cut (fun j => f (0 + j)) j) at_ b 134 && (cut (fun j => wrF (fun j => f (0 + j)) at_ b j) 135 == wrF (fun j => cut (fun j => f (0 + j)) j) at_ b 135 && (cut (fun j => wrF (fun j => f (0 + j)) at_ b j) 136 == wrF (fun j => cut (fun j => f (0 + j)) j) at_ b 136 && (cut (fun j => wrF (fun j => f (0 + j)) at_ b j) 137 == wrF (fun j => cut (fun j => f (0 + j)) j) at_ b 137 && (cut (fun j => wrF (fun j => f (0 + j)) at_ b j) 138 == wrF (fun j => cut (fun j => f (0 + j)) j) at_ b 138 && (cut (fun j => wrF (fun j => f (0 + j)) at_ b j) 139 == wrF (fun j => cut (fun j => f (0 + j)) j) at_ b 139 && (cut (fun j => wrF (fun j => f (0 + j)) at_ b j) 140 == wrF (fun j => cut (fun j => f (0 + j)) j) at_ b 140 && (cut (fun j => wrF (fun j => f (0 + j)) at_ b j) 141 == wrF (fun j => cut (fun j => f (0 + j)) j) at_ b 141 && (cut (fun j => wrF (fun j => f (0 + j)) at_ b j) 142 == wrF (fun j => cut (fun j => f (0 + j)) j) at_ b 142 && (cut (fun j => wrF (fun j => f (0 + j)) at_ b j) 143 == wrF (fun j => cut (fun j => f (0 + j)) j) at_ b 143 && (cut (fun j => wrF (fun j => f (0 + j)) at_ b j) 144 == wrF (fun j => cut (fun j => f (0 + j)) j) at_ b 144 && (cut (fun j => wrF (fun j => f (0 + j)) at_ b j) 145 == wrF (fun j => cut (fun j => f (0 + j)) j) at_ b 145 && (cut (fun j => wrF (fun j => f (0 + j)) at_ b j) 146 == wrF (fun j => cut (fun j => f (0 + j)) j) at_ b 146 && (cut (fun j => wrF (fun j => f (0 + j)) at_ b j) 147 == wrF (fun j => cut (fun j => f (0 + j)) j) at_ b 147 && (cut (fun j => wrF (fun j => f (0 + j)) at_ b j) 148 == wrF (fun j => cut (fun j => f (0 + j)) j) at_ b 148 && (cut (fun j => wrF (fun j => f (0 + j)) at_ b j) 149 == wrF (fun j => cut (fun j => f (0 + j)) j) at_ b 149 && (cut (fun j => wrF (fun j => f (0 + j)) at_ b j) 150 == wrF (fun j => cut (fun j => f (0 + j)) j) at_ b 150 && (cut (fun j => wrF (fun j => f (0 + j)) at_ b j) 151 == wrF (fun j => cut (fun j => f (0 + j)) j) at_ b 151 && (cut (fun j => wrF (fun j => f (0 + j)) at_ b j) 152 == wrF (fun j => cut (fun j => f (0 + j)) j) at_ b 152 && (cut (fun j => wrF (fun j => f (0 + j)) at_ b j) 153 == wrF (fun j => cut (fun j => f (0 + j)) j) at_ b 153 && (cut (fun j => wrF (fun j => f (0 + j)) at_ b j) 154 == wrF (fun j => cut (fun j => f (0 + j)) j) at_ b 154 && (cut (fun j => wrF (fun j => f (0 + j)) at_ b j) 155 == wrF (fun j => cut (fun j => f (0 + j)) j) at_ b 155 && (cut (fun j => wrF (fun j => f (0 + j)) at_ b j) 156 == wrF (fun j => cut (fun j => f (0 + j)) j) at_ b 156 && (cut (fun j => wrF (fun j => f (0 + j)) at_ b j) 157 == wrF (fun j => cut (fun j => f (0 + j)) j) at_ b 157 && (cut (fun j => wrF (fun j => f (0 + j)) at_ b j) 158 == wrF (fun j => cut (fun j => f (0 + j)) j) at_ b 158 && (cut (fun j => wrF (fun j => f (0 + j)) at_ b j) 159 == wrF (fun j => cut (fun j => f (0 + j)) j) at_ b 159 && true))))))))))))))))))))))))))))))) && (cut (fun j => wrF (fun j => f (0 + j)) at_ b j) 160 == wrF (fun j => cut (fun j => f (0 + j)) j) at_ b 160 && (cut (fun j => wrF (fun j => f (0 + j)) at_ b j) 161 == wrF (fun j => cut (fun j => f (0 + j)) j) at_ b 161 && (cut (fun j => wrF (fun j => f (0 + j)) at_ b j) 162 == wrF (fun j => cut (fun j => f (0 + j)) j) at_ b 162 && (cut (fun j => wrF (fun j => f (0 + j)) at_ b j) 163 == wrF (fun j => cut (fun j => f (0 + j)) j) at_ b 163 && true)))))))) && (cut (fun j => wrF (fun j => f (0 + j)) at_ b j) 164 == wrF (fun j => cut (fun j => f (0 + j)) j) at_ b 164 && (cut (fun j => wrF (fun j => f (0 + j)) at_ b j) 165 == wrF (fun j => cut (fun j => f (0 + j)) j) at_ b 165 && (cut (fun j => wrF (fun j => f (0 + j)) at_ b j) 166 == wrF (fun j => cut (fun j => f (0 + j)) j) at_ b 166 && (cut (fun j => wrF (fun j => f (0 + j)) at_ b j) 167 == wrF (fun j => cut (fun j => f (0 + j)) j) at_ b 167 && (cut (fun j => wrF (fun j => f (0 + j)) at_ b j) 168 == wrF (fun j => cut (fun j => f (0 + j)) j) at_ b 168 && (cut (fun j => wrF (fun j => f (0 + j)) at_ b j) 169 == wrF (fun j => cut (fun j => f (0 + j)) j) at_ b 169 && (cut (fun j => wrF (fun j => f (0 + j)) at_ b j) 170 == wrF (fun j => cut (fun j => f (0 + j)) j) at_ b 170 && (cut (fun j => wrF (fun j => f (0 + j)) at_ b j) 171 == wrF (fun j => cut (fun j => f (0 + j)) j) at_ b 171 && (cut (fun j => wrF (fun j => f (0 + j)) at_ b j) 172 == wrF (fun j => cut (fun j => f (0 + j)) j) at_ b 172 && (cut (fun j => wrF (fun j => f (0 + j)) at_ b j) 173 == wrF (fun j => cut (fun j => f (0 + j)) j) at_ b 173 && (cut (fun j => wrF (fun j => f (0 + j)) at_ b j) 174 == wrF (fun j => cut (fun j => f (0 + j)) j) at_ b 174 && (cut (fun j => wrF (fun j => f (0 + j)) at_ b j) 175 == wrF (fun j => cut (fun j => f (0 + j)) j) at_ b 175 && (cut (fun j => wrF (fun j => f (0 + j)) at_ b j) 176 == wrF (fun j => cut (fun j => f (0 + j)) j) at_ b 176 && (cut (fun j => wrF (fun j => f (0 + j)) at_ b j) 177 == wrF (fun j => cut (fun j => f (0 + j)) j) at_ b 177 && (cut (fun j => wrF (fun j => f (0 + j)) at_ b j) 178 == wrF (fun j => cut (fun j => f (0 + j)) j) at_ b 178 && (cut (fun j => wrF (fun j => f (0 + j)) at_ b j) 179 == wrF (fun j => cut (fun j => f (0 + j)) j) at_ b 179 && (cut (fun j => wrF (fun j => f (0 + j)) at_ b j) 180 == wrF (fun j => cut (fun j => f (0 + j)) j) at_ b 180 && (cut (fun j => wrF (fun j => f (0 + j)) at_ b j) 181 == wrF (fun j => cut (fun j => f (0 + j)) j) at_ b 181 && (cut (fun j => wrF (fun j => f (0 + j)) at_ b j) 182 == wrF (fun j => cut (fun j => f (0 + j)) j) at_ b 182 && (cut (fun j => wrF (fun j => f (0 + j)) at_ b j) 183 == wrF (fun j => cut (fun j => f (0 + j)) j) at_ b 183 && (cut (fun j => wrF (fun j => f (0 + j)) at_ b j) 184 == wrF (fun j => cut (fun j => f (0 + j)) j) at_ b 184 && (cut (fun j => wrF (fun j => f (0 + j)) at_ b j) 185 == wrF (fun j => cut (fun j => f (0 + j)) j) at_ b 185 && (cut (fun j => wrF (fun j => f (0 + j)) at_ b j) 186 == wrF (fun j => cut (fun j => f (0 + j)) j) at_ b 186 && (cut (fun j => wrF (fun j => f (0 + j)) at_ b j) 187 == wrF (fun j => cut (fun j => f (0 + j)) j) at_ b 187 && (cut (fun j => wrF (fun j => f (0 + j)) at_ b j) 188 == wrF (fun j => cut (fun j => f (0 + j)) j) at_ b 188 && (cut (fun j => wrF (fun j => f (0 + j)) at_ b j) 189 == wrF (fun j => cut (fun j => f (0 + j)) j) at_ b 189 && (cut (fun j => wrF (fun j => f (0 + j)) at_ b j) 190 == wrF (fun j => cut (fun j => f (0 + j)) j) at_ b 190 && (cut (fun j => wrF (fun j => f (0 + j)) at_ b j) 191 == wrF (fun j => cut (fun j => f (0 + j)) j) at_ b 191 && (cut (fun j => wrF (fun j => f (0 + j)) at_ b j) 192 == wrF (fun j => cut (fun j => f (0 + j)) j) at_ b 192 && (cut (fun j => wrF (fun j => f (0 + j)) at_ b j) 193 == wrF (fun j => cut (fun j => f (0 + j)) j) at_ b 193 && (cut (fun j => wrF (fun j => f (0 + j)) at_ b j) 194 == wrF (fun j => cut (fun j => f (0 + j)) j) at_ b 194 && (cut (fun j => wrF (fun j => f (0 + j)) at_ b j) 195 == wrF (fun j => cut (fun j => f (0 + j)) j) at_ b 195 && (cut (fun j => wrF (fun j => f (0 + j)) at_ b j) 196 == wrF (fun j => cut (fun j => f (0 + j)) j) at_ b 196 && (cut (fun j => wrF (fun j => f (0 + j)) at_ b j) 197 == wrF (fun j => cut (fun j => f (0 + j)) j) at_ b 197 && (cut (fun j => wrF (fun j => f (0 + j)) at_ b j) 198 == wrF (fun j => cut (fun j => f (0 + j)) j) at_ b 198 && (cut (fun j => wrF (fun j => f (0 + j)) at_ b j) 199 == wrF (fun j => cut (fun j => f (0 + j)) j) at_ b 199 && true))))))))))))))))))))))))))))))) && (cut (fun j => wrF (fun j => f (0 + j)) at_ b j) 200 == wrF (fun j => cut (fun j => f (0 + j)) j) at_ b 200 && (cut (fun j => wrF (fun j => f (0 + j)) at_ b j) 201 == wrF (fun j => cut (fun j => f (0 + j)) j) at_ b 201 && (cut (fun j => wrF (fun j => f (0 + j)) at_ b j) 202 == wrF (fun j => cut (fun j => f (0 + j)) j) at_ b 202 && (cut (fun j => wrF (fun j => f (0 + j)) at_ b j) 203 == wrF (fun j => cut (fun j => f (0 + j)) j) at_ b 203 && true)))))))) && (cut (fun j => wrF (fun j => f (0 + j)) at_ b j) 204 == wrF (fun j => cut (fun j => f (0 + j)) j) at_ b 204 && (cut (fun j => wrF (fun j => f (0 + j)) at_ b j) 205 == wrF (fun j => cut (fun j => f (0 + j)) j) at_ b 205 && (cut (fun j => wrF (fun j => f (0 + j)) at_ b j) 206 == wrF (fun j => cut (fun j => f (0 + j)) j) at_ b 206 && (cut (fun j => wrF (fun j => f (0 + j)) at_ b j) 207 == wrF (fun j => cut (fun j => f (0 + j)) j) at_ b 207 && (cut (fun j => wrF (fun j => f (0 + j)) at_ b j) 208 == wrF (fun j => cut (fun j => f (0 + j)) j) at_ b 208 && (cut (fun j => wrF (fun j => f (0 + j)) at_ b j) 209 == wrF (fun j => cut (fun j => f (0 + j)) j) at_ b 209 && (cut (fun j => wrF (fun j => f (0 + j)) at_ b j) 210 == wrF (fun j => cut (fun j => f (0 + j)) j) at_ b 210 && (cut (fun j => wrF (fun j => f (0 + j)) at_ b j) 211 == wrF (fun j => cut (fun j => f (0 + j)) j) at_ b 211 && (cut (fun j => wrF (fun j => f (0 + j)) at_ b j) 212 == wrF (fun j => cut (fun j => f (0 + j)) j) at_ b 212 && (cut (fun j => wrF (fun j => f (0 + j)) at_ b j) 213 == wrF (fun j => cut (fun j => f (0 + j)) j) at_ b 213 && (cut (fun j => wrF (fun j => f (0 + j)) at_ b j) 214 == wrF (fun j => cut (fun j => f (0 + j)) j) at_ b 214 && (cut (fun j => wrF (fun j => f (0 + j)) at_ b j) 215 == wrF (fun j => cut (fun j => f (0 + j)) j) at_ b 215 && (cut (fun j => wrF (fun j => f (0 + j)) at_ b j) 216 == wrF (fun j => cut (fun j => f (0 + j)) j) at_ b 216 && (cut (fun j => wrF (fun j => f (0 + j)) at_ b j) 217 == wrF (fun j => cut (fun j => f (0 + j)) j) at_ b 217 && (cut (fun j => wrF (fun j => f (0 + j)) at_ b j) 218 == wrF (fun j => cut (fun j => f (0 + j)) j) at_ b 218 && (cut (fun j => wrF (fun j => f (0 + j)) at_ b j) 219 == wrF (fun j => cut (fun j => f (0 + j)) j) at_ b 219 && (cut (fun j => wrF (fun j => f (0 + j)) at_ b j) 220 == wrF (fun j => cut (fun j => f (0 + j)) j) at_ b 220 && (cut (fun j => wrF (fun j => f (0 + j)) at_ b j) 221 == wrF (fun j => cut (fun j => f (0 + j)) j) at_ b 221 && (cut (fun j => wrF (fun j => f (0 + j)) at_ b j) 222 == wrF (fun j => cut (fun j => f (0 + j)) j) at_ b 222 && (cut (fun j => wrF (fun j => f (0 + j)) at_ b j) 223 == wrF (fun j => cut (fun j => f (0 + j)) j) at_ b 223 && (cut (fun j => wrF (fun j => f (0 + j)) at_ b j) 224 == wrF (fun j => cut (fun j => f (0 + j)) j) at_ b 224 && (cut (fun j => wrF (fun j => f (0 + j)) at_ b j) 225 == wrF (fun j => cut (fun j => f (0 + j)) j) at_ b 225 && (cut (fun j => wrF (fun j => f (0 + j)) at_ b j) 226 == wrF (fun j => cut (fun j => f (0 + j)) j) at_ b 226 && (cut (fun j => wrF (fun j => f (0 + j)) at_ b j) 227 == wrF (fun j => cut (fun j => f (0 + j)) j) at_ b 227 && (cut (fun j => wrF (fun j => f (0 + j)) at_ b j) 228 == wrF (fun j => cut (fun j => f (0 + j)) j) at_ b 228 && (cut (fun j => wrF (fun j => f (0 + j)) at_ b j) 229 == wrF (fun j => cut (fun j => f (0 + j)) j) at_ b 229 && (cut (fun j => wrF (fun j => f (0 + j)) at_ b j) 230 == wrF (fun j => cut (fun j => f (0 + j)) j) at_ b 230 && (cut (fun j => wrF (fun j => f (0 + j)) at_ b j) 231 == wrF (fun j => cut (fun j => f (0 + j)) j) at_ b 231 && (cut (fun j => wrF (fun j => f (0 + j)) at_ b j) 232 == wrF (fun j => cut (fun j => f (0 + j)) j) at_ b 232 && (cut (fun j => wrF (fun j => f (0 + j)) at_ b j) 233 == wrF (fun j => cut (fun j => f (0 + j)) j) at_ b 233 && (cut (fun j => wrF (fun j => f (0 + j)) at_ b j) 234 == wrF (fun j => cut (fun j => f (0 + j)) j) at_ b 234 && (cut (fun j => wrF (fun j => f (0 + j)) at_ b j) 235 == wrF (fun j => cut (fun j => f (0 + j)) j) at_ b 235 && (cut (fun j => wrF (fun j => f (0 + j)) at_ b j) 236 == wrF (fun j => cut (fun j => f (0 + j)) j) at_ b 236 && (cut (fun j => wrF (fun j => f (0 + j)) at_ b j) 237 == wrF (fun j => cut (fun j => f (0 + j)) j) at_ b 237 && (cut (fun j => wrF (fun j => f (0 + j)) at_ b j) 238 == wrF (fun j => cut (fun j => f (0 + j)) j) at_ b 238 && (cut (fun j => wrF (fun j => f (0 + j)) at_ b j) 239 == wrF (fun j => cut (fun j => f (0 + j)) j) at_ b 239 && true))))))))))))))))))))))))))))))) && (cut (fun j => wrF (fun j => f (0 + j)) at_ b j) 240 == wrF (fun j => cut (fun j => f (0 + j)) j) at_ b 240 && (cut (fun j => wrF (fun j => f (0 + j)) at_ b j) 241 == wrF (fun j => cut (fun j => f (0 + j)) j) at_ b 241 && (cut (fun j => wrF (fun j => f (0 + j)) at_ b j) 242 == wrF (fun j => cut (fun j => f (0 + j)) j) at_ b 242 && (cut (fun j => wrF (fun j => f (0 + j)) at_ b j) 243 == wrF (fun j => cut (fun j => f (0 + j)) j) at_ b 243 && true)))))))) && true))))) && true))))) (cond ((okP fun j => f (0 + j)) == okP fun j => cut (fun j => f (0 + j)) j) (some true) (some false)) (some false) := by kernel_rfl
end Go.Proofs.Ytkhlghlmmnemeaa

namespace Go.Proofs.Ytkhlghlmmnemeaa
open Go Go.R
theorem codes_in : ∀ p ∈ codesP, p.1 < 244 := by decide +kernel
theorem ok_congr {f g : Nat → Int} (h : ∀ j, j < 244 → f j = g j) : okP f = okP g := by
  unfold okP
  rw [Bool.eq_iff_iff, List.all_eq_true, List.all_eq_true]
  have e : ∀ p ∈ codesP, chk f p = chk g p := fun p hp => by unfold chk; rw [h p.1 (codes_in p hp)]
  exact ⟨fun k p hp => by rw [← e p hp]; exact k p hp, fun k p hp => by rw [e p hp]; exact k p hp⟩
theorem ok_cut (f : Nat → Int) : okP (cut f) = okP f := ok_congr fun j hj => cut_in f hj
theorem upd1_congr {f g : Nat → Int} (h : ∀ j, j < 244 → f j = g j) (i : Nat) {x y : Int} (hx : x = y) : ∀ j, j < 244 → upd1 f i x j = upd1 g i y j := by
  intro j hj
  by_cases e : j = i
  · subst e; rw [upd1_at, upd1_at, hx]
  · rw [upd1_self _ _ _ e, upd1_self _ _ _ e, h j hj]
theorem wrC_congr {f g : Nat → Int} (h : ∀ j, j < 244 → f j = g j) {o : Nat} (ho : o + 40 ≤ 244) (at_ B : Int) (nz : Bool) : ∀ j, j < 244 → wrC f o at_ B nz j = wrC g o at_ B nz j := by
  have h0 := h o (by omega)
  have h1 := h (o + 1) (by omega)
  have h36 := h (o + 36) (by omega)
  unfold wrC
  rw [h0, h1, h36]
  split
  · exact upd1_congr h o rfl
  · split
    · exact upd1_congr h o rfl
    · split
      · split
        · exact upd1_congr (upd1_congr h _ rfl) _ rfl
        · exact upd1_congr h _ rfl
      · split
        · exact upd1_congr h _ rfl
        · split
          · split
            · exact upd1_congr h _ rfl
            · exact upd1_congr (upd1_congr h _ rfl) _ rfl
          · split
            · split
              · exact upd1_congr h _ rfl
              · exact h
            · exact h
theorem wrG_congr {f g : Nat → Int} (h : ∀ j, j < 244 → f j = g j) (h0 : 0 ≤ f 0) (at_ B : Int) : ∀ j, j < 244 → wrG f at_ B j = wrG g at_ B j := by
  unfold wrG
  rw [← h 0 (by decide)]
  split
  · exact upd1_congr h _ rfl
  · split
    · exact upd1_congr h _ rfl
    · split
      · exact upd1_congr h _ rfl
      · split
        · exact upd1_congr h _ rfl
        · split
          · exact wrC_congr h (by omega) _ _ _
          · exact h
theorem wr_cut (f : Nat → Int) (at_ b : Int) : wrF (cut f) at_ b = wrF f at_ b := by
  unfold wrF
  rw [ok_cut]
  by_cases h : okP f = true
  · rw [if_pos h, if_pos h]
    have h0 := ok_in h (j := 0) (m := 7) (by decide) rfl
    exact cut_congr (wrG_congr (fun j hj => cut_in f hj) (by rw [cut_in f (by decide)]; exact h0.1) _ _)
  · rw [if_neg h, if_neg h, cut_cut]
theorem cut_wr (f : Nat → Int) (at_ b : Int) : cut (wrF f at_ b) = wrF f at_ b := by unfold wrF; rw [cut_cut]
theorem shift0 (f : Nat → Int) : (fun j => f (0 + j)) = f := funext fun j => by rw [Nat.zero_add]
theorem psgWrites_ok (f : Nat → Int) (_ : ∀ i, i < 244 → IntKind.i64.has (f i)) (a : Int) (_ : IntKind.i64.has a) (b : Int) (_ : IntKind.i64.has b) :
    evCallH Try.prog [sWrite, sRWrite, sOwn, sValid, sRValid, sFresh] [] 300 6 [.aggi .i64 244 f, .int .i64 a, .int .i64 b] [] asB = some true := by
  refine (lawWrites_ev f a b).trans ?_
  rw [shift0]
  rw [show (fun j => wrF f a b j) = wrF f a b from rfl, show (fun j => cut f j) = cut f from rfl, cut_wr, wr_cut, ok_cut]
  simp only [beq_self_eq_true, Bool.and_true, Bool.true_and, cond_true]
end Go.Proofs.Ytkhlghlmmnemeaa

namespace Go.Proofs.Ytkhlghlmmnemeaa
open Go Go.R
theorem othBad_ev (f : Nat → Int) (a b : Int) : evCallH Try.prog [sWrite, sValid, sFresh] [(14, .bool false)] 300 7 [.aggi .i64 244 f, .int .i64 a, .int .i64 b] [] asB =
  cond ((okP fun j => f (0 + j)) == false) (cond (wrF (fun j => f (0 + j)) a b 0 == f 0 && (wrF (fun j => f (0 + j)) a b 1 == f 1 && (wrF (fun j => f (0 + j)) a b 2 == f 2 && (wrF (fun j => f (0 + j)) a b 3 == f 3 && (wrF (fun j => f (0 + j)) a b 4 == f 4 && (wrF (fun j => f (0 + j)) a b 5 == f 5 && (wrF (fun j => f (0 + j)) a b 6 == f 6 && (wrF (fun j => f (0 + j)) a b 7 == f 7 && (wrF (fun j => f (0 + j)) a b 8 == f 8 && (wrF (fun j => f (0 + j)) a b 9 == f 9 && (wrF (fun j => f (0 + j)) a b 10 == f 10 && (wrF (fun j => f (0 + j)) a b 11 == f 11 && (wrF (fun j => f (0 + j)) a b 12 == f 12 && (wrF (fun j => f (0 + j)) a b 13 == f 13 && (wrF (fun j => f (0 + j)) a b 14 == f 14 && (wrF (fun j => f (0 + j)) a b 15 == f 15 && (wrF (fun j => f (0 + j)) a b 16 == f 16 && (wrF (fun j => f (0 + j)) a b 17 == f 17 && (wrF (fun j => f (0 + j)) a b 18 == f 18 && (wrF (fun j => f (0 + j)) a b 19 == f 19 && (wrF (fun j => f (0 + j)) a b 20 == f 20 && (wrF (fun j => f (0 + j)) a b 21 == f 21 && (wrF (fun j => f (0 + j)) a b 22 == f 22 && (wrF (fun j => f (0 + j)) a b 23 == f 23 && (wrF (fun j => f (0 + j)) a b 24 == f 24 && (wrF (fun j => f (0 + j)) a b 25 == f 25 && (wrF (fun j => f (0 + j)) a b 26 == f 26 && (wrF (fun j => f (0 + j)) a b 27 == f 27 && (wrF (fun j => f (0 + j)) a b 28 == f 28 && (wrF (fun j => f (0 + j)) a b 29 == f 29 && (wrF (fun j => f (0 + j)) a b 30 == f 30 && (wrF (fun j => f (0 + j)) a b 31 == f 31 && (wrF (fun j => f (0 + j)) a b 32 == f 32 && (wrF (fun j => f (0 + j)) a b 33 == f 33 && (wrF (fun j => f (0 + j)) a b 34 == f 34 && (wrF (fun j => f (0 + j)) a b 35 == f 35 && (wrF (fun j => f (0 + j)) a b 36 == f 36 && (wrF (fun j => f (0 + j)) a b 37 == f 37 && (wrF (fun j => f (0 + j)) a b 38 == f 38 && (wrF (fun j => f (0 + j)) a b 39 == f 39 && true))))))))))))))))))))))))))))))) && (wrF (fun j => f (0 + j)) a b 40 == f 40 && (wrF (fun j => f (0 + j)) a b 41 == f 41 && (wrF (fun j => f (0 + j)) a b 42 == f 42 && (wrF (fun j => f (0 + j)) a b 43 == f 43 && true)))))))) && (wrF (fun j => f (0 + j)) a b 44 == f 44 && (wrF (fun j => f (0 + j)) a b 45 == f 45 && (wrF (fun j => f (0 + j)) a b 46 == f 46 && (wrF (fun j => f (0 + j)) a b 47 == f 47 && (wrF (fun j => f (0 + j)) a b 48 == f 48 && (wrF (fun j => f (0 + j)) a b 49 == f 49 && (wrF (fun j => f (0 + j)) a b 50 == f 50 && (wrF (fun j => f (0 + j)) a b 51 == f 51 && (wrF (fun j => f (0 + j)) a b 52 == f 52 && (wrF (fun j => f (0 + j)) a b 53 == f 53 && (wrF (fun j => f (0 + j)) a b 54 == f 54 && (wrF (fun j => f (0 + j)) a b 55 == f 55 && (wrF (fun j => f (0 + j)) a b 56 == f 56 && (wrF (fun j => f (0 + j)) a b 57 == f 57 && (wrF (fun j => f (0 + j)) a b 58 == f 58 && (wrF (fun j => f (0 + j)) a b 59 == f 59 && (wrF (fun j => f (0 + j)) a b 60 == f 60 && (wrF (fun j => f (0 + j)) a b 61 == f 61 && (wrF (fun j => f (0 + j)) a b 62 == f 62 && (wrF (fun j => f (0 + j)) a b 63 == f 63 && (wrF (fun j => f (0 + j)) a b 64 == f 64 && (wrF (fun j => f (0 + j)) a b 65 == f 65 && (wrF (fun j => f (0 + j)) a b 66 == f 66 && (wrF (fun j => f (0 + j)) a b 67 == f 67 && (wrF (fun j => f (0 + j)) a b 68 == f 68 && (wrF (fun j => f (0 + j)) a b 69 == f 69 && (wrF (fun j => f (0 + j)) a b 70 == f 70 && (wrF (fun j => f (0 + j)) a b 71 == f 71 && (wrF (fun j => f (0 + j)) a b 72 == f 72 && (wrF (fun j => f (0 + j)) a b 73 == f 73 && (wrF (fun j => f (0 + j)) a b 74 == f 74 && (wrF (fun j => f (0 + j)) a b 75 == f 75 && (wrF (fun j => f (0 + j)) a b 76 == f 76 && (wrF (fun j => f (0 + j)) a b 77 == f 77 && (wrF (fun j => f (0 + j)) a b 78 == f 78 && (wrF (fun j => f (0 + j)) a b 79 == f 79 && true))))))))))))))))))))))))))))))) && (wrF (fun j => f (0 + j)) a b 80 == f 80 && (wrF (fun j => f (0 + j)) a b 81 == f 81 && (wrF (fun j => f (0 + j)) a b 82 == f 82 && (wrF (fun j => f (0 + j)) a b 83 == f 83 && true)))))))) && (wrF (fun j => f (0 + j)) a b 84 == f 84 && (wrF (fun j => f (0 + j)) a b 85 == f 85 && (wrF (fun j => f (0 + j)) a b 86 == f 86 && (wrF (fun j => f (0 + j)) a b 87 == f 87 && (wrF (fun j => f (0 + j)) a b 88 == f 88 && (wrF (fun j => f (0 + j)) a b 89 == f 89 && (wrF (fun j => f (0 + j)) a b 90 == f 90 && (wrF (fun j => f (0 + j)) a b 91 == f 91 && (wrF (fun j => f (0 + j)) a b 92 == f 92 && (wrF (fun j => f (0 + j)) a b 93 == f 93 && (wrF (fun j => f (0 + j)) a b 94 == f 94 && (wrF (fun j => f (0 + j)) a b 95 == f 95 && (wrF (fun j => f (0 + j)) a b 96 == f 96 && (wrF (fun j => f (0 + j)) a b 97 == f 97 && (wrF (fun j => f (0 + j)) a b 98 == f 98 && (wrF (fun j => f (0 + j)) a b 99 == f 99 && (wrF (fun j => f (0 + j)) a b 100 == f 100 && (wrF (fun j => f (0 + j)) a b 101 == f 101 && (wrF (fun j => f (0 + j)) a b 102 == f 102 && (wrF (fun j => f (0 + j)) a b 103 == f 103 && (wrF (fun j => f (0 + j)) a b 104 == f 104 && (wrF (fun j => f (0 + j)) a b 105 == f 105 && (wrF (fun j => f (0 + j)) a b 106 == f 106 && (wrF (fun j => f (0 + j)) a b 107 == f 107 && (wrF (fun j => f (0 + j)) a b 108 == f 108 && (wrF (fun j => f (0 + j)) a b 109 == f 109 && (wrF (fun j => f (0 + j)) a b 110 == f 110 && (wrF (fun j => f (0 + j)) a b 111 == f 111 && (wrF (fun j => f (0 + j)) a b 112 == f 112 && (wrF (fun j => f (0 + j)) a b 113 == f 113 && (wrF (fun j => f (0 + j)) a b 114 == f 114 && (wrF (fun j => f (0 + j)) a b 115 == f 115 && (wrF (fun j => f (0 + j)) a b 116 == f 116 && (wrF (fun j => f (0 + j)) a b 117 == f 117 && (wrF (fun j => f (0 + j)) a b 118 == f 118 && (wrF (fun j => f (0 + j)) a b 119 == f 119 && true))))))))))))))))))))))))))))))) && (wrF (fun j => f (0 + j)) a b 120 == f 120 && (wrF (fun j => f (0 + j)) a b 121 == f 121 && (wrF (fun j => f (0 + j)) a b 122 == f 122 && (wrF (fun j => f (0 + j)) a b 123 == f 123 && true)))))))) && (wrF (fun j => f (0 + j)) a b 124 == f 124 && (wrF (fun j => f (0 + j)) a b 125 == f 125 && (wrF (fun j => f (0 + j)) a b 126 == f 126 && (wrF (fun j => f (0 + j)) a b 127 == f 127 && (wrF (fun j => f (0 + j)) a b 128 == f 128 && (wrF (fun j => f (0 + j)) a b 129 == f 129 && (wrF (fun j => f (0 + j)) a b 130 == f 130 && (wrF (fun j => f (0 + j)) a b 131 == f 131 && (wrF (fun j => f (0 + j)) a b 132 == f 132 && (wrF (fun j => f (0 + j)) a b 133 == f 133 && (wrF (fun j => f (0 + j)) a b 134 == f 134 && (wrF (fun j => f (0 + j)) a b 135 == f 135 && (wrF (fun j => f (0 + j)) a b 136 == f 136 && (wrF (fun j => f (0 + j)) a b 137 == f 137 && (wrF (fun j => f (0 + j)) a b 138 == f 138 && (wrF (fun j => f (0 + j)) a b 139 == f 139 && (wrF (fun j => f (0 + j)) a b 140 == f 140 && (wrF (fun j => f (0 + j)) a b 141 == f 141 && (wrF (fun j => f (0 + j)) a b 142 == f 142 && (wrF (fun j => f (0 + j)) a b 143 == f 143 && (wrF (fun j => f (0 + j)) a b 144 == f 144 && (wrF (fun j => f (0 + j)) a b 145 == f 145 && (wrF (fun j => f (0 + j)) a b 146 == f 146 && (wrF (fun j => f (0 + j)) a b 147 == f 147 && (wrF (fun j => f (0 + j)) a b 148 == f 148 && (wrF (fun j => f (0 + j)) a b 149 == f 149 && (wrF (fun j => f (0 + j)) a b 150 == f 150 && (wrF (fun j => f (0 + j)) a b 151 == f 151 && (wrF (fun j => f (0 + j)) a b 152 == f 152 && (wrF (fun j => f (0 + j)) a b 153 == f 153 && (wrF (fun j => f (0 + j)) a b 154 == f 154 && (wrF (fun j => f (0 + j)) a b 155 == f 155 && (wrF (fun j => f (0 + j)) a b 156 == f 156 && (wrF (fun j => f (0 + j)) a b 157 == f 157 && (wrF (fun j => f (0 + j)) a b 158 == f 158 && (wrF (fun j => f (0 + j)) a b 159 == f 159 && true))))))))))))))))))))))))))))))) && (wrF (fun j => f (0 + j)) a b 160 == f 160 && (wrF (fun j => f (0 + j)) a b 161 == f 161 && (wrF (fun j => f (0 + j)) a b 162 == f 162 && (wrF (fun j => f (0 + j)) a b 163 == f 163 && true)))))))) && (wrF (fun j => f (0 + j)) a b 164 == f 164 && (wrF (fun j => f (0 + j)) a b 165 == f 165 && (wrF (fun j => f (0 + j)) a b 166 == f 166 && (wrF (fun j => f (0 + j)) a b 167 == f 167 && (wrF (fun j => f (0 + j)) a b 168 == f 168 && (wrF (fun j => f (0 + j)) a b 169 == f 169 && (wrF (fun j => f (0 + j)) a b 170 == f 170 && (wrF (fun j => f (0 + j)) a b 171 == f 171 && (wrF (fun j => f (0 + j)) a b 172 == f 172 && (wrF (fun j => f (0 + j)) a b 173 == f 173 && (wrF (fun j => f (0 + j)) a b 174 == f 174 && (wrF (fun j => f (0 + j)) a b 175 == f 175 && (wrF (fun j => f (0 + j)) a b 176 == f 176 && (wrF (fun j => f (0 + j)) a b 177 == f 177 && (wrF (fun j => f (0 + j)) a b 178 == f 178 && (wrF (fun j => f (0 + j)) a b 179 == f 179 && (wrF (fun j => f (0 + j)) a b 180 == f 180 && (wrF (fun j => f (0 + j)) a b 181 == f 181 && (wrF (fun j => f (0 + j)) a b 182 == f 182 && (wrF (fun j => f (0 + j)) a b 183 == f 183 && (wrF (fun j => f (0 + j)) a b 184 == f 184 && (wrF (fun j => f (0 + j)) a b 185 == f 185 && (wrF (fun j => f (0 + j)) a b 186 == f 186 && (wrF (fun j => f (0 + j)) a b 187 == f 187 && (wrF (fun j => f (0 + j)) a b 188 == f 188 && (wrF (fun j => f (0 + j)) a b 189 == f 189 && (wrF (fun j => f (0 + j)) a b 190 == f 190 && (wrF (fun j => f (0 + j)) a b 191 == f 191 && (wrF (fun j => f (0 + j)) a b 192 == f 192 && (wrF (fun j => f (0 + j)) a b 193 == f 193 && (wrF (fun j => f (0 + j)) a b 194 == f 194 && (wrF (fun j => f (0 + j)) a b 195 == f 195 && (wrF (fun j => f (0 + j)) a b 196 == f 196 && (wrF (fun j => f (0 + j)) a b 197 == f 197 && (wrF (fun j => f (0 + j)) a b 198 == f 198 && (wrF (fun j => f (0 + j)) a b 199 == f 199 && true))))))))))))))))))))))))))))))) && (wrF (fun j => f (0 + j)) a b 200 == f 200 && (wrF (fun j => f (0 + j)) a b 201 == f 201 && (wrF (fun j => f (0 + j)) a b 202 == f 202 && (wrF (fun j => f (0 + j)) a b 203 == f 203 && true)))))))) && (wrF (fun j => f (0 + j)) a b 204 == f 204 && (wrF (fun j => f (0 + j)) a b 205 == f 205 && (wrF (fun j => f (0 + j)) a b 206 == f 206 && (wrF (fun j => f (0 + j)) a b 207 == f 207 && (wrF (fun j => f (0 + j)) a b 208 == f 208 && (wrF (fun j => f (0 + j)) a b 209 == f 209 && (wrF (fun j => f (0 + j)) a b 210 == f 210 && (wrF (fun j => f (0 + j)) a b 211 == f 211 && (wrF (fun j => f (0 + j)) a b 212 == f 212 && (wrF (fun j => f (0 + j)) a b 213 == f 213 && (wrF (fun j => f (0 + j)) a b 214 == f 214 && (wrF (fun j => f (0 + j)) a b 215 == f 215 && (wrF (fun j => f (0 + j)) a b 216 == f 216 && (wrF (fun j => f (0 + j)) a b 217 == f 217 && (wrF (fun j => f (0 + j)) a b 218 == f 218 && (wrF (fun j => f (0 + j)) a b 219 == f 219 && (wrF (fun j => f (0 + j)) a b 220 == f 220 && (wrF (fun j => f (0 + j)) a b 221 == f 221 && (wrF (fun j => f (0 + j)) a b 222 == f 222 && (wrF (fun j => f (0 + j)) a b 223 == f 223 && (wrF (fun j => f (0 + j)) a b 224 == f 224 && (wrF (fun j => f (0 + j)) a b 225 == f 225 && (wrF (fun j => f (0 + j)) a b 226 == f 226 && (wrF (fun j => f (0 + j)) a b 227 == f 227 && (wrF (fun j => f (0 + j)) a b 228 == f 228 && (wrF (fun j => f (0 + j)) a b 229 == f 229 && (wrF (fun j => f (0 + j)) a b 230 == f 230 && (wrF (fun j => f (0 + j)) a b 231 == f 231 && (wrF (fun j => f (0 + j)) a b 232 == f 232 && (wrF (fun j => f (0 + j)) a b 233 == f 233 && (wrF (fun j => f (0 + j)) a b 234 == f 234 && (wrF (fun j => f (0 + j)) a b 235 == f 235 && (wrF (fun j => f (0 + j)) a b 236 == f 236 && (wrF (fun j => f (0 + j)) a b 237 == f 237 && (wrF (fun j => f (0 + j)) a b 238 == f 238 && (wrF (fun j => f (0 + j)) a b 239 == f 239 && true))))))))))))))))))))))))))))))) && (wrF (fun j => f (0 + j)) a b 240 == f 240 && (wrF (fun j => f (0 + j)) a b 241 == f 241 && (wrF (fun j => f (0 + j)) a b 242 == f 242 && (wrF (fun j => f (0 + j)) a b 243 == f 243 && true)))))))) && true))))) && true))))) (some true) (some false)) none := by kernel_rfl
theorem othTo_ev (f : Nat → Int) (a b : Int) : evTo Try.prog [sWrite, sValid, sFresh] 300 [(14, .bool true)] (ntOf Try.prog 7 [.aggi .i64 244 f, .int .i64 a, .int .i64 b]) [1, 1, 1, 0, 1] (bodyOf Try.prog 7) (envOf [.aggi .i64 244 f, .int .i64 a, .int .i64 b] 0) [] (Kt [1, 2, 3, 7, 8]) =
  cond ((okP fun j => f (0 + j)) == true) (some (V.tup [V.int Go.IntKind.i64 a, V.int Go.IntKind.i64 b, V.ptr 0 0, V.ptr 1 0, V.int Go.IntKind.i64 0], [Blk.ints 32 Go.IntKind.i64 244 f, Blk.ints 32 Go.IntKind.i64 244 fun j => upd (fun j => 0) 0 244 (fun j => wrF (fun j => f (0 + j)) a b j) j])) none := by kernel_rfl
theorem othBody_ev (f g : Nat → Int) (a b k : Int) (rest : Env) : ev Try.prog [] 300 [] 77 (sub [1, 1, 1, 0, 1, 0, 0] (bodyOf Try.prog 7)) (zipE [1, 2, 3, 7, 8] [.int .i64 a, .int .i64 b, .ptr 0 0, .ptr 1 0, .int .i64 k] rest) [.ints 32 .i64 244 f, .ints 32 .i64 244 g] (Kl [1, 2, 3, 7, 8]) =
  cond (decide (k < 6)) (cond (k != f 0) (cond (inR k 6) (cond ((4 + scaled k 40 + 40).ble 244) (cond (inR k 6) (cond ((4 + scaled k 40 + 40).ble 244) (cond (!(g (4 + scaled k 40 + 0) == f (4 + scaled k 40 + 0) && (g (4 + scaled k 40 + 1) == f (4 + scaled k 40 + 1) && (g (4 + scaled k 40 + 2) == f (4 + scaled k 40 + 2) && (g (4 + scaled k 40 + 3) == f (4 + scaled k 40 + 3) && (g (4 + scaled k 40 + 4) == f (4 + scaled k 40 + 4) && (g (4 + scaled k 40 + 5) == f (4 + scaled k 40 + 5) && (g (4 + scaled k 40 + 6) == f (4 + scaled k 40 + 6) && (g (4 + scaled k 40 + 7) == f (4 + scaled k 40 + 7) && (g (4 + scaled k 40 + 8) == f (4 + scaled k 40 + 8) && (g (4 + scaled k 40 + 9) == f (4 + scaled k 40 + 9) && (g (4 + scaled k 40 + 10) == f (4 + scaled k 40 + 10) && (g (4 + scaled k 40 + 11) == f (4 + scaled k 40 + 11) && (g (4 + scaled k 40 + 12) == f (4 + scaled k 40 + 12) && (g (4 + scaled k 40 + 13) == f (4 + scaled k 40 + 13) && (g (4 + scaled k 40 + 14) == f (4 + scaled k 40 + 14) && (g (4 + scaled k 40 + 15) == f (4 + scaled k 40 + 15) && (g (4 + scaled k 40 + 16) == f (4 + scaled k 40 + 16) && (g (4 + scaled k 40 + 17) == f (4 + scaled k 40 + 17) && (g (4 + scaled k 40 + 18) == f (4 + scaled k 40 + 18) && (g (4 + scaled k 40 + 19) == f (4 + scaled k 40 + 19) && (g (4 + scaled k 40 + 20) == f (4 + scaled k 40 + 20) && (g (4 + scaled k 40 + 21) == f (4 + scaled k 40 + 21) && (g (4 + scaled k 40 + 22) == f (4 + scaled k 40 + 22) && (g (4 + scaled k 40 + 23) == f (4 + scaled k 40 + 23) && (g (4 + scaled k 40 + 24) == f (4 + scaled k 40 + 24) && (g (4 + scaled k 40 + 25) == f (4 + scaled k 40 + 25) && (g (4 + scaled k 40 + 26) == f (4 + scaled k 40 + 26) && (g (4 + scaled k 40 + 27) == f (4 + scaled k 40 + 27) && (g (4 + scaled k 40 + 28) == f (4 + scaled k 40 + 28) && (g (4 + scaled k 40 + 29) == f (4 + scaled k 40 + 29) && (g (4 + scaled k 40 + 30) == f (4 + scaled k 40 + 30) && (g (4 + scaled k 40 + 31) == f (4 + scaled k 40 + 31) && (g (4 + scaled k 40 + 32) == f (4 + scaled k 40 + 32) && (g (4 + scaled k 40 + 33) == f (4 + scaled k 40 + 33) && (g (4 + scaled k 40 + 34) == f (4 + scaled k 40 + 34) && (g (4 + scaled k 40 + 35) == f (4 + scaled k 40 + 35) && true))))))))))))))))))))))))))))))) && (g (4 + scaled k 40 + 36) == f (4 + scaled k 40 + 36) && (g (4 + scaled k 40 + 37) == f (4 + scaled k 40 + 37) && (g (4 + scaled k 40 + 38) == f (4 + scaled k 40 + 38) && (g (4 + scaled k 40 + 39) == f (4 + scaled k 40 + 39) && true)))))))))) (some (V.tup [V.int Go.IntKind.i64 (-2), V.int Go.IntKind.i64 a, V.int Go.IntKind.i64 b, V.ptr 0 0, V.ptr 1 0, V.int Go.IntKind.i64 k], [Blk.ints 32 Go.IntKind.i64 244 f, Blk.ints 32 Go.IntKind.i64 244 g])) (some (V.tup [V.int Go.IntKind.i64 (-1), V.int Go.IntKind.i64 a, V.int Go.IntKind.i64 b, V.ptr 0 0, V.ptr 1 0, V.int Go.IntKind.i64 (wr Go.IntKind.i64 (k + 1))], [Blk.ints 32 Go.IntKind.i64 244 f, Blk.ints 32 Go.IntKind.i64 244 g]))) none) none) none) none) (cond (decide (a < 2)) (cond (inR k 6) (cond ((4 + scaled k 40 + 40).ble 244) (cond (inR k 6) (cond ((4 + scaled k 40 + 40).ble 244) (cond (!(g (4 + scaled k 40 + 0) == f (4 + scaled k 40 + 0) && (g (4 + scaled k 40 + 1) == f (4 + scaled k 40 + 1) && (g (4 + scaled k 40 + 2) == f (4 + scaled k 40 + 2) && (g (4 + scaled k 40 + 3) == f (4 + scaled k 40 + 3) && (g (4 + scaled k 40 + 4) == f (4 + scaled k 40 + 4) && (g (4 + scaled k 40 + 5) == f (4 + scaled k 40 + 5) && (g (4 + scaled k 40 + 6) == f (4 + scaled k 40 + 6) && (g (4 + scaled k 40 + 7) == f (4 + scaled k 40 + 7) && (g (4 + scaled k 40 + 8) == f (4 + scaled k 40 + 8) && (g (4 + scaled k 40 + 9) == f (4 + scaled k 40 + 9) && (g (4 + scaled k 40 + 10) == f (4 + scaled k 40 + 10) && (g (4 + scaled k 40 + 11) == f (4 + scaled k 40 + 11) && (g (4 + scaled k 40 + 12) == f (4 + scaled k 40 + 12) && (g (4 + scaled k 40 + 13) == f (4 + scaled k 40 + 13) && (g (4 + scaled k 40 + 14) == f (4 + scaled k 40 + 14) && (g (4 + scaled k 40 + 15) == f (4 + scaled k 40 + 15) && (g (4 + scaled k 40 + 16) == f (4 + scaled k 40 + 16) && (g (4 + scaled k 40 + 17) == f (4 + scaled k 40 + 17) && (g (4 + scaled k 40 + 18) == f (4 + scaled k 40 + 18) && (g (4 + scaled k 40 + 19) == f (4 + scaled k 40 + 19) && (g (4 + scaled k 40 + 20) == f (4 + scaled k 40 + 20) && (g (4 + scaled k 40 + 21) == f (4 + scaled k 40 + 21) && (g (4 + scaled k 40 + 22) == f (4 + scaled k 40 + 22) && (g (4 + scaled k 40 + 23) == f (4 + scaled k 40 + 23) && (g (4 + scaled k 40 + 24) == f (4 + scaled k 40 + 24) && (g (4 + scaled k 40 + 25) == f (4 + scaled k 40 + 25) && (g (4 + scaled k 40 + 26) == f (4 + scaled k 40 + 26) && (g (4 + scaled k 40 + 27) == f (4 + scaled k 40 + 27) && (g (4 + scaled k 40 + 28) == f (4 + scaled k 40 + 28) && (g (4 + scaled k 40 + 29) == f (4 + scaled k 40 + 29) && (g (4 + scaled k 40 + 30) == f (4 + scaled k 40 + 30) && (g (4 + scaled k 40 + 31) == f (4 + scaled k 40 + 31) && (g (4 + scaled k 40 + 32) == f (4 + scaled k 40 + 32) && (g (4 + scaled k 40 + 33) == f (4 + scaled k 40 + 33) && (g (4 + scaled k 40 + 34) == f (4 + scaled k 40 + 34) && (g (4 + scaled k 40 + 35) == f (4 + scaled k 40 + 35) && true))))))))))))))))))))))))))))))) && (g (4 + scaled k 40 + 36) == f (4 + scaled k 40 + 36) && (g (4 + scaled k 40 + 37) == f (4 + scaled k 40 + 37) && (g (4 + scaled k 40 + 38) == f (4 + scaled k 40 + 38) && (g (4 + scaled k 40 + 39) == f (4 + scaled k 40 + 39) && true)))))))))) (some (V.tup [V.int Go.IntKind.i64 (-2), V.int Go.IntKind.i64 a, V.int Go.IntKind.i64 b, V.ptr 0 0, V.ptr 1 0, V.int Go.IntKind.i64 k], [Blk.ints 32 Go.IntKind.i64 244 f, Blk.ints 32 Go.IntKind.i64 244 g])) (some (V.tup [V.int Go.IntKind.i64 (-1), V.int Go.IntKind.i64 a, V.int Go.IntKind.i64 b, V.ptr 0 0, V.ptr 1 0, V.int Go.IntKind.i64 (wr Go.IntKind.i64 (k + 1))], [Blk.ints 32 Go.IntKind.i64 244 f, Blk.ints 32 Go.IntKind.i64 244 g]))) none) none) none) none) (cond (decide (a > 7)) (cond (inR k 6) (cond ((4 + scaled k 40 + 40).ble 244) (cond (inR k 6) (cond ((4 + scaled k 40 + 40).ble 244) (cond (!(g (4 + scaled k 40 + 0) == f (4 + scaled k 40 + 0) && (g (4 + scaled k 40 + 1) == f (4 + scaled k 40 + 1) && (g (4 + scaled k 40 + 2) == f (4 + scaled k 40 + 2) && (g (4 + scaled k 40 + 3) == f (4 + scaled k 40 + 3) && (g (4 + scaled k 40 + 4) == f (4 + scaled k 40 + 4) && (g (4 + scaled k 40 + 5) == f (4 + scaled k 40 + 5) && (g (4 + scaled k 40 + 6) == f (4 + scaled k 40 + 6) && (g (4 + scaled k 40 + 7) == f (4 + scaled k 40 + 7) && (g (4 + scaled k 40 + 8) == f (4 + scaled k 40 + 8) && (g (4 + scaled k 40 + 9) == f (4 + scaled k 40 + 9) && (g (4 + scaled k 40 + 10) == f (4 + scaled k 40 + 10) && (g (4 + scaled k 40 + 11) == f (4 + scaled k 40 + 11) && (g (4 + scaled k 40 + 12) == f (4 + scaled k 40 + 12) && (g (4 + scaled k 40 + 13) == f (4 + scaled k 40 + 13) && (g (4 + scaled k 40 + 14) == f (4 + scaled k 40 + 14) && (g (4 + scaled k 40 + 15) == f (4 + scaled k 40 + 15) && (g (4 + scaled k 40 + 16) == f (4 + scaled k 40 + 16) && (g (4 + scaled k 40 + 17) == f (4 + scaled k 40 + 17) && (g (4 + scaled k 40 + 18) == f (4 + scaled k 40 + 18) && (g (4 + scaled k 40 + 19) == f (4 + scaled k 40 + 19) && (g (4 + scaled k 40 + 20) == f (4 + scaled k 40 + 20) && (g (4 + scaled k 40 + 21) == f (4 + scaled k 40 + 21) && (g (4 + scaled k 40 + 22) == f (4 + scaled k 40 + 22) && (g (4 + scaled k 40 + 23) == f (4 + scaled k 40 + 23) && (g (4 + scaled k 40 + 24) == f (4 + scaled k 40 + 24) && (g (4 + scaled k 40 + 25) == f (4 + scaled k 40 + 25) && (g (4 + scaled k 40 + 26) == f (4 + scaled k 40 + 26) && (g (4 + scaled k 40 + 27) == f (4 + scaled k 40 + 27) && (g (4 + scaled k 40 + 28) == f (4 + scaled k 40 + 28) && (g (4 + scaled k 40 + 29) == f (4 + scaled k 40 + 29) && (g (4 + scaled k 40 + 30) == f (4 + scaled k 40 + 30) && (g (4 + scaled k 40 + 31) == f (4 + scaled k 40 + 31) && (g (4 + scaled k 40 + 32) == f (4 + scaled k 40 + 32) && (g (4 + scaled k 40 + 33) == f (4 + scaled k 40 + 33) && (g (4 + scaled k 40 + 34) == f (4 + scaled k 40 + 34) && (g (4 + scaled k 40 + 35) == f (4 + scaled k 40 + 35) && true))))))))))))))))))))))))))))))) && (g (4 + scaled k 40 + 36) == f (4 + scaled k 40 + 36) && (g (4 + scaled k 40 + 37) == f (4 + scaled k 40 + 37) && (g (4 + scaled k 40 + 38) == f (4 + scaled k 40 + 38) && (g (4 + scaled k 40 + 39) == f (4 + scaled k 40 + 39) && true)))))))))) (some (V.tup [V.int Go.IntKind.i64 (-2), V.int Go.IntKind.i64 a, V.int Go.IntKind.i64 b, V.ptr 0 0, V.ptr 1 0, V.int Go.IntKind.i64 k], [Blk.ints 32 Go.IntKind.i64 244 f, Blk.ints 32 Go.IntKind.i64 244 g])) (some (V.tup [V.int Go.IntKind.i64 (-1), V.int Go.IntKind.i64 a, V.int Go.IntKind.i64 b, V.ptr 0 0, V.ptr 1 0, V.int Go.IntKind.i64 (wr Go.IntKind.i64 (k + 1))], [Blk.ints 32 Go.IntKind.i64 244 f, Blk.ints 32 Go.IntKind.i64 244 g]))) none) none) none) none) (some (V.tup [V.int Go.IntKind.i64 (-1), V.int Go.IntKind.i64 a, V.int Go.IntKind.i64 b, V.ptr 0 0, V.ptr 1 0, V.int Go.IntKind.i64 (wr Go.IntKind.i64 (k + 1))], [Blk.ints 32 Go.IntKind.i64 244 f, Blk.ints 32 Go.IntKind.i64 244 g]))))) (some (V.tup [V.int Go.IntKind.i64 0, V.int Go.IntKind.i64 a, V.int Go.IntKind.i64 b, V.ptr 0 0, V.ptr 1 0, V.int Go.IntKind.i64 k], [Blk.ints 32 Go.IntKind.i64 244 f, Blk.ints 32 Go.IntKind.i64 244 g])) := by kernel_rfl
theorem othFrom_ev (f g : Nat → Int) (a b k : Int) (rest : Env) : evFrom Try.prog [sValid] 300 [] 77 [1, 1, 1, 0, 1] (bodyOf Try.prog 7) (zipE [1, 2, 3, 7, 8] [.int .i64 a, .int .i64 b, .ptr 0 0, .ptr 1 0, .int .i64 k] rest) [.ints 32 .i64 244 f, .ints 32 .i64 244 g] (leaveOf Try.prog 7 asB) =
  cond (okP fun j => g (0 + j)) (cond (g 0 == bitI BinOp.and Go.IntKind.i64 b 7) (cond ((a == 0) == (a == 0)) (cond (a == 1) (some true) (some (g 1 == f 1))) (some false)) (cond ((a == 0) == false) (cond (a == 1) (some true) (some (g 1 == f 1))) (some false))) (some false) := by kernel_rfl
end Go.Proofs.Ytkhlghlmmnemeaa

namespace Go.Proofs.Ytkhlghlmmnemeaa
open Go Go.R
/-! ### what a write leaves alone, and that it leaves a sound -/
theorem wrC_out {f : Nat → Int} {o : Nat} (hv : 0 ≤ f (o + 36) ∧ f (o + 36) ≤ 31) (at_ B : Int) (nz : Bool) {j : Nat} (hj : ¬ (o ≤ j ∧ j < o + 40)) : wrC f o at_ B nz j = f j := by
  unfold wrC
  split
  · exact upd1_self _ _ _ (by omega)
  · split
    · exact upd1_self _ _ _ (by omega)
    · split
      · split
        · rw [upd1_self _ _ _ (by omega), upd1_self _ _ _ (by omega)]
        · exact upd1_self _ _ _ (by omega)
      · split
        · exact upd1_self _ _ _ (by omega)
        · split
          · split
            · exact upd1_self _ _ _ (by omega)
            · rw [upd1_self _ _ _ (by omega), upd1_self _ _ _ (by omega)]
          · split
            · split
              · exact upd1_self _ _ _ (by omega)
              · rfl
            · rfl
theorem wrC_other {f : Nat → Int} {o : Nat} {at_ B : Int} {nz : Bool} (ha : at_ < 2 ∨ 7 < at_) : wrC f o at_ B nz = f := by
  unfold wrC
  rw [if_neg (by omega), if_neg (by omega), if_neg (by omega), if_neg (by omega), if_neg (by omega), if_neg (by omega)]
theorem wrG_head {f : Nat → Int} {at_ B : Int} (h : okP f = true) {j : Nat} (hj : 4 ≤ j) (hc : at_ < 2 ∨ 7 < at_ ∨ ¬ (4 + (f 0).toNat * 40 ≤ j ∧ j < 4 + (f 0).toNat * 40 + 40)) : wrG f at_ B j = f j := by
  unfold wrG
  split
  · exact upd1_self _ _ _ (by omega)
  · split
    · exact upd1_self _ _ _ (by omega)
    · split
      · exact upd1_self _ _ _ (by omega)
      · split
        · exact upd1_self _ _ _ (by omega)
        · split
          · rename_i h6
            rcases sel_cases h with ⟨_, k, hk, hf, hs, ht⟩ | h6'
            · obtain ⟨g1, g2, g3⟩ := ch_bounds h hk
              rw [ht] at hc ⊢
              rcases hc with hc | hc | hc
              · rw [wrC_other (.inl hc)]
              · rw [wrC_other (.inr hc)]
              · exact wrC_out g3 _ _ _ hc
            · exact absurd h6 h6'
          · rfl
theorem wrG_1 {f : Nat → Int} {at_ B : Int} (h : okP f = true) (ha : at_ ≠ 1) : wrG f at_ B 1 = f 1 := by
  unfold wrG
  split
  · exact upd1_self _ _ _ (by omega)
  · split
    · exact upd1_self _ _ _ (by omega)
    · split
      · exact upd1_self _ _ _ (by omega)
      · split
        · rename_i h6
          rcases sel_cases h with ⟨_, k, hk, hf, hs, ht⟩ | h6'
          · obtain ⟨g1, g2, g3⟩ := ch_bounds h hk
            rw [ht]
            exact wrC_out g3 _ _ _ (by omega)
          · exact absurd h6 h6'
        · rfl
/-- what is asked of a cell -/
def bnd (i : Nat) : List Int := (codesP.filter (fun p => p.1 == i)).map (·.2)
theorem ok_upd {f : Nat → Int} (h : okP f = true) {i : Nat} {x m : Int} (hb : bnd i = [m]) (hm : (m == -1) = false) (h0 : 0 ≤ x) (h1 : x ≤ m) : okP (upd1 f i x) = true := by
  unfold okP
  rw [List.all_eq_true]
  intro p hp
  have hf := List.all_eq_true.1 h p hp
  by_cases e : p.1 = i
  · have hmem : p.2 ∈ bnd i := List.mem_map.2 ⟨p, List.mem_filter.2 ⟨hp, by simpa using e⟩, rfl⟩
    rw [hb, List.mem_singleton] at hmem
    unfold chk
    rw [e, hmem, if_neg (by simpa using hm), upd1_at]
    unfold inB
    rw [decide_eq_false (show ¬ x < 0 by omega), decide_eq_false (show ¬ x > m by omega)]; rfl
  · unfold chk at hf ⊢
    rw [upd1_self _ _ _ e]; exact hf
theorem bnd_top : bnd 0 = [7] ∧ bnd 1 = [255] ∧ bnd 2 = [255] ∧ bnd 3 = [255] := by decide +kernel
theorem bnd_ch : ∀ k : Fin 6, bnd (4 + k.val * 40) = [4095] ∧ bnd (4 + k.val * 40 + 1) = [255] ∧ bnd (4 + k.val * 40 + 2) = [255] ∧ bnd (4 + k.val * 40 + 3) = [255] ∧ bnd (4 + k.val * 40 + 36) = [31] ∧ bnd (4 + k.val * 40 + 39) = [31] := by decide +kernel
theorem bnd_wave : ∀ (k : Fin 6) (v : Fin 32), bnd (4 + k.val * 40 + 4 + v.val) = [31] := by decide +kernel
theorem wrG_okP {f : Nat → Int} (h : okP f = true) {at_ B : Int} (b0 : 0 ≤ B) (b1 : B < 256) : okP (wrG f at_ B) = true := by
  unfold wrG
  split
  · exact ok_upd h bnd_top.1 rfl (by omega) (by omega)
  · split
    · exact ok_upd h bnd_top.2.1 rfl (by omega) (by omega)
    · split
      · exact ok_upd h bnd_top.2.2.1 rfl (by omega) (by omega)
      · split
        · exact ok_upd h bnd_top.2.2.2 rfl (by omega) (by omega)
        · split
          · rename_i h6
            rcases sel_cases h with ⟨_, k, hk, hf, hs, ht⟩ | h6'
            · obtain ⟨g1, g2, g3⟩ := ch_bounds h hk
              obtain ⟨c0, c1, c2, c3, c36, c39⟩ := bnd_ch ⟨k, hk⟩
              rw [ht]
              unfold wrC
              split
              · exact ok_upd h c0 rfl (by omega) (by omega)
              · split
                · exact ok_upd h c0 rfl (by omega) (by omega)
                · split
                  · split
                    · exact ok_upd (ok_upd h c1 rfl (by omega) (by omega)) c36 rfl (by omega) (by omega)
                    · exact ok_upd h c1 rfl (by omega) (by omega)
                  · split
                    · exact ok_upd h c2 rfl (by omega) (by omega)
                    · split
                      · split
                        · exact ok_upd h c39 rfl (by omega) (by omega)
                        · exact ok_upd (ok_upd h (bnd_wave ⟨k, hk⟩ ⟨(f (4 + k * 40 + 36)).toNat, by omega⟩) rfl (by omega) (by omega)) c36 rfl (by omega) (by omega)
                      · split
                        · split
                          · exact ok_upd h c3 rfl (by omega) (by omega)
                          · exact h
                        · exact h
            · exact absurd h6 h6'
          · exact h
end Go.Proofs.Ytkhlghlmmnemeaa

namespace Go.Proofs.Ytkhlghlmmnemeaa
open Go Go.R
/-! ### what bounds a sound that may be -/
def mostC : List Int := [4095, 255, 255, 255] ++ List.replicate 32 31 ++ [31, 16777215, 262143, 31]
theorem mem_all : ∀ k : Fin 6, ∀ i : Fin 40, (4 + k.val * 40 + i.val, mostC.getD i.val 0) ∈ codesP ∧ (mostC.getD i.val 0 == -1) = false := by decide +kernel
theorem ok_cell {f : Nat → Int} (h : okP f = true) {k : Nat} (hk : k < 6) {i : Nat} (hi : i < 40) : 0 ≤ f (4 + k * 40 + i) ∧ f (4 + k * 40 + i) ≤ mostC.getD i 0 :=
  ok_in h (mem_all ⟨k, hk⟩ ⟨i, hi⟩).1 (mem_all ⟨k, hk⟩ ⟨i, hi⟩).2
theorem mem_nz : ∀ k : Fin 6, (4 + k.val * 40 + 38, (-1 : Int)) ∈ codesP := by decide +kernel
theorem ok_rand {f : Nat → Int} (h : okP f = true) {k : Nat} (hk : k < 6) : 1 ≤ f (4 + k * 40 + 38) ∧ f (4 + k * 40 + 38) < 262144 := by
  have h1 := ok_cell h hk (i := 38) (by decide)
  rw [show mostC.getD 38 0 = 262143 from rfl] at h1
  have h2 := List.all_eq_true.1 h _ (mem_nz ⟨k, hk⟩)
  unfold chk at h2
  simp only [if_true, Bool.not_eq_true', beq_eq_false_iff_ne] at h2
  omega
theorem ok_wave {f : Nat → Int} (h : okP f = true) {k : Nat} (hk : k < 6) {v : Nat} (hv : v < 32) : 0 ≤ f (4 + k * 40 + 4 + v) ∧ f (4 + k * 40 + 4 + v) ≤ 31 := by
  have h1 := ok_cell h hk (i := 4 + v) (by omega)
  have e : ∀ v : Fin 32, mostC.getD (4 + v.val) 0 = 31 := by decide +kernel
  rw [show mostC.getD (4 + v) 0 = 31 from e ⟨v, hv⟩, ← Nat.add_assoc] at h1
  exact h1
theorem ok_head {f : Nat → Int} (h : okP f = true) : (0 ≤ f 0 ∧ f 0 ≤ 7) ∧ (0 ≤ f 1 ∧ f 1 ≤ 255) ∧ (0 ≤ f 2 ∧ f 2 ≤ 255) ∧ (0 ≤ f 3 ∧ f 3 ≤ 255) :=
  ⟨ok_in h (by decide +kernel) rfl, ok_in h (by decide +kernel) rfl, ok_in h (by decide +kernel) rfl, ok_in h (by decide +kernel) rfl⟩
section
variable {f : Nat → Int} (h : okP f = true) {k : Nat} (hk : k < 6)
include h hk
theorem ok_freq : 0 ≤ f (4 + k * 40) ∧ f (4 + k * 40) ≤ 4095 := ok_cell h hk (i := 0) (by decide)
theorem ok_ctl : 0 ≤ f (4 + k * 40 + 1) ∧ f (4 + k * 40 + 1) ≤ 255 := ok_cell h hk (i := 1) (by decide)
theorem ok_bal : 0 ≤ f (4 + k * 40 + 2) ∧ f (4 + k * 40 + 2) ≤ 255 := ok_cell h hk (i := 2) (by decide)
theorem ok_noi : 0 ≤ f (4 + k * 40 + 3) ∧ f (4 + k * 40 + 3) ≤ 255 := ok_cell h hk (i := 3) (by decide)
theorem ok_idx : 0 ≤ f (4 + k * 40 + 36) ∧ f (4 + k * 40 + 36) ≤ 31 := ok_cell h hk (i := 36) (by decide)
theorem ok_acc : 0 ≤ f (4 + k * 40 + 37) ∧ f (4 + k * 40 + 37) ≤ 16777215 := ok_cell h hk (i := 37) (by decide)
theorem ok_dda : 0 ≤ f (4 + k * 40 + 39) ∧ f (4 + k * 40 + 39) ≤ 31 := ok_cell h hk (i := 39) (by decide)
end
/-! ### a voice -/
theorem lfo_in (f : Nat → Int) : lfoF f = 0 ∨ lfoF f = 1 ∨ lfoF f = 2 ∨ lfoF f = 3 := by unfold lfoF; split <;> omega
def lp (m : Int) : Int := if m = 1 then 1 else if m = 2 then 4 else 16
def nzF (f : Nat → Int) (k : Nat) : Bool := decide (4 ≤ k) && bt 128 (f (4 + k * 40 + 3))
def frF (f : Nat → Int) (k : Nat) : Int := if k = 0 ∧ 0 < lfoF f then (f 4 + (f (48 + (f 80).toNat) - 16) * lp (lfoF f)) % 4096 else f (4 + k * 40)
def timF (f : Nat → Int) (k : Nat) : Int := if k = 1 ∧ 0 < lfoF f then (if f 2 = 0 then 256 else f 2) else 1
def tkF (f : Nat → Int) (k : Nat) : Int := if nzF f k = true then 6 * Nz.per (f (4 + k * 40 + 3)) else 6 * timF f k * (if frF f k = 0 then 4096 else frF f k)
theorem per_in (b : Int) : 64 ≤ Nz.per b ∧ Nz.per b ≤ 3968 := by unfold Nz.per; split <;> omega
theorem fr_in {f : Nat → Int} (h : okP f = true) {k : Nat} (hk : k < 6) : 0 ≤ frF f k ∧ frF f k ≤ 4095 := by
  unfold frF; split
  · omega
  · exact ok_freq h hk
theorem tim_in {f : Nat → Int} (h : okP f = true) (k : Nat) : 1 ≤ timF f k ∧ timF f k ≤ 256 := by
  have := (ok_head h).2.2.1
  unfold timF; split
  · split <;> omega
  · omega
theorem tk_in {f : Nat → Int} (h : okP f = true) {k : Nat} (hk : k < 6) : 6 ≤ tkF f k ∧ tkF f k ≤ 6291456 := by
  have h1 := fr_in h hk
  have h2 := tim_in h k
  have h3 := per_in (f (4 + k * 40 + 3))
  unfold tkF
  split
  · omega
  · have : ∀ a b : Int, 1 ≤ a → a ≤ 256 → 1 ≤ b → b ≤ 4096 → 6 ≤ 6 * a * b ∧ 6 * a * b ≤ 6291456 := by
      intro a b a0 a1 b0 b1
      have e1 : 6 * a * 1 ≤ 6 * a * b := Int.mul_le_mul_of_nonneg_left b0 (by omega)
      have e2 : 6 * a * b ≤ 6 * a * 4096 := Int.mul_le_mul_of_nonneg_left b1 (by omega)
      omega
    split
    · exact this _ _ h2.1 h2.2 (by omega) (by omega)
    · exact this _ _ h2.1 h2.2 (by omega) (by omega)
theorem leaf {x y : Int} {o : Nat} {b : Bool} {σ : List Blk} (hx : x = y) : some (V.agg [.int .i64 x, .ptr 0 o, .bool b], σ) = some (V.agg [.int .i64 y, .ptr 0 o, .bool b], σ) := by rw [hx]
theorem pick0 {x : Int} {o : Nat} {b : Bool} {σ : List Blk} (h0 : 0 ≤ x) (h1 : x ≤ 4095) : cond (x == 0) (some (V.agg [V.int Go.IntKind.i64 24576, V.ptr 0 o, V.bool b], σ)) (some (V.agg [V.int Go.IntKind.i64 (wr Go.IntKind.i64 (6 * x)), V.ptr 0 o, V.bool b], σ)) =
    some (V.agg [.int .i64 (6 * 1 * (if x = 0 then 4096 else x)), .ptr 0 o, .bool b], σ) := by
  by_cases e : x = 0
  · rw [if_pos e, e]; rfl
  · rw [if_neg e, beq_eq_false_iff_ne.2 e, cond_false, wrap_id (by omega) (by omega)]; exact leaf (by omega)
theorem same3 {α : Type} (c : Bool) {x y z : α} (h1 : x = z) (h2 : y = z) : cond c x y = z := by cases c <;> assumption
section
variable {f : Nat → Int} (h : okP f = true)
include h
theorem voice0_eq : evCall Try.prog [Nz.sPeriod, sLfo] 300 38 [.ptr 0 0, .int .i64 0] [.ints 32 .i64 244 f] (fun v σ => some (v, σ.take 1)) = some (.agg [.int .i64 (tkF f 0), .ptr 0 4, .bool (nzF f 0)], [.ints 32 .i64 244 f]) := by
  rw [voice0_ev]
  have hf := ok_freq h (k := 0) (by decide)
  have hi := ok_idx h (k := 1) (by decide)
  simp only [Nat.zero_mul, Nat.add_zero, Nat.one_mul, Nat.reduceAdd] at hf hi
  obtain ⟨v, hv⟩ := Int.eq_ofNat_of_zero_le hi.1
  have hw := ok_wave h (k := 1) (by decide) (v := v) (by omega)
  simp only [Nat.one_mul, Nat.reduceAdd] at hw
  have eu : upd (fun j => 0) 0 40 (fun j => f (44 + j)) (4 + v) = f (48 + v) := by
    unfold upd
    rw [show (Nat.ble 0 (4 + v) && Nat.ble (4 + v + 1) (0 + 40)) = true by simp; omega, cond_true, Nat.sub_zero]
    show f (44 + (4 + v)) = _
    rw [← Nat.add_assoc]
  rw [show tkF f 0 = 6 * 1 * (if frF f 0 = 0 then 4096 else frF f 0) from rfl, show nzF f 0 = false from rfl]
  have es : scaled (f 80) 1 = v := by rw [hv, scaled_eq]; simp
  rw [es, eu, show inR (f 80) 32 = true by rw [hv]; simp [inR]; omega, show (4 + v + 1).ble 40 = true by simp; omega, wrap_id (n := f (48 + v) - 16) (by omega) (by omega)]
  have main : ∀ m q : Int, lfoF f = m → 0 < m → lp m = q → 1 ≤ q → q ≤ 16 → (2 : Int) ^ min (wr .i64 (2 * wr .i64 (m - 1))).toNat 64 = q → decide (0 ≤ wr .i64 (2 * wr .i64 (m - 1))) = true →
      cond (decide (m > 0)) (cond true (cond true (cond (decide (0 ≤ wr Go.IntKind.i64 (2 * wr Go.IntKind.i64 (m - 1)))) (cond (bitI BinOp.and Go.IntKind.i64 (wr Go.IntKind.i64 (f 4 + wr Go.IntKind.i64 ((f (48 + v) - 16) * 2 ^ min (wr Go.IntKind.i64 (2 * wr Go.IntKind.i64 (m - 1))).toNat 64))) 4095 == 0) (some (V.agg [V.int Go.IntKind.i64 24576, V.ptr 0 4, V.bool false], [Blk.ints 32 Go.IntKind.i64 244 f])) (some (V.agg [V.int Go.IntKind.i64 (wr Go.IntKind.i64 (6 * bitI BinOp.and Go.IntKind.i64 (wr Go.IntKind.i64 (f 4 + wr Go.IntKind.i64 ((f (48 + v) - 16) * 2 ^ min (wr Go.IntKind.i64 (2 * wr Go.IntKind.i64 (m - 1))).toNat 64))) 4095)), V.ptr 0 4, V.bool false], [Blk.ints 32 Go.IntKind.i64 244 f]))) none) none) none) (cond (decide (m > 0)) (cond (f 4 == 0) (some (V.agg [V.int Go.IntKind.i64 24576, V.ptr 0 4, V.bool false], [Blk.ints 32 Go.IntKind.i64 244 f])) (some (V.agg [V.int Go.IntKind.i64 (wr Go.IntKind.i64 (6 * f 4)), V.ptr 0 4, V.bool false], [Blk.ints 32 Go.IntKind.i64 244 f]))) (cond (f 4 == 0) (some (V.agg [V.int Go.IntKind.i64 24576, V.ptr 0 4, V.bool false], [Blk.ints 32 Go.IntKind.i64 244 f])) (some (V.agg [V.int Go.IntKind.i64 (wr Go.IntKind.i64 (6 * f 4)), V.ptr 0 4, V.bool false], [Blk.ints 32 Go.IntKind.i64 244 f])))) =
      some (V.agg [V.int IntKind.i64 (6 * 1 * if frF f 0 = 0 then 4096 else frF f 0), V.ptr 0 4, V.bool false], [Blk.ints 32 IntKind.i64 244 f]) := by
    intro m q hm h0 hl q0 q1 hp hd
    have hb : -256 ≤ (f (48 + v) - 16) * q ∧ (f (48 + v) - 16) * q ≤ 256 := by
      have a1 : (f (48 + v) - 16) * q ≤ 15 * q := Int.mul_le_mul_of_nonneg_right (by omega) (by omega)
      have a2 : -16 * q ≤ (f (48 + v) - 16) * q := Int.mul_le_mul_of_nonneg_right (by omega) (by omega)
      omega
    have ef : frF f 0 = (f 4 + (f (48 + v) - 16) * q) % 4096 := by
      unfold frF
      rw [if_pos ⟨rfl, by omega⟩, hm, hl, hv, Int.toNat_natCast]
    rw [decide_eq_true (show m > 0 from h0), hd, hp, wrap_id (n := (f (48 + v) - 16) * q) (by omega) (by omega), wrap_id (n := f 4 + (f (48 + v) - 16) * q) (by omega) (by omega), and_m12, ← ef]
    exact pick0 (fr_in h (by decide)).1 (fr_in h (by decide)).2
  rcases lfo_in f with e | e | e | e
  · rw [e]
    have ef : frF f 0 = f 4 := by unfold frF; rw [if_neg (by omega)]
    rw [ef]
    exact pick0 hf.1 hf.2
  · rw [e]; exact main 1 1 e (by decide) rfl (by decide) (by decide) (by decide +kernel) (by decide +kernel)
  · rw [e]; exact main 2 4 e (by decide) rfl (by decide) (by decide) (by decide +kernel) (by decide +kernel)
  · rw [e]; exact main 3 16 e (by decide) rfl (by decide) (by decide) (by decide +kernel) (by decide +kernel)
theorem voice1_eq : evCall Try.prog [Nz.sPeriod, sLfo] 300 38 [.ptr 0 0, .int .i64 1] [.ints 32 .i64 244 f] (fun v σ => some (v, σ.take 1)) = some (.agg [.int .i64 (tkF f 1), .ptr 0 44, .bool (nzF f 1)], [.ints 32 .i64 244 f]) := by
  rw [voice1_ev]
  have hf := ok_freq h (k := 1) (by decide)
  simp only [Nat.one_mul, Nat.reduceAdd] at hf
  have h2 := (ok_head h).2.2.1
  rw [show tkF f 1 = 6 * timF f 1 * (if frF f 1 = 0 then 4096 else frF f 1) from rfl, show nzF f 1 = false from rfl, show frF f 1 = f 44 from rfl]
  by_cases hl : lfoF f > 0
  · have et : timF f 1 = if f 2 = 0 then 256 else f 2 := by unfold timF; rw [if_pos ⟨rfl, hl⟩]
    rw [decide_eq_true hl, et]
    by_cases e2 : f 2 = 0
    · rw [if_pos e2, e2]
      by_cases e : f 44 = 0
      · rw [if_pos e, e]; rfl
      · rw [if_neg e, beq_eq_false_iff_ne.2 e, wrap_id (by omega) (by omega)]; exact leaf (by omega)
    · rw [if_neg e2, beq_eq_false_iff_ne.2 e2, wrap_id (n := 6 * f 2) (by omega) (by omega)]
      by_cases e : f 44 = 0
      · rw [if_pos e, e, wrap_id (n := 6 * f 2 * 4096) (by omega) (by omega)]; rfl
      · have b1 : 6 * f 2 * f 44 ≤ 6 * f 2 * 4096 := Int.mul_le_mul_of_nonneg_left (by omega) (by omega)
        have b0 : 0 ≤ 6 * f 2 * f 44 := Int.mul_nonneg (by omega) (by omega)
        rw [if_neg e, beq_eq_false_iff_ne.2 e, wrap_id (n := 6 * f 2 * f 44) (by omega) (by omega)]; rfl
  · have et : timF f 1 = 1 := by unfold timF; rw [if_neg (fun hh => hl hh.2)]
    rw [decide_eq_false hl, et]
    exact pick0 hf.1 hf.2
theorem voice2_eq : evCall Try.prog [Nz.sPeriod, sLfo] 300 38 [.ptr 0 0, .int .i64 2] [.ints 32 .i64 244 f] (fun v σ => some (v, σ.take 1)) = some (.agg [.int .i64 (tkF f 2), .ptr 0 84, .bool (nzF f 2)], [.ints 32 .i64 244 f]) := by
  rw [voice2_ev]
  have hf := ok_freq h (k := 2) (by decide)
  exact same3 _ (same3 _ (pick0 hf.1 hf.2) (pick0 hf.1 hf.2)) (same3 _ (pick0 hf.1 hf.2) (pick0 hf.1 hf.2))
theorem voice3_eq : evCall Try.prog [Nz.sPeriod, sLfo] 300 38 [.ptr 0 0, .int .i64 3] [.ints 32 .i64 244 f] (fun v σ => some (v, σ.take 1)) = some (.agg [.int .i64 (tkF f 3), .ptr 0 124, .bool (nzF f 3)], [.ints 32 .i64 244 f]) := by
  rw [voice3_ev]
  have hf := ok_freq h (k := 3) (by decide)
  exact same3 _ (same3 _ (pick0 hf.1 hf.2) (pick0 hf.1 hf.2)) (same3 _ (pick0 hf.1 hf.2) (pick0 hf.1 hf.2))
theorem voice4_eq : evCall Try.prog [Nz.sPeriod, sLfo] 300 38 [.ptr 0 0, .int .i64 4] [.ints 32 .i64 244 f] (fun v σ => some (v, σ.take 1)) = some (.agg [.int .i64 (tkF f 4), .ptr 0 164, .bool (nzF f 4)], [.ints 32 .i64 244 f]) := by
  rw [voice4_ev, (bt128 _).2]
  have hf := ok_freq h (k := 4) (by decide)
  have hp := per_in (f 167)
  rw [show nzF f 4 = bt 128 (f 167) from rfl]
  cases hb : bt 128 (f 167) with
  | true =>
    rw [cond_true, wrap_id (by omega) (by omega)]
    have : tkF f 4 = 6 * Nz.per (f 167) := by unfold tkF; rw [show nzF f 4 = bt 128 (f 167) from rfl, hb, if_pos rfl]
    rw [this]
  | false =>
    have : tkF f 4 = 6 * 1 * (if f 164 = 0 then 4096 else f 164) := by unfold tkF; rw [show nzF f 4 = bt 128 (f 167) from rfl, hb, if_neg (by decide)]; rfl
    rw [cond_false, this]
    exact same3 _ (same3 _ (pick0 hf.1 hf.2) (pick0 hf.1 hf.2)) (same3 _ (pick0 hf.1 hf.2) (pick0 hf.1 hf.2))
theorem voice5_eq : evCall Try.prog [Nz.sPeriod, sLfo] 300 38 [.ptr 0 0, .int .i64 5] [.ints 32 .i64 244 f] (fun v σ => some (v, σ.take 1)) = some (.agg [.int .i64 (tkF f 5), .ptr 0 204, .bool (nzF f 5)], [.ints 32 .i64 244 f]) := by
  rw [voice5_ev, (bt128 _).2]
  have hf := ok_freq h (k := 5) (by decide)
  have hp := per_in (f 207)
  rw [show nzF f 5 = bt 128 (f 207) from rfl]
  cases hb : bt 128 (f 207) with
  | true =>
    rw [cond_true, wrap_id (by omega) (by omega)]
    have : tkF f 5 = 6 * Nz.per (f 207) := by unfold tkF; rw [show nzF f 5 = bt 128 (f 207) from rfl, hb, if_pos rfl]
    rw [this]
  | false =>
    have : tkF f 5 = 6 * 1 * (if f 204 = 0 then 4096 else f 204) := by unfold tkF; rw [show nzF f 5 = bt 128 (f 207) from rfl, hb, if_neg (by decide)]; rfl
    rw [cond_false, this]
    exact same3 _ (same3 _ (pick0 hf.1 hf.2) (pick0 hf.1 hf.2)) (same3 _ (pick0 hf.1 hf.2) (pick0 hf.1 hf.2))
theorem voice_all {k : Nat} (hk : k < 6) : evCall Try.prog [Nz.sPeriod, sLfo] 300 38 [.ptr 0 0, .int .i64 (k : Int)] [.ints 32 .i64 244 f] (fun v σ => some (v, σ.take 1)) = some (.agg [.int .i64 (tkF f k), .ptr 0 (4 + k * 40), .bool (nzF f k)], [.ints 32 .i64 244 f]) := by
  match k, hk with
  | 0, _ => exact voice0_eq h
  | 1, _ => exact voice1_eq h
  | 2, _ => exact voice2_eq h
  | 3, _ => exact voice3_eq h
  | 4, _ => exact voice4_eq h
  | 5, _ => exact voice5_eq h
end
def sVoice : Summ Try.prog := mkLocal 38 (fun args blk => match args, blk with | [.ptr 0 0, .int .i64 k], .ints 32 .i64 244 f => some (okP f && inR k 6, .agg [.int .i64 (tkF f k.toNat), .ptr 0 (4 + k.toNat * 40), .bool (nzF f k.toNat)], .ints 32 .i64 244 f) | _, _ => none) (by
  intro args blk v blk' h; split at h
  · simp only [Option.some.injEq, Prod.mk.injEq, Bool.and_eq_true] at h; obtain ⟨⟨h1, h2⟩, rfl, rfl⟩ := h
    rename_i k f
    have hk : 0 ≤ k ∧ k < 6 := by simpa [inR] using h2
    obtain ⟨j, rfl⟩ := Int.eq_ofNat_of_zero_le hk.1
    exact ⟨rfl, rfl, rfl, rfl, rfl, local_of (Γ := [Nz.sPeriod, sLfo]) (H := []) (n := 300) (g := fun σ => σ.take 1) (fun σ => by cases σ <;> rfl) rfl (voice_all h1 (by omega))⟩
  · cases h)
/-! ### a voice goes on -/
def turnF (f : Nat → Int) (o : Nat) (t : Int) (nz : Bool) : Nat → Int :=
  if f (o + 1) / 64 = 2 then
    (if nz = true then upd1 (upd1 f (o + 37) ((f (o + 37) + 455) % t)) (o + 38) (Nz.jumpI (f (o + 38)) ((f (o + 37) + 455) / t))
     else upd1 (upd1 f (o + 37) ((f (o + 37) + 455) % t)) (o + 36) ((f (o + 36) + (f (o + 37) + 455) / t) % 32))
  else f
theorem wave_on {B : Int} (b0 : 0 ≤ B) (b1 : B ≤ 255) : (bitI .and .i64 B 192 != 128) = !decide (B / 64 = 2) := by
  have a1 : ∀ k, k < 256 → Nat.beq (k &&& 192) (k / 64 * 64) = true := allN_spec (by decide +kernel)
  have e := Nat.eq_of_beq_eq_true (a1 B.toNat (by omega))
  rw [and_nat (by omega) (by omega) (by omega) (by omega), show Int.toNat 192 = 192 from rfl, e, Bool.eq_iff_iff]
  simp only [bne_iff_ne, ne_eq, Bool.not_eq_true', decide_eq_false_iff_not]; omega
theorem turn_eq {f : Nat → Int} {o : Nat} {t : Int} (nz : Bool) (ho : o + 40 ≤ 244) (ht : 0 < t) (c0 : 0 ≤ f (o + 1)) (c1 : f (o + 1) ≤ 255) (i0 : 0 ≤ f (o + 36)) (i1 : f (o + 36) ≤ 31) (a0 : 0 ≤ f (o + 37)) (a1 : f (o + 37) ≤ 16777215) :
    evCall Try.prog [Nz.sJump, sSteps] 300 39 [.agg [.int .i64 t, .ptr 0 o, .bool nz]] [.ints 32 .i64 244 f] (fun v σ => some (v, σ.take 1)) = some (.tup [], [.ints 32 .i64 244 (turnF f o t nz)]) := by
  rw [turn_ev, wave_on c0 c1]
  have hf : ∀ n, n ≤ 244 → n.ble 244 = true := fun n hn => by simpa using hn
  have q0 : 0 ≤ (f (o + 37) + 455) / t := Int.ediv_nonneg (by omega) (by omega)
  have q1 : (f (o + 37) + 455) / t ≤ f (o + 37) + 455 := Int.ediv_le_self _ (by omega)
  rw [hf _ (by omega), hf (o + 37 + 1) (by omega), hf (o + 38 + 1) (by omega), hf (o + 36 + 1) (by omega), wrap_id (n := f (o + 37) + 455) (by omega) (by omega), decide_eq_true ht, decide_eq_true (show 0 ≤ f (o + 37) + 455 by omega), decide_eq_true (show f (o + 37) + 455 < 4611686018427387904 by omega),
    decide_eq_true (show (f (o + 37) + 455) / t < 9223372036854775808 by omega), upd1_self f (o + 37) _ (j := o + 38) (by omega), upd1_self f (o + 37) _ (j := o + 36) (by omega), wrap_id (n := f (o + 36) + (f (o + 37) + 455) / t) (by omega) (by omega), tmod_pos (by omega)]
  unfold turnF
  by_cases e : f (o + 1) / 64 = 2
  · rw [if_pos e, decide_eq_true e]
    cases nz <;> rfl
  · rw [if_neg e, decide_eq_false e]; rfl
def tGood (f : Nat → Int) (o : Nat) (t : Int) : Bool := decide (o + 40 ≤ 244) && (decide (0 < t) && (inB (f (o + 1)) 255 && (inB (f (o + 36)) 31 && inB (f (o + 37)) 16777215)))
theorem inB_iff {n m : Int} : inB n m = true ↔ 0 ≤ n ∧ n ≤ m := by unfold inB; simp
def sTurn : Summ Try.prog := mkLocal 39 (fun args blk => match args, blk with | [.agg [.int .i64 t, .ptr 0 o, .bool nz]], .ints 32 .i64 244 f => some (tGood f o t, .tup [], .ints 32 .i64 244 (turnF f o t nz)) | _, _ => none) (by
  intro args blk v blk' h; split at h
  · simp only [Option.some.injEq, Prod.mk.injEq, tGood, Bool.and_eq_true, decide_eq_true_eq, inB_iff] at h; obtain ⟨⟨h1, h2, h3, h4, h5⟩, rfl, rfl⟩ := h
    exact ⟨rfl, rfl, rfl, rfl, rfl, local_of (Γ := [Nz.sJump, sSteps]) (H := []) (n := 300) (g := fun σ => σ.take 1) (fun σ => by cases σ <;> rfl) rfl (turn_eq _ h1 h2 h3.1 h3.2 h4.1 h4.2 h5.1 h5.2)⟩
  · cases h)
def stepF (f : Nat → Int) (k : Nat) : Nat → Int := turnF f (4 + k * 40) (tkF f k) (nzF f k)
theorem tGood_ok {f : Nat → Int} (h : okP f = true) {k : Nat} (hk : k < 6) : tGood f (4 + k * 40) (tkF f k) = true := by
  simp only [tGood, Bool.and_eq_true, decide_eq_true_eq, inB_iff]
  have := tk_in h hk
  exact ⟨by omega, by omega, ok_ctl h hk, ok_idx h hk, ok_acc h hk⟩
end Go.Proofs.Ytkhlghlmmnemeaa

namespace Go.Proofs.Ytkhlghlmmnemeaa
open Go Go.R
/-- a voice of a sound goes on: the sound, a step on in that channel -/
def vGood (f : Nat → Int) (k : Nat) (o : Nat) (t : Int) (nz : Bool) : Bool := okP f && (Nat.ble (k + 1) 6 && (Nat.beq o (4 + k * 40) && (t == tkF f k && nz == nzF f k)))
def sOn : Summ Try.prog := mkLocal 39 (fun args blk => match args, blk with | [.agg [.int .i64 t, .ptr 0 o, .bool nz]], .ints 32 .i64 244 f => some (vGood f ((o - 4) / 40) o t nz, .tup [], .ints 32 .i64 244 (stepF f ((o - 4) / 40))) | _, _ => none) (by
  intro args blk v blk' h; split at h
  · simp only [Option.some.injEq, Prod.mk.injEq, vGood, Bool.and_eq_true, beq_iff_eq, Nat.ble_eq] at h; obtain ⟨⟨h1, h2, h3, h4, h5⟩, rfl, rfl⟩ := h
    rename_i t o nz f
    have ho := Nat.eq_of_beq_eq_true h3
    generalize (o - 4) / 40 = k at h2 ho h4 h5 ⊢
    subst ho
    have g := tGood_ok h1 (k := k) (by omega)
    simp only [tGood, Bool.and_eq_true, decide_eq_true_eq, inB_iff] at g
    obtain ⟨g1, g2, g3, g4, g5⟩ := g
    rw [← h4] at g2
    refine ⟨rfl, rfl, rfl, rfl, rfl, local_of (Γ := [Nz.sJump, sSteps]) (H := []) (n := 300) (g := fun σ => σ.take 1) (fun σ => by cases σ <;> rfl) rfl ?_⟩
    refine (turn_eq nz g1 g2 g3.1 g3.2 g4.1 g4.2 g5.1 g5.2).trans ?_
    rw [h4, h5]; rfl
  · cases h)
end Go.Proofs.Ytkhlghlmmnemeaa

namespace Go.Proofs.Ytkhlghlmmnemeaa
open Go Go.R
theorem smTo_ev (f : Nat → Int) : evTo Try.prog [sVoice, sOn] 300 [] (ntOf Try.prog 34 [.ptr 0 0]) [1, 1, 1, 0, 1] (bodyOf Try.prog 34) (envOf [.ptr 0 0] 0) [.ints 32 .i64 244 f] (Kt [0, 2, 3, 18]) =
  cond (okP f && true) (cond (okP f && (tkF f 1 == tkF f 1 && nzF f 1 == nzF f 1)) (cond ((okP fun j => stepF f 1 j) && true) (cond ((okP fun j => stepF f 1 j) && (tkF (fun j => stepF f 1 j) 0 == tkF (fun j => stepF f 1 j) 0 && nzF (fun j => stepF f 1 j) 0 == nzF (fun j => stepF f 1 j) 0)) (cond ((okP fun j => stepF (fun j => stepF f 1 j) 0 j) && true) (cond ((okP fun j => stepF (fun j => stepF f 1 j) 0 j) && (tkF (fun j => stepF (fun j => stepF f 1 j) 0 j) 2 == tkF (fun j => stepF (fun j => stepF f 1 j) 0 j) 2 && nzF (fun j => stepF (fun j => stepF f 1 j) 0 j) 2 == nzF (fun j => stepF (fun j => stepF f 1 j) 0 j) 2)) (cond ((okP fun j => stepF (fun j => stepF (fun j => stepF f 1 j) 0 j) 2 j) && true) (cond ((okP fun j => stepF (fun j => stepF (fun j => stepF f 1 j) 0 j) 2 j) && (tkF (fun j => stepF (fun j => stepF (fun j => stepF f 1 j) 0 j) 2 j) 3 == tkF (fun j => stepF (fun j => stepF (fun j => stepF f 1 j) 0 j) 2 j) 3 && nzF (fun j => stepF (fun j => stepF (fun j => stepF f 1 j) 0 j) 2 j) 3 == nzF (fun j => stepF (fun j => stepF (fun j => stepF f 1 j) 0 j) 2 j) 3)) (cond ((okP fun j => stepF (fun j => stepF (fun j => stepF (fun j => stepF f 1 j) 0 j) 2 j) 3 j) && true) (cond ((okP fun j => stepF (fun j => stepF (fun j => stepF (fun j => stepF f 1 j) 0 j) 2 j) 3 j) && (tkF (fun j => stepF (fun j => stepF (fun j => stepF (fun j => stepF f 1 j) 0 j) 2 j) 3 j) 4 == tkF (fun j => stepF (fun j => stepF (fun j => stepF (fun j => stepF f 1 j) 0 j) 2 j) 3 j) 4 && nzF (fun j => stepF (fun j => stepF (fun j => stepF (fun j => stepF f 1 j) 0 j) 2 j) 3 j) 4 == nzF (fun j => stepF (fun j => stepF (fun j => stepF (fun j => stepF f 1 j) 0 j) 2 j) 3 j) 4)) (cond ((okP fun j => stepF (fun j => stepF (fun j => stepF (fun j => stepF (fun j => stepF f 1 j) 0 j) 2 j) 3 j) 4 j) && true) (cond ((okP fun j => stepF (fun j => stepF (fun j => stepF (fun j => stepF (fun j => stepF f 1 j) 0 j) 2 j) 3 j) 4 j) && (tkF (fun j => stepF (fun j => stepF (fun j => stepF (fun j => stepF (fun j => stepF f 1 j) 0 j) 2 j) 3 j) 4 j) 5 == tkF (fun j => stepF (fun j => stepF (fun j => stepF (fun j => stepF (fun j => stepF f 1 j) 0 j) 2 j) 3 j) 4 j) 5 && nzF (fun j => stepF (fun j => stepF (fun j => stepF (fun j => stepF (fun j => stepF f 1 j) 0 j) 2 j) 3 j) 4 j) 5 == nzF (fun j => stepF (fun j => stepF (fun j => stepF (fun j => stepF (fun j => stepF f 1 j) 0 j) 2 j) 3 j) 4 j) 5)) (some (V.tup [V.ptr 0 0, V.ptr 1 0, V.ptr 2 0, V.int Go.IntKind.i64 0], [Blk.ints 32 Go.IntKind.i64 244 fun j => stepF (fun j => stepF (fun j => stepF (fun j => stepF (fun j => stepF (fun j => stepF f 1 j) 0 j) 2 j) 3 j) 4 j) 5 j, Blk.cells 49 [V.int Go.IntKind.i64 0, V.int Go.IntKind.i64 0], Blk.cells 49 [V.int Go.IntKind.i64 0, V.int Go.IntKind.i64 0]])) none) none) none) none) none) none) none) none) none) none) none) none := by kernel_rfl
end Go.Proofs.Ytkhlghlmmnemeaa

namespace Go.Proofs.Ytkhlghlmmnemeaa
open Go Go.R
def vblk (g : Nat → Int) (i : Nat) : Blk := .cells 74 [.int .i64 (tkF g i), .ptr 0 (4 + i * 40), .bool (nzF g i)]
end Go.Proofs.Ytkhlghlmmnemeaa

namespace Go.Proofs.Ytkhlghlmmnemeaa
open Go Go.R
theorem smB0_ev (g : Nat → Int) (l r : Int) (rest : Env) : ev Try.prog [sVoice, sLfo, sValue, Vl.sGain] 300 [] 91 (sub [1, 1, 1, 0, 1, 0, 0] (bodyOf Try.prog 34)) (zipE [0, 2, 3, 18] [.ptr 0 0, .ptr 1 0, .ptr 2 0, .int .i64 0] rest) [.ints 32 .i64 244 g, .cells 49 [.int .i64 0, .int .i64 0], .cells 49 [.int .i64 l, .int .i64 r]] (Kl [0, 2, 3, 18]) =
  cond (okP g && true) (cond (bitI BinOp.and Go.IntKind.i64 (g 5) 128 == 0) (some (V.tup [V.int Go.IntKind.i64 (-1), V.ptr 0 0, V.ptr 1 0, V.ptr 2 0, V.int Go.IntKind.i64 1], [Blk.ints 32 Go.IntKind.i64 244 g, Blk.cells 49 [V.int Go.IntKind.i64 0, V.int Go.IntKind.i64 0], Blk.cells 49 [V.int Go.IntKind.i64 l, V.int Go.IntKind.i64 r], Blk.cells 74 [V.int Go.IntKind.i64 (tkF g 0), V.ptr 0 4, V.bool (nzF g 0)]])) (cond (decide (0 ≤ g 40) && decide (g 40 < 32)) (some (V.tup [V.int Go.IntKind.i64 (-1), V.ptr 0 0, V.ptr 1 0, V.ptr 2 0, V.int Go.IntKind.i64 1], [Blk.ints 32 Go.IntKind.i64 244 g, Blk.cells 49 [V.int Go.IntKind.i64 0, V.int Go.IntKind.i64 0], Blk.cells 49 [V.int Go.IntKind.i64 (wr Go.IntKind.i64 (l + wr Go.IntKind.i64 (wr Go.IntKind.i64 (valF g 4 (nzF g 0) - 16) * Vl.gain (g 5) ((g 6).fdiv 16) ((g 1).fdiv 16)))), V.int Go.IntKind.i64 (wr Go.IntKind.i64 (r + wr Go.IntKind.i64 (wr Go.IntKind.i64 (valF g 4 (nzF g 0) - 16) * Vl.gain (g 5) (bitI BinOp.and Go.IntKind.i64 (g 6) 15) (bitI BinOp.and Go.IntKind.i64 (g 1) 15))))], Blk.cells 74 [V.int Go.IntKind.i64 (tkF g 0), V.ptr 0 4, V.bool (nzF g 0)]])) none)) none := by kernel_rfl
theorem smB1_ev (g : Nat → Int) (l r : Int) (rest : Env) : ev Try.prog [sVoice, sLfo, sValue, Vl.sGain] 300 [] 91 (sub [1, 1, 1, 0, 1, 0, 0] (bodyOf Try.prog 34)) (zipE [0, 2, 3, 18] [.ptr 0 0, .ptr 1 0, .ptr 2 0, .int .i64 1] rest) [.ints 32 .i64 244 g, .cells 49 [.int .i64 0, .int .i64 0], .cells 49 [.int .i64 l, .int .i64 r], vblk g 0] (Kl [0, 2, 3, 18]) =
  cond (okP g && true) (cond (bitI BinOp.and Go.IntKind.i64 (g 45) 128 == 0) (some (V.tup [V.int Go.IntKind.i64 (-1), V.ptr 0 0, V.ptr 1 0, V.ptr 2 0, V.int Go.IntKind.i64 2], [Blk.ints 32 Go.IntKind.i64 244 g, Blk.cells 49 [V.int Go.IntKind.i64 0, V.int Go.IntKind.i64 0], Blk.cells 49 [V.int Go.IntKind.i64 l, V.int Go.IntKind.i64 r], Blk.cells 74 [V.int Go.IntKind.i64 (tkF g 0), V.ptr 0 4, V.bool (nzF g 0)], Blk.cells 74 [V.int Go.IntKind.i64 (tkF g 1), V.ptr 0 44, V.bool (nzF g 1)]])) (cond (decide (lfoF g > 0)) (some (V.tup [V.int Go.IntKind.i64 (-1), V.ptr 0 0, V.ptr 1 0, V.ptr 2 0, V.int Go.IntKind.i64 2], [Blk.ints 32 Go.IntKind.i64 244 g, Blk.cells 49 [V.int Go.IntKind.i64 0, V.int Go.IntKind.i64 0], Blk.cells 49 [V.int Go.IntKind.i64 l, V.int Go.IntKind.i64 r], Blk.cells 74 [V.int Go.IntKind.i64 (tkF g 0), V.ptr 0 4, V.bool (nzF g 0)], Blk.cells 74 [V.int Go.IntKind.i64 (tkF g 1), V.ptr 0 44, V.bool (nzF g 1)]])) (cond (decide (0 ≤ g 80) && decide (g 80 < 32)) (some (V.tup [V.int Go.IntKind.i64 (-1), V.ptr 0 0, V.ptr 1 0, V.ptr 2 0, V.int Go.IntKind.i64 2], [Blk.ints 32 Go.IntKind.i64 244 g, Blk.cells 49 [V.int Go.IntKind.i64 0, V.int Go.IntKind.i64 0], Blk.cells 49 [V.int Go.IntKind.i64 (wr Go.IntKind.i64 (l + wr Go.IntKind.i64 (wr Go.IntKind.i64 (valF g 44 (nzF g 1) - 16) * Vl.gain (g 45) ((g 46).fdiv 16) ((g 1).fdiv 16)))), V.int Go.IntKind.i64 (wr Go.IntKind.i64 (r + wr Go.IntKind.i64 (wr Go.IntKind.i64 (valF g 44 (nzF g 1) - 16) * Vl.gain (g 45) (bitI BinOp.and Go.IntKind.i64 (g 46) 15) (bitI BinOp.and Go.IntKind.i64 (g 1) 15))))], Blk.cells 74 [V.int Go.IntKind.i64 (tkF g 0), V.ptr 0 4, V.bool (nzF g 0)], Blk.cells 74 [V.int Go.IntKind.i64 (tkF g 1), V.ptr 0 44, V.bool (nzF g 1)]])) none))) none := by kernel_rfl
theorem smB2_ev (g : Nat → Int) (l r : Int) (rest : Env) : ev Try.prog [sVoice, sLfo, sValue, Vl.sGain] 300 [] 91 (sub [1, 1, 1, 0, 1, 0, 0] (bodyOf Try.prog 34)) (zipE [0, 2, 3, 18] [.ptr 0 0, .ptr 1 0, .ptr 2 0, .int .i64 2] rest) [.ints 32 .i64 244 g, .cells 49 [.int .i64 0, .int .i64 0], .cells 49 [.int .i64 l, .int .i64 r], vblk g 0, vblk g 1] (Kl [0, 2, 3, 18]) =
  cond (okP g && true) (cond (bitI BinOp.and Go.IntKind.i64 (g 85) 128 == 0) (some (V.tup [V.int Go.IntKind.i64 (-1), V.ptr 0 0, V.ptr 1 0, V.ptr 2 0, V.int Go.IntKind.i64 3], [Blk.ints 32 Go.IntKind.i64 244 g, Blk.cells 49 [V.int Go.IntKind.i64 0, V.int Go.IntKind.i64 0], Blk.cells 49 [V.int Go.IntKind.i64 l, V.int Go.IntKind.i64 r], Blk.cells 74 [V.int Go.IntKind.i64 (tkF g 0), V.ptr 0 4, V.bool (nzF g 0)], Blk.cells 74 [V.int Go.IntKind.i64 (tkF g 1), V.ptr 0 44, V.bool (nzF g 1)], Blk.cells 74 [V.int Go.IntKind.i64 (tkF g 2), V.ptr 0 84, V.bool (nzF g 2)]])) (cond (decide (0 ≤ g 120) && decide (g 120 < 32)) (some (V.tup [V.int Go.IntKind.i64 (-1), V.ptr 0 0, V.ptr 1 0, V.ptr 2 0, V.int Go.IntKind.i64 3], [Blk.ints 32 Go.IntKind.i64 244 g, Blk.cells 49 [V.int Go.IntKind.i64 0, V.int Go.IntKind.i64 0], Blk.cells 49 [V.int Go.IntKind.i64 (wr Go.IntKind.i64 (l + wr Go.IntKind.i64 (wr Go.IntKind.i64 (valF g 84 (nzF g 2) - 16) * Vl.gain (g 85) ((g 86).fdiv 16) ((g 1).fdiv 16)))), V.int Go.IntKind.i64 (wr Go.IntKind.i64 (r + wr Go.IntKind.i64 (wr Go.IntKind.i64 (valF g 84 (nzF g 2) - 16) * Vl.gain (g 85) (bitI BinOp.and Go.IntKind.i64 (g 86) 15) (bitI BinOp.and Go.IntKind.i64 (g 1) 15))))], Blk.cells 74 [V.int Go.IntKind.i64 (tkF g 0), V.ptr 0 4, V.bool (nzF g 0)], Blk.cells 74 [V.int Go.IntKind.i64 (tkF g 1), V.ptr 0 44, V.bool (nzF g 1)], Blk.cells 74 [V.int Go.IntKind.i64 (tkF g 2), V.ptr 0 84, V.bool (nzF g 2)]])) none)) none := by kernel_rfl
theorem smB3_ev (g : Nat → Int) (l r : Int) (rest : Env) : ev Try.prog [sVoice, sLfo, sValue, Vl.sGain] 300 [] 91 (sub [1, 1, 1, 0, 1, 0, 0] (bodyOf Try.prog 34)) (zipE [0, 2, 3, 18] [.ptr 0 0, .ptr 1 0, .ptr 2 0, .int .i64 3] rest) [.ints 32 .i64 244 g, .cells 49 [.int .i64 0, .int .i64 0], .cells 49 [.int .i64 l, .int .i64 r], vblk g 0, vblk g 1, vblk g 2] (Kl [0, 2, 3, 18]) =
  cond (okP g && true) (cond (bitI BinOp.and Go.IntKind.i64 (g 125) 128 == 0) (some (V.tup [V.int Go.IntKind.i64 (-1), V.ptr 0 0, V.ptr 1 0, V.ptr 2 0, V.int Go.IntKind.i64 4], [Blk.ints 32 Go.IntKind.i64 244 g, Blk.cells 49 [V.int Go.IntKind.i64 0, V.int Go.IntKind.i64 0], Blk.cells 49 [V.int Go.IntKind.i64 l, V.int Go.IntKind.i64 r], Blk.cells 74 [V.int Go.IntKind.i64 (tkF g 0), V.ptr 0 4, V.bool (nzF g 0)], Blk.cells 74 [V.int Go.IntKind.i64 (tkF g 1), V.ptr 0 44, V.bool (nzF g 1)], Blk.cells 74 [V.int Go.IntKind.i64 (tkF g 2), V.ptr 0 84, V.bool (nzF g 2)], Blk.cells 74 [V.int Go.IntKind.i64 (tkF g 3), V.ptr 0 124, V.bool (nzF g 3)]])) (cond (decide (0 ≤ g 160) && decide (g 160 < 32)) (some (V.tup [V.int Go.IntKind.i64 (-1), V.ptr 0 0, V.ptr 1 0, V.ptr 2 0, V.int Go.IntKind.i64 4], [Blk.ints 32 Go.IntKind.i64 244 g, Blk.cells 49 [V.int Go.IntKind.i64 0, V.int Go.IntKind.i64 0], Blk.cells 49 [V.int Go.IntKind.i64 (wr Go.IntKind.i64 (l + wr Go.IntKind.i64 (wr Go.IntKind.i64 (valF g 124 (nzF g 3) - 16) * Vl.gain (g 125) ((g 126).fdiv 16) ((g 1).fdiv 16)))), V.int Go.IntKind.i64 (wr Go.IntKind.i64 (r + wr Go.IntKind.i64 (wr Go.IntKind.i64 (valF g 124 (nzF g 3) - 16) * Vl.gain (g 125) (bitI BinOp.and Go.IntKind.i64 (g 126) 15) (bitI BinOp.and Go.IntKind.i64 (g 1) 15))))], Blk.cells 74 [V.int Go.IntKind.i64 (tkF g 0), V.ptr 0 4, V.bool (nzF g 0)], Blk.cells 74 [V.int Go.IntKind.i64 (tkF g 1), V.ptr 0 44, V.bool (nzF g 1)], Blk.cells 74 [V.int Go.IntKind.i64 (tkF g 2), V.ptr 0 84, V.bool (nzF g 2)], Blk.cells 74 [V.int Go.IntKind.i64 (tkF g 3), V.ptr 0 124, V.bool (nzF g 3)]])) none)) none := by kernel_rfl
theorem smB4_ev (g : Nat → Int) (l r : Int) (rest : Env) : ev Try.prog [sVoice, sLfo, sValue, Vl.sGain] 300 [] 91 (sub [1, 1, 1, 0, 1, 0, 0] (bodyOf Try.prog 34)) (zipE [0, 2, 3, 18] [.ptr 0 0, .ptr 1 0, .ptr 2 0, .int .i64 4] rest) [.ints 32 .i64 244 g, .cells 49 [.int .i64 0, .int .i64 0], .cells 49 [.int .i64 l, .int .i64 r], vblk g 0, vblk g 1, vblk g 2, vblk g 3] (Kl [0, 2, 3, 18]) =
  cond (okP g && true) (cond (bitI BinOp.and Go.IntKind.i64 (g 165) 128 == 0) (some (V.tup [V.int Go.IntKind.i64 (-1), V.ptr 0 0, V.ptr 1 0, V.ptr 2 0, V.int Go.IntKind.i64 5], [Blk.ints 32 Go.IntKind.i64 244 g, Blk.cells 49 [V.int Go.IntKind.i64 0, V.int Go.IntKind.i64 0], Blk.cells 49 [V.int Go.IntKind.i64 l, V.int Go.IntKind.i64 r], Blk.cells 74 [V.int Go.IntKind.i64 (tkF g 0), V.ptr 0 4, V.bool (nzF g 0)], Blk.cells 74 [V.int Go.IntKind.i64 (tkF g 1), V.ptr 0 44, V.bool (nzF g 1)], Blk.cells 74 [V.int Go.IntKind.i64 (tkF g 2), V.ptr 0 84, V.bool (nzF g 2)], Blk.cells 74 [V.int Go.IntKind.i64 (tkF g 3), V.ptr 0 124, V.bool (nzF g 3)], Blk.cells 74 [V.int Go.IntKind.i64 (tkF g 4), V.ptr 0 164, V.bool (nzF g 4)]])) (cond (decide (0 ≤ g 200) && decide (g 200 < 32)) (some (V.tup [V.int Go.IntKind.i64 (-1), V.ptr 0 0, V.ptr 1 0, V.ptr 2 0, V.int Go.IntKind.i64 5], [Blk.ints 32 Go.IntKind.i64 244 g, Blk.cells 49 [V.int Go.IntKind.i64 0, V.int Go.IntKind.i64 0], Blk.cells 49 [V.int Go.IntKind.i64 (wr Go.IntKind.i64 (l + wr Go.IntKind.i64 (wr Go.IntKind.i64 (valF g 164 (nzF g 4) - 16) * Vl.gain (g 165) ((g 166).fdiv 16) ((g 1).fdiv 16)))), V.int Go.IntKind.i64 (wr Go.IntKind.i64 (r + wr Go.IntKind.i64 (wr Go.IntKind.i64 (valF g 164 (nzF g 4) - 16) * Vl.gain (g 165) (bitI BinOp.and Go.IntKind.i64 (g 166) 15) (bitI BinOp.and Go.IntKind.i64 (g 1) 15))))], Blk.cells 74 [V.int Go.IntKind.i64 (tkF g 0), V.ptr 0 4, V.bool (nzF g 0)], Blk.cells 74 [V.int Go.IntKind.i64 (tkF g 1), V.ptr 0 44, V.bool (nzF g 1)], Blk.cells 74 [V.int Go.IntKind.i64 (tkF g 2), V.ptr 0 84, V.bool (nzF g 2)], Blk.cells 74 [V.int Go.IntKind.i64 (tkF g 3), V.ptr 0 124, V.bool (nzF g 3)], Blk.cells 74 [V.int Go.IntKind.i64 (tkF g 4), V.ptr 0 164, V.bool (nzF g 4)]])) none)) none := by kernel_rfl
theorem smB5_ev (g : Nat → Int) (l r : Int) (rest : Env) : ev Try.prog [sVoice, sLfo, sValue, Vl.sGain] 300 [] 91 (sub [1, 1, 1, 0, 1, 0, 0] (bodyOf Try.prog 34)) (zipE [0, 2, 3, 18] [.ptr 0 0, .ptr 1 0, .ptr 2 0, .int .i64 5] rest) [.ints 32 .i64 244 g, .cells 49 [.int .i64 0, .int .i64 0], .cells 49 [.int .i64 l, .int .i64 r], vblk g 0, vblk g 1, vblk g 2, vblk g 3, vblk g 4] (Kl [0, 2, 3, 18]) =
  cond (okP g && true) (cond (bitI BinOp.and Go.IntKind.i64 (g 205) 128 == 0) (some (V.tup [V.int Go.IntKind.i64 (-1), V.ptr 0 0, V.ptr 1 0, V.ptr 2 0, V.int Go.IntKind.i64 6], [Blk.ints 32 Go.IntKind.i64 244 g, Blk.cells 49 [V.int Go.IntKind.i64 0, V.int Go.IntKind.i64 0], Blk.cells 49 [V.int Go.IntKind.i64 l, V.int Go.IntKind.i64 r], Blk.cells 74 [V.int Go.IntKind.i64 (tkF g 0), V.ptr 0 4, V.bool (nzF g 0)], Blk.cells 74 [V.int Go.IntKind.i64 (tkF g 1), V.ptr 0 44, V.bool (nzF g 1)], Blk.cells 74 [V.int Go.IntKind.i64 (tkF g 2), V.ptr 0 84, V.bool (nzF g 2)], Blk.cells 74 [V.int Go.IntKind.i64 (tkF g 3), V.ptr 0 124, V.bool (nzF g 3)], Blk.cells 74 [V.int Go.IntKind.i64 (tkF g 4), V.ptr 0 164, V.bool (nzF g 4)], Blk.cells 74 [V.int Go.IntKind.i64 (tkF g 5), V.ptr 0 204, V.bool (nzF g 5)]])) (cond (decide (0 ≤ g 240) && decide (g 240 < 32)) (some (V.tup [V.int Go.IntKind.i64 (-1), V.ptr 0 0, V.ptr 1 0, V.ptr 2 0, V.int Go.IntKind.i64 6], [Blk.ints 32 Go.IntKind.i64 244 g, Blk.cells 49 [V.int Go.IntKind.i64 0, V.int Go.IntKind.i64 0], Blk.cells 49 [V.int Go.IntKind.i64 (wr Go.IntKind.i64 (l + wr Go.IntKind.i64 (wr Go.IntKind.i64 (valF g 204 (nzF g 5) - 16) * Vl.gain (g 205) ((g 206).fdiv 16) ((g 1).fdiv 16)))), V.int Go.IntKind.i64 (wr Go.IntKind.i64 (r + wr Go.IntKind.i64 (wr Go.IntKind.i64 (valF g 204 (nzF g 5) - 16) * Vl.gain (g 205) (bitI BinOp.and Go.IntKind.i64 (g 206) 15) (bitI BinOp.and Go.IntKind.i64 (g 1) 15))))], Blk.cells 74 [V.int Go.IntKind.i64 (tkF g 0), V.ptr 0 4, V.bool (nzF g 0)], Blk.cells 74 [V.int Go.IntKind.i64 (tkF g 1), V.ptr 0 44, V.bool (nzF g 1)], Blk.cells 74 [V.int Go.IntKind.i64 (tkF g 2), V.ptr 0 84, V.bool (nzF g 2)], Blk.cells 74 [V.int Go.IntKind.i64 (tkF g 3), V.ptr 0 124, V.bool (nzF g 3)], Blk.cells 74 [V.int Go.IntKind.i64 (tkF g 4), V.ptr 0 164, V.bool (nzF g 4)], Blk.cells 74 [V.int Go.IntKind.i64 (tkF g 5), V.ptr 0 204, V.bool (nzF g 5)]])) none)) none := by kernel_rfl
theorem smB6_ev (g : Nat → Int) (l r : Int) (rest : Env) : ev Try.prog [sVoice, sLfo, sValue, Vl.sGain] 300 [] 91 (sub [1, 1, 1, 0, 1, 0, 0] (bodyOf Try.prog 34)) (zipE [0, 2, 3, 18] [.ptr 0 0, .ptr 1 0, .ptr 2 0, .int .i64 6] rest) [.ints 32 .i64 244 g, .cells 49 [.int .i64 0, .int .i64 0], .cells 49 [.int .i64 l, .int .i64 r], vblk g 0, vblk g 1, vblk g 2, vblk g 3, vblk g 4, vblk g 5] (Kl [0, 2, 3, 18]) =
  some (V.tup [V.int Go.IntKind.i64 2, V.ptr 0 0, V.ptr 1 0, V.ptr 2 0, V.int Go.IntKind.i64 6], [Blk.ints 32 Go.IntKind.i64 244 g, Blk.cells 49 [V.int Go.IntKind.i64 0, V.int Go.IntKind.i64 0], Blk.cells 49 [V.int Go.IntKind.i64 l, V.int Go.IntKind.i64 r], Blk.cells 74 [V.int Go.IntKind.i64 (tkF g 0), V.ptr 0 4, V.bool (nzF g 0)], Blk.cells 74 [V.int Go.IntKind.i64 (tkF g 1), V.ptr 0 44, V.bool (nzF g 1)], Blk.cells 74 [V.int Go.IntKind.i64 (tkF g 2), V.ptr 0 84, V.bool (nzF g 2)], Blk.cells 74 [V.int Go.IntKind.i64 (tkF g 3), V.ptr 0 124, V.bool (nzF g 3)], Blk.cells 74 [V.int Go.IntKind.i64 (tkF g 4), V.ptr 0 164, V.bool (nzF g 4)], Blk.cells 74 [V.int Go.IntKind.i64 (tkF g 5), V.ptr 0 204, V.bool (nzF g 5)]]) := by kernel_rfl
theorem smFrom_ev (g : Nat → Int) (l r : Int) (rest : Env) : evFrom Try.prog [] 300 [] 91 [1, 1, 1, 0, 1] (bodyOf Try.prog 34) (zipE [0, 2, 3, 18] [.ptr 0 0, .ptr 1 0, .ptr 2 0, .int .i64 6] rest) [.ints 32 .i64 244 g, .cells 49 [.int .i64 0, .int .i64 0], .cells 49 [.int .i64 l, .int .i64 r], vblk g 0, vblk g 1, vblk g 2, vblk g 3, vblk g 4, vblk g 5] (leaveOf Try.prog 34 (fun v σ => some (v, σ.take 1))) =
  some (V.agg [V.int Go.IntKind.i64 l, V.int Go.IntKind.i64 r], [Blk.ints 32 Go.IntKind.i64 244 g]) := by kernel_rfl
end Go.Proofs.Ytkhlghlmmnemeaa

namespace Go.Proofs.Ytkhlghlmmnemeaa
open Go Go.R
/-! ### a step keeps a sound one that may be -/
theorem ok_updG {f : Nat → Int} (h : okP f = true) {i : Nat} {x : Int} (hb : ∀ m ∈ bnd i, (if m = -1 then !(x == 0) else inB x m) = true) : okP (upd1 f i x) = true := by
  unfold okP
  rw [List.all_eq_true]
  intro p hp
  have hf := List.all_eq_true.1 h p hp
  by_cases e : p.1 = i
  · have hmem : p.2 ∈ bnd i := List.mem_map.2 ⟨p, List.mem_filter.2 ⟨hp, by simpa using e⟩, rfl⟩
    have := hb _ hmem
    unfold chk
    rw [e, upd1_at]; exact this
  · unfold chk at hf ⊢
    rw [upd1_self _ _ _ e]; exact hf
theorem bnd_37 : ∀ k : Fin 6, bnd (4 + k.val * 40 + 37) = [16777215] := by decide +kernel
theorem bnd_38 : ∀ k : Fin 6, ∀ m ∈ bnd (4 + k.val * 40 + 38), m = -1 ∨ m = 262143 := by decide +kernel
theorem jump_lo (s n : Int) : 1 ≤ Nz.jumpI s n ∧ Nz.jumpI s n < 262144 := (Nz.jump_link s n).2
theorem step_ok {f : Nat → Int} (h : okP f = true) {k : Nat} (hk : k < 6) : okP (stepF f k) = true := by
  have ht := tk_in h hk
  have ha := ok_acc h hk
  have hi := ok_idx h hk
  unfold stepF turnF
  have a0 : 0 ≤ (f (4 + k * 40 + 37) + 455) % tkF f k := Int.emod_nonneg _ (by omega)
  have a1 : (f (4 + k * 40 + 37) + 455) % tkF f k < tkF f k := Int.emod_lt_of_pos _ (by omega)
  have g1 : okP (upd1 f (4 + k * 40 + 37) ((f (4 + k * 40 + 37) + 455) % tkF f k)) = true := ok_upd h (bnd_37 ⟨k, hk⟩) rfl a0 (by omega)
  split
  · split
    · refine ok_updG g1 (fun m hm => ?_)
      have hj := jump_lo (f (4 + k * 40 + 38)) ((f (4 + k * 40 + 37) + 455) / tkF f k)
      rcases bnd_38 ⟨k, hk⟩ m hm with rfl | rfl
      · rw [if_pos rfl]; simp; omega
      · rw [if_neg (by decide), inB_iff]; omega
    · exact ok_upd g1 (bnd_ch ⟨k, hk⟩).2.2.2.2.1 rfl (by omega) (by omega)
  · exact h
theorem step_out (f : Nat → Int) (k : Nat) {j : Nat} (hj : ¬ (4 + k * 40 + 36 ≤ j ∧ j ≤ 4 + k * 40 + 38)) : stepF f k j = f j := by
  unfold stepF turnF
  split
  · split
    · rw [upd1_self _ _ _ (by omega), upd1_self _ _ _ (by omega)]
    · rw [upd1_self _ _ _ (by omega), upd1_self _ _ _ (by omega)]
  · rfl
def goF (f : Nat → Int) : Nat → Int := stepF (stepF (stepF (stepF (stepF (stepF f 1) 0) 2) 3) 4) 5
theorem go_ok {f : Nat → Int} (h : okP f = true) : okP (goF f) = true :=
  step_ok (step_ok (step_ok (step_ok (step_ok (step_ok h (by decide)) (by decide)) (by decide)) (by decide)) (by decide)) (by decide)
theorem smTo_eq {f : Nat → Int} (h : okP f = true) : evTo Try.prog [sVoice, sOn] 300 [] (ntOf Try.prog 34 [.ptr 0 0]) [1, 1, 1, 0, 1] (bodyOf Try.prog 34) (envOf [.ptr 0 0] 0) [.ints 32 .i64 244 f] (Kt [0, 2, 3, 18]) =
    some (.tup [.ptr 0 0, .ptr 1 0, .ptr 2 0, .int .i64 0], [.ints 32 .i64 244 (goF f), .cells 49 [.int .i64 0, .int .i64 0], .cells 49 [.int .i64 0, .int .i64 0]]) := by
  rw [smTo_ev]
  have h1 := step_ok h (k := 1) (by decide)
  have h2 := step_ok h1 (k := 0) (by decide)
  have h3 := step_ok h2 (k := 2) (by decide)
  have h4 := step_ok h3 (k := 3) (by decide)
  have h5 := step_ok h4 (k := 4) (by decide)
  simp only [h, h1, h2, h3, h4, h5, beq_self_eq_true, Bool.and_self, Bool.and_true, cond_true]
  rfl
/-! ### what the channels say together -/
def onF (g : Nat → Int) (k : Nat) : Bool := bt 128 (g (4 + k * 40 + 1)) && !(decide (k = 1) && decide (0 < lfoF g))
def sideF (g : Nat → Int) (lft : Bool) (k : Nat) : Int :=
  if onF g k = true then (valF g (4 + k * 40) (nzF g k) - 16) * Vl.gain (g (4 + k * 40 + 1)) (if lft = true then g (4 + k * 40 + 2) / 16 else g (4 + k * 40 + 2) % 16) (if lft = true then g 1 / 16 else g 1 % 16) else 0
def sumF (g : Nat → Int) (lft : Bool) : Nat → Int
  | 0 => 0
  | k + 1 => sumF g lft k + sideF g lft k
theorem lev_in (n : Int) : 0 ≤ Vl.lev n ∧ Vl.lev n ≤ 1024 := by
  by_cases h : n < 0
  · rw [Vl.lev_neg h]; decide
  · by_cases h2 : n > 31
    · rw [Vl.lev_far h2]; decide
    · have e : ∀ a : Fin 32, 0 ≤ Vl.lev (a.val : Nat) ∧ Vl.lev (a.val : Nat) ≤ 1024 := by decide +kernel
      obtain ⟨v, hv⟩ := Int.eq_ofNat_of_zero_le (show 0 ≤ n by omega)
      rw [hv]; exact e ⟨v, by omega⟩
theorem gain_in (a b c : Int) : 0 ≤ Vl.gain a b c ∧ Vl.gain a b c ≤ 1024 := lev_in _
theorem val_in {g : Nat → Int} (h : okP g = true) {k : Nat} (hk : k < 6) (nz : Bool) : 0 ≤ valF g (4 + k * 40) nz ∧ valF g (4 + k * 40) nz ≤ 31 := by
  unfold valF
  split
  · exact ok_dda h hk
  · split
    · omega
    · have hi := ok_idx h hk
      exact ok_wave h hk (v := (g (4 + k * 40 + 36)).toNat) (by omega)
theorem part_in {v q : Int} (v0 : 0 ≤ v) (v1 : v ≤ 31) (q0 : 0 ≤ q) (q1 : q ≤ 1024) : -16384 ≤ (v - 16) * q ∧ (v - 16) * q ≤ 15360 := by
  have a1 : (v - 16) * q ≤ 15 * q := Int.mul_le_mul_of_nonneg_right (by omega) q0
  have a2 : -16 * q ≤ (v - 16) * q := Int.mul_le_mul_of_nonneg_right (by omega) q0
  omega
theorem side_in {g : Nat → Int} (h : okP g = true) (lft : Bool) {k : Nat} (hk : k < 6) : -16384 ≤ sideF g lft k ∧ sideF g lft k ≤ 15360 := by
  unfold sideF
  split
  · obtain ⟨v0, v1⟩ := val_in h hk (nzF g k)
    obtain ⟨q0, q1⟩ := gain_in (g (4 + k * 40 + 1)) (if lft = true then g (4 + k * 40 + 2) / 16 else g (4 + k * 40 + 2) % 16) (if lft = true then g 1 / 16 else g 1 % 16)
    exact part_in v0 v1 q0 q1
  · omega
theorem sum_in {g : Nat → Int} (h : okP g = true) (lft : Bool) : ∀ k : Nat, k ≤ 6 → -16384 * (k : Int) ≤ sumF g lft k ∧ sumF g lft k ≤ 15360 * (k : Int)
  | 0, _ => by simp [sumF]
  | k + 1, hk => by
    have h1 := sum_in h lft k (by omega)
    have h2 := side_in h lft (k := k) (by omega)
    simp only [sumF]
    omega
/-- a turn of the second loop, as the trees tell it -/
theorem sm_turn {g : Nat → Int} (h : okP g = true) {k : Nat} (hk : k < 6) {α : Type} (K : Int → Int → α) :
    cond (bitI .and .i64 (g (4 + k * 40 + 1)) 128 == 0) (K (sumF g true k) (sumF g false k)) (cond (decide (k = 1) && decide (0 < lfoF g)) (K (sumF g true k) (sumF g false k))
      (K (wr .i64 (sumF g true k + wr .i64 (wr .i64 (valF g (4 + k * 40) (nzF g k) - 16) * Vl.gain (g (4 + k * 40 + 1)) ((g (4 + k * 40 + 2)).fdiv 16) ((g 1).fdiv 16))))
         (wr .i64 (sumF g false k + wr .i64 (wr .i64 (valF g (4 + k * 40) (nzF g k) - 16) * Vl.gain (g (4 + k * 40 + 1)) (bitI .and .i64 (g (4 + k * 40 + 2)) 15) (bitI .and .i64 (g 1) 15))))))
      = K (sumF g true (k + 1)) (sumF g false (k + 1)) := by
  have s1 := sum_in h true k (by omega)
  have s2 := sum_in h false k (by omega)
  obtain ⟨v0, v1⟩ := val_in h hk (nzF g k)
  have fd : ∀ x : Int, x.fdiv 16 = x / 16 := fun x => Int.fdiv_eq_ediv_of_nonneg _ (by decide)
  obtain ⟨q0, q1⟩ := gain_in (g (4 + k * 40 + 1)) (g (4 + k * 40 + 2) / 16) (g 1 / 16)
  obtain ⟨p0, p1⟩ := gain_in (g (4 + k * 40 + 1)) (g (4 + k * 40 + 2) % 16) (g 1 % 16)
  have m1 := part_in v0 v1 q0 q1
  have m2 := part_in v0 v1 p0 p1
  rw [(bt128 _).1, fd, fd, and_m4, and_m4, wrap_id (n := valF g (4 + k * 40) (nzF g k) - 16) (by omega) (by omega)]
  rw [wrap_id (n := (valF g (4 + k * 40) (nzF g k) - 16) * Vl.gain (g (4 + k * 40 + 1)) (g (4 + k * 40 + 2) / 16) (g 1 / 16)) (by omega) (by omega), wrap_id (n := (valF g (4 + k * 40) (nzF g k) - 16) * Vl.gain (g (4 + k * 40 + 1)) (g (4 + k * 40 + 2) % 16) (g 1 % 16)) (by omega) (by omega)]
  rw [wrap_id (n := sumF g true k + _) (by omega) (by omega), wrap_id (n := sumF g false k + _) (by omega) (by omega)]
  rw [show sumF g true (k + 1) = sumF g true k + (if onF g k = true then (valF g (4 + k * 40) (nzF g k) - 16) * Vl.gain (g (4 + k * 40 + 1)) (g (4 + k * 40 + 2) / 16) (g 1 / 16) else 0) from rfl,
    show sumF g false (k + 1) = sumF g false k + (if onF g k = true then (valF g (4 + k * 40) (nzF g k) - 16) * Vl.gain (g (4 + k * 40 + 1)) (g (4 + k * 40 + 2) % 16) (g 1 % 16) else 0) from rfl]
  unfold onF
  cases bt 128 (g (4 + k * 40 + 1)) with
  | false => simp
  | true =>
    cases (decide (k = 1) && decide (0 < lfoF g)) with
    | true => simp
    | false => simp
def sgF (g : Nat → Int) (k : Nat) : List Blk := [.ints 32 .i64 244 g, .cells 49 [.int .i64 0, .int .i64 0], .cells 49 [.int .i64 (sumF g true k), .int .i64 (sumF g false k)]] ++ (List.range k).map (vblk g)
def vsF (k : Nat) : List V := [.ptr 0 0, .ptr 1 0, .ptr 2 0, .int .i64 (k : Nat)]
section
variable {g : Nat → Int} (h : okP g = true) (rest : Env)
include h
theorem idx_ok {k : Nat} (hk : k < 6) : (decide (0 ≤ g (4 + k * 40 + 36)) && decide (g (4 + k * 40 + 36) < 32)) = true := by
  have := ok_idx h hk
  rw [decide_eq_true this.1, decide_eq_true (show g (4 + k * 40 + 36) < 32 by omega)]; rfl
theorem sm0 : ev Try.prog [sVoice, sLfo, sValue, Vl.sGain] 300 [] 91 (sub [1, 1, 1, 0, 1, 0, 0] (bodyOf Try.prog 34)) (zipE [0, 2, 3, 18] (vsF 0) rest) (sgF g 0) (Kl [0, 2, 3, 18]) = some (.tup (exV .normal :: vsF 1), sgF g 1) := by
  refine (smB0_ev g (sumF g true 0) (sumF g false 0) rest).trans ?_
  rw [h, show (decide (0 ≤ g 40) && decide (g 40 < 32)) = true from idx_ok h (k := 0) (by decide)]
  exact sm_turn h (k := 0) (by decide) (fun l r => some (V.tup (exV .normal :: vsF 1), [.ints 32 .i64 244 g, .cells 49 [.int .i64 0, .int .i64 0], .cells 49 [.int .i64 l, .int .i64 r]] ++ (List.range 1).map (vblk g)))
theorem sm1 : ev Try.prog [sVoice, sLfo, sValue, Vl.sGain] 300 [] 91 (sub [1, 1, 1, 0, 1, 0, 0] (bodyOf Try.prog 34)) (zipE [0, 2, 3, 18] (vsF 1) rest) (sgF g 1) (Kl [0, 2, 3, 18]) = some (.tup (exV .normal :: vsF 2), sgF g 2) := by
  refine (smB1_ev g (sumF g true 1) (sumF g false 1) rest).trans ?_
  rw [h, show (decide (0 ≤ g 80) && decide (g 80 < 32)) = true from idx_ok h (k := 1) (by decide)]
  exact sm_turn h (k := 1) (by decide) (fun l r => some (V.tup (exV .normal :: vsF 2), [.ints 32 .i64 244 g, .cells 49 [.int .i64 0, .int .i64 0], .cells 49 [.int .i64 l, .int .i64 r]] ++ (List.range 2).map (vblk g)))
theorem sm2 : ev Try.prog [sVoice, sLfo, sValue, Vl.sGain] 300 [] 91 (sub [1, 1, 1, 0, 1, 0, 0] (bodyOf Try.prog 34)) (zipE [0, 2, 3, 18] (vsF 2) rest) (sgF g 2) (Kl [0, 2, 3, 18]) = some (.tup (exV .normal :: vsF 3), sgF g 3) := by
  refine (smB2_ev g (sumF g true 2) (sumF g false 2) rest).trans ?_
  rw [h, show (decide (0 ≤ g 120) && decide (g 120 < 32)) = true from idx_ok h (k := 2) (by decide)]
  exact sm_turn h (k := 2) (by decide) (fun l r => some (V.tup (exV .normal :: vsF 3), [.ints 32 .i64 244 g, .cells 49 [.int .i64 0, .int .i64 0], .cells 49 [.int .i64 l, .int .i64 r]] ++ (List.range 3).map (vblk g)))
theorem sm3 : ev Try.prog [sVoice, sLfo, sValue, Vl.sGain] 300 [] 91 (sub [1, 1, 1, 0, 1, 0, 0] (bodyOf Try.prog 34)) (zipE [0, 2, 3, 18] (vsF 3) rest) (sgF g 3) (Kl [0, 2, 3, 18]) = some (.tup (exV .normal :: vsF 4), sgF g 4) := by
  refine (smB3_ev g (sumF g true 3) (sumF g false 3) rest).trans ?_
  rw [h, show (decide (0 ≤ g 160) && decide (g 160 < 32)) = true from idx_ok h (k := 3) (by decide)]
  exact sm_turn h (k := 3) (by decide) (fun l r => some (V.tup (exV .normal :: vsF 4), [.ints 32 .i64 244 g, .cells 49 [.int .i64 0, .int .i64 0], .cells 49 [.int .i64 l, .int .i64 r]] ++ (List.range 4).map (vblk g)))
theorem sm4 : ev Try.prog [sVoice, sLfo, sValue, Vl.sGain] 300 [] 91 (sub [1, 1, 1, 0, 1, 0, 0] (bodyOf Try.prog 34)) (zipE [0, 2, 3, 18] (vsF 4) rest) (sgF g 4) (Kl [0, 2, 3, 18]) = some (.tup (exV .normal :: vsF 5), sgF g 5) := by
  refine (smB4_ev g (sumF g true 4) (sumF g false 4) rest).trans ?_
  rw [h, show (decide (0 ≤ g 200) && decide (g 200 < 32)) = true from idx_ok h (k := 4) (by decide)]
  exact sm_turn h (k := 4) (by decide) (fun l r => some (V.tup (exV .normal :: vsF 5), [.ints 32 .i64 244 g, .cells 49 [.int .i64 0, .int .i64 0], .cells 49 [.int .i64 l, .int .i64 r]] ++ (List.range 5).map (vblk g)))
theorem sm5 : ev Try.prog [sVoice, sLfo, sValue, Vl.sGain] 300 [] 91 (sub [1, 1, 1, 0, 1, 0, 0] (bodyOf Try.prog 34)) (zipE [0, 2, 3, 18] (vsF 5) rest) (sgF g 5) (Kl [0, 2, 3, 18]) = some (.tup (exV .normal :: vsF 6), sgF g 6) := by
  refine (smB5_ev g (sumF g true 5) (sumF g false 5) rest).trans ?_
  rw [h, show (decide (0 ≤ g 240) && decide (g 240 < 32)) = true from idx_ok h (k := 5) (by decide)]
  exact sm_turn h (k := 5) (by decide) (fun l r => some (V.tup (exV .normal :: vsF 6), [.ints 32 .i64 244 g, .cells 49 [.int .i64 0, .int .i64 0], .cells 49 [.int .i64 l, .int .i64 r]] ++ (List.range 6).map (vblk g)))
end
theorem sm_block : sub [1, 1, 1, 0, 1] (bodyOf Try.prog 34) = .block 2 (.loop (sub [1, 1, 1, 0, 1, 0, 0] (bodyOf Try.prog 34))) := by kernel_rfl
def outV (g : Nat → Int) : V := .agg [.int .i64 (sumF g true 6), .int .i64 (sumF g false 6)]
theorem sample_calls {f : Nat → Int} (h : okP f = true) (B : Base) (ρ : Rho) (w : World) (hr : Rel B ρ [.ints 32 .i64 244 f] w) :
    Calls Try.prog 34 (reals ρ [.ptr 0 0]).toArray w fun e w' => ∃ x, e = .returned x ∧ After B ρ [.ints 32 .i64 244 f] (fun v σ => some (v, σ.take 1)) (outV (goF f), [.ints 32 .i64 244 (goF f)]) x w' := by
  have hg := go_ok h
  refine loop_call hN hM (by kernel_rfl) [1, 1, 1, 0, 1] (smTo_eq h) (fun B ρ0 a w hs => ?_) (fun rest => (smFrom_ev (goF f) (sumF (goF f) true 6) (sumF (goF f) false 6) rest)) hr rfl
  rw [show ntOf Try.prog 34 [.ptr 0 0] = 91 by kernel_rfl] at hs ⊢
  rw [sm_block]
  refine loop_unit (Γ := [sVoice, sLfo, sValue, Vl.sGain]) (n := 300) (H := []) (live := [0, 2, 3, 18]) hN hM 6 vsF (sgF (goF f)) (fun k hk rest => ?_) (fun rest => ?_) hs
  · match k, hk with
    | 0, _ => exact sm0 hg rest
    | 1, _ => exact sm1 hg rest
    | 2, _ => exact sm2 hg rest
    | 3, _ => exact sm3 hg rest
    | 4, _ => exact sm4 hg rest
    | 5, _ => exact sm5 hg rest
  · exact smB6_ev (goF f) (sumF (goF f) true 6) (sumF (goF f) false 6) rest
end Go.Proofs.Ytkhlghlmmnemeaa

namespace Go.Proofs.Ytkhlghlmmnemeaa
open Go Go.R
theorem oth_block : sub [1, 1, 1, 0, 1] (bodyOf Try.prog 7) = .block 0 (.loop (sub [1, 1, 1, 0, 1, 0, 0] (bodyOf Try.prog 7))) := by kernel_rfl
theorem bad_cell {f : Nat → Int} (h : okP f = false) (a b : Int) {j : Nat} (hj : j < 244) : wrF f a b j = f j := by
  unfold wrF; rw [h, if_neg (by decide), cut_in f hj]
theorem good_cell {f : Nat → Int} (h : okP f = true) (a b : Int) {j : Nat} (hj : j < 244) : wrF f a b j = wrG f a (b % 256) j := by
  unfold wrF; rw [if_pos h, cut_in _ hj]
def othG (f : Nat → Int) (a b : Int) : Nat → Int := fun j => upd (fun j => 0) 0 244 (fun j => wrF (fun j => f (0 + j)) a b j) j
theorem othG_in (f : Nat → Int) (a b : Int) {j : Nat} (hj : j < 244) : othG f a b j = wrF f a b j := by
  unfold othG upd
  rw [show (Nat.ble 0 j && Nat.ble (j + 1) (0 + 244)) = true by simp; omega, cond_true, Nat.sub_zero, shift0]
theorem oth_body {f : Nat → Int} (h : okP f = true) (a b : Int) (k : Nat) (hk : k < 6) (rest : Env) :
    ev Try.prog [] 300 [] 77 (sub [1, 1, 1, 0, 1, 0, 0] (bodyOf Try.prog 7)) (zipE [1, 2, 3, 7, 8] [.int .i64 a, .int .i64 b, .ptr 0 0, .ptr 1 0, .int .i64 (k : Nat)] rest) [.ints 32 .i64 244 f, .ints 32 .i64 244 (othG f a b)] (Kl [1, 2, 3, 7, 8]) =
      some (.tup (exV .normal :: [.int .i64 a, .int .i64 b, .ptr 0 0, .ptr 1 0, .int .i64 ((k + 1 : Nat) : Int)]), [.ints 32 .i64 244 f, .ints 32 .i64 244 (othG f a b)]) := by
  refine (othBody_ev f (othG f a b) a b k rest).trans ?_
  have e1 : inR (k : Int) 6 = true := inR6 hk
  have e2 : scaled (k : Int) 40 = k * 40 := by rw [scaled_eq]; simp
  have e3 : (4 + k * 40 + 40).ble 244 = true := fits (by omega)
  rw [decide_eq_true (show (k : Int) < 6 by omega), cond_true, e1, e2, e3, wrap_id (n := (k : Int) + 1) (by omega) (by omega)]
  simp only [cond_true]
  by_cases hc : (k : Int) = f 0 ∧ 2 ≤ a ∧ a ≤ 7
  · rw [show ((k : Int) != f 0) = false by rw [hc.1]; exact bne_self_eq_false _, decide_eq_false (show ¬ a < 2 by omega), decide_eq_false (show ¬ a > 7 by omega)]
    rfl
  · have cell : ∀ i, i < 40 → othG f a b (4 + k * 40 + i) = f (4 + k * 40 + i) := by
      intro i hi
      rw [othG_in f a b (by omega), good_cell h a b (by omega)]
      refine wrG_head h (by omega) ?_
      by_cases h2 : a < 2
      · exact .inl h2
      · by_cases h7 : 7 < a
        · exact .inr (.inl h7)
        · refine .inr (.inr ?_)
          have h0 := ok_in h (j := 0) (m := 7) (by decide) rfl
          have : f 0 ≠ k := fun e => hc ⟨e.symm, by omega, by omega⟩
          omega
    simp (disch := decide) only [cell, beq_self_eq_true, Bool.and_true, Bool.not_true, cond_false, same2]
    cases ((k : Int) != f 0) <;> cases decide (a < 2) <;> cases decide (a > 7) <;> rfl
theorem psgOthers_calls (f : Nat → Int) (_ : ∀ i, i < 244 → IntKind.i64.has (f i)) (a : Int) (_ : IntKind.i64.has a) (b : Int) (_ : IntKind.i64.has b) (B : Base) (ρ : Rho) (w : World) (hr : Rel B ρ [] w) :
    Calls Try.prog 7 (reals ρ [.aggi .i64 244 f, .int .i64 a, .int .i64 b]).toArray w fun e w' => ∃ x, e = .returned x ∧ After B ρ [] asB true x w' := by
  cases h : okP f with
  | false =>
    refine evCallH_sound hN hM ((othBad_ev f a b).trans ?_) hr rfl
    rw [shift0, h]
    simp (disch := decide) only [bad_cell h, beq_self_eq_true, Bool.and_true, Bool.true_and, cond_true]
  | true =>
    have h1 := othTo_ev f a b
    rw [ok_shift, h, beq_self_eq_true, cond_true] at h1
    refine loop_call hN hM (by kernel_rfl) [1, 1, 1, 0, 1] h1 (fun B ρ0 x w hs => ?_) (fun rest => (othFrom_ev f (othG f a b) a b (6 : Nat) rest).trans ?_) hr rfl
    · rw [show ntOf Try.prog 7 [.aggi .i64 244 f, .int .i64 a, .int .i64 b] = 77 by kernel_rfl] at hs ⊢
      rw [oth_block]
      refine loop_unit (Γ := []) (n := 300) (H := []) (live := [1, 2, 3, 7, 8]) hN hM 6 (fun k => [.int .i64 a, .int .i64 b, .ptr 0 0, .ptr 1 0, .int .i64 (k : Nat)]) (fun _ => [.ints 32 .i64 244 f, .ints 32 .i64 244 (othG f a b)]) (fun k hk rest => ?_) (fun rest => ?_) hs
      · exact oth_body h a b k hk rest
      · exact (othBody_ev f (othG f a b) a b (6 : Nat) rest).trans rfl
    · have g0 : othG f a b 0 = wrG f a (b % 256) 0 := by rw [othG_in f a b (by decide), good_cell h a b (by decide)]
      have g1 : othG f a b 1 = wrG f a (b % 256) 1 := by rw [othG_in f a b (by decide), good_cell h a b (by decide)]
      have hok : okP (othG f a b) = true := by
        rw [ok_congr (g := wrG f a (b % 256)) (fun j hj => by rw [othG_in f a b hj, good_cell h a b hj])]
        exact wrG_okP h (by omega) (by omega)
      rw [ok_shift, hok, cond_true, g0, g1, and_m3]
      have last : cond (a == 1) (some true) (some (wrG f a (b % 256) 1 == f 1)) = some true := by
        by_cases h1 : a = 1
        · subst h1; rfl
        · rw [wrG_1 h h1, beq_self_eq_true, same2]
      rw [last]
      by_cases h0 : a = 0
      · subst h0
        rw [show wrG f 0 (b % 256) 0 = b % 256 % 8 from rfl, show b % 256 % 8 = b % 8 by omega]
        simp only [beq_self_eq_true, cond_true]
      · rw [beq_eq_false_iff_ne.2 h0]
        cases (wrG f a (b % 256) 0 == b % 8) <;> rfl
end Go.Proofs.Ytkhlghlmmnemeaa

namespace Go.Proofs.Ytkhlghlmmnemeaa
open Go Go.R
/-- a sample: what is heard, and the sound behind it -/
def sSample : Summ Try.prog := mkLocal 34 (fun args blk => match args, blk with | [.ptr 0 0], .ints 32 .i64 244 f => some (okP f, outV (goF f), .ints 32 .i64 244 (goF f)) | _, _ => none) (by
  intro args blk v blk' h; split at h
  · simp only [Option.some.injEq, Prod.mk.injEq] at h; obtain ⟨h1, rfl, rfl⟩ := h
    refine ⟨rfl, rfl, rfl, rfl, rfl, fun B ρ w hr => (sample_calls h1 B ρ w hr).mono ?_⟩
    rintro e w' ⟨x, rfl, u, σ', ρ', a1, a2, a3, a4, a5, a6⟩
    simp only [Option.some.injEq, Prod.mk.injEq] at a6
    obtain ⟨rfl, a6⟩ := a6
    refine ⟨x, rfl, _, σ', ρ', a1, a2, a3, a4, a5, ?_⟩
    cases σ' with
    | nil => simp at a6
    | cons y l => simp at a6; rw [a6]; rfl
  · cases h)
/-- so many samples on -/
def itF (f : Nat → Int) : Nat → Nat → Int
  | 0 => f
  | n + 1 => goF (itF f n)
theorem it_ok {f : Nat → Int} (h : okP f = true) : ∀ n, okP (itF f n) = true
  | 0 => h
  | n + 1 => go_ok (it_ok h n)
/-- what is heard, sample by sample, left and right in turn -/
def heard (f : Nat → Int) (j : Nat) : Int := sumF (itF f (j / 2 + 1)) (j % 2 == 0) 6
end Go.Proofs.Ytkhlghlmmnemeaa

namespace Go.Proofs.Ytkhlghlmmnemeaa
open Go Go.R
theorem sbBad1_ev (f : Nat → Int) (n : Int) : evCallH Try.prog [sValid] [(8, .bool false)] 300 23 [.aggi .i64 244 f, .int .i64 n] [] (fun v σ => some (v, σ.take 0)) =
  cond ((okP fun j => f (0 + j)) == false) (some (V.tup [V.nilsl, V.aggi Go.IntKind.i64 244 fun j => upd (fun j => 0) 0 244 (fun j => f (0 + j)) (0 + j)], [])) none := by kernel_rfl
theorem sbBad2_ev (f : Nat → Int) (n : Int) : evCallH Try.prog [sValid] [(8, .bool true), (17, .bool true)] 300 23 [.aggi .i64 244 f, .int .i64 n] [] (fun v σ => some (v, σ.take 0)) =
  cond ((okP fun j => f (0 + j)) == true) (cond (decide (n < 1)) (some (V.tup [V.nilsl, V.aggi Go.IntKind.i64 244 fun j => upd (fun j => 0) 0 244 (fun j => f (0 + j)) (0 + j)], [])) (cond (decide (n > 65536) == true) (some (V.tup [V.nilsl, V.aggi Go.IntKind.i64 244 fun j => upd (fun j => 0) 0 244 (fun j => f (0 + j)) (0 + j)], [])) none)) none := by kernel_rfl
theorem sbTo_ev (f : Nat → Int) (n : Int) : evTo Try.prog [sValid] 300 [(8, .bool true), (17, .bool false)] (ntOf Try.prog 23 [.aggi .i64 244 f, .int .i64 n]) [1, 1, 1, 0, 1] (bodyOf Try.prog 23) (envOf [.aggi .i64 244 f, .int .i64 n] 0) [] (Kt [2, 5, 6, 21, 22]) =
  cond ((okP fun j => f (0 + j)) == true) (cond (decide (n < 1)) none (cond (decide (n > 65536) == false) (cond (decide (0 ≤ wr Go.IntKind.i64 n) && decide (16 * wr Go.IntKind.i64 n ≤ 281474976710656)) (some (V.tup [V.ptr 0 0, V.ptr 1 0, V.sl 2 0 0 (wr Go.IntKind.i64 n).toNat, V.int Go.IntKind.i64 n, V.int Go.IntKind.i64 0], [Blk.ints 32 Go.IntKind.i64 244 f, Blk.ints 32 Go.IntKind.i64 244 fun j => 0, Blk.ints 49 Go.IntKind.i64 ((wr Go.IntKind.i64 n).toNat * 2) fun j => 0])) none) none)) none := by kernel_rfl
theorem sbF2_ev (g z a : Nat → Int) (n : Int) (N : Nat) (X : Nat → Blk) (rest : Env) : evFrom Try.prog [] 300 [] 31 [1, 1, 1, 0, 1] (bodyOf Try.prog 23) (zipE [2, 5, 6, 21, 22] [.ptr 0 0, .ptr 1 0, .sl 2 0 2 N, .int .i64 n, .int .i64 2] rest) ([.ints 32 .i64 244 g, .ints 32 .i64 244 z, .ints 49 .i64 (N * 2) a] ++ (List.range 2).map X) (leaveOf Try.prog 23 (fun v σ => some (v, (σ.drop 2).take 1))) =
  some (V.tup [V.sl 2 0 2 N, V.aggi Go.IntKind.i64 244 fun j => upd z 0 244 (fun j => g (0 + j)) (0 + j)], [Blk.ints 49 Go.IntKind.i64 (N * 2) a]) := by kernel_rfl
theorem sb2_ev (g z a : Nat → Int) (n : Int) (M S : Nat) (X : Nat → Blk) (rest : Env) : ev Try.prog [sSample] 300 [] 31 (sub [1, 1, 1, 0, 1, 0, 0] (bodyOf Try.prog 23)) (zipE [2, 5, 6, 21, 22] [.ptr 0 0, .ptr 1 0, .sl 2 0 2 (M + 3), .int .i64 n, .int .i64 2] rest) ([.ints 32 .i64 244 g, .ints 32 .i64 244 z, .ints 49 .i64 S a] ++ (List.range 2).map X) (Kl [2, 5, 6, 21, 22]) =
  cond (decide (2 < n)) (cond (okP g) (cond (Nat.ble 2 2 && Nat.ble 6 S) (some (V.tup [V.int Go.IntKind.i64 (-1), V.ptr 0 0, V.ptr 1 0, V.sl 2 0 3 (M + 3), V.int Go.IntKind.i64 n, V.int Go.IntKind.i64 3], [Blk.ints 32 Go.IntKind.i64 244 fun j => goF g j, Blk.ints 32 Go.IntKind.i64 244 z, Blk.ints 49 Go.IntKind.i64 S fun j => upd a 4 2 (fun j => toI ([V.int Go.IntKind.i64 (sumF (fun j => goF g j) true 6), V.int Go.IntKind.i64 (sumF (fun j => goF g j) false 6)].getD j V.nil)) j, X 0, X 1, Blk.cells 49 [V.int Go.IntKind.i64 (sumF (fun j => goF g j) true 6), V.int Go.IntKind.i64 (sumF (fun j => goF g j) false 6)]])) none) none) (some (V.tup [V.int Go.IntKind.i64 0, V.ptr 0 0, V.ptr 1 0, V.sl 2 0 2 (M + 3), V.int Go.IntKind.i64 n, V.int Go.IntKind.i64 2], [Blk.ints 32 Go.IntKind.i64 244 g, Blk.ints 32 Go.IntKind.i64 244 z, Blk.ints 49 Go.IntKind.i64 S a, X 0, X 1])) := by kernel_rfl
end Go.Proofs.Ytkhlghlmmnemeaa

namespace Go.Proofs.Ytkhlghlmmnemeaa
open Go Go.R
def tmpB (g : Nat → Int) : Blk := .cells 49 [.int .i64 (sumF g true 6), .int .i64 (sumF g false 6)]
def pairF (g : Nat → Int) : Nat → Int := fun j => toI ([V.int .i64 (sumF g true 6), V.int .i64 (sumF g false 6)].getD j V.nil)
abbrev sbL : List Nat := [2, 5, 6, 21, 22]
local notation "sbBody" => (sub [1, 1, 1, 0, 1, 0, 0] (bodyOf Try.prog 23))
def sbV (C j : Nat) (n : Int) : List V := [.ptr 0 0, .ptr 1 0, .sl 2 0 j C, .int .i64 n, .int .i64 (j : Nat)]
def sbS (g z a : Nat → Int) (S j : Nat) (X : Nat → Blk) : List Blk := [.ints 32 .i64 244 g, .ints 32 .i64 244 z, .ints 49 .i64 S a] ++ (List.range j).map X
def SbTurn (j : Nat) : Prop := ∀ (g z a : Nat → Int) (n : Int) (M S : Nat) (X : Nat → Blk) (rest : Env),
  ev Try.prog [sSample] 300 [] 31 sbBody (zipE sbL (sbV (M + (j + 1)) j n) rest) (sbS g z a S j X) (Kl sbL) =
    cond (decide (((j : Nat) : Int) < n)) (cond (okP g) (cond (Nat.ble (2 * j + 2) S) (some (.tup (exV .normal :: sbV (M + (j + 1)) (j + 1) n), [.ints 32 .i64 244 (goF g), .ints 32 .i64 244 z, .ints 49 .i64 S (upd a (2 * j) 2 (pairF (goF g)))] ++ ((List.range j).map X ++ [tmpB (goF g)]))) none) none)
      (some (.tup (exV (.exit 0) :: sbV (M + (j + 1)) j n), sbS g z a S j X))
def SbLast (j : Nat) : Prop := ∀ (g z a : Nat → Int) (C S : Nat) (X : Nat → Blk) (rest : Env),
  ev Try.prog [sSample] 300 [] 31 sbBody (zipE sbL (sbV C j (j : Nat)) rest) (sbS g z a S j X) (Kl sbL) = some (.tup (exV (.exit 0) :: sbV C j (j : Nat)), sbS g z a S j X)
def SbFrom (j : Nat) : Prop := ∀ (g z a : Nat → Int) (C S : Nat) (X : Nat → Blk) (rest : Env),
  evFrom Try.prog [] 300 [] 31 [1, 1, 1, 0, 1] (bodyOf Try.prog 23) (zipE sbL (sbV C j (j : Nat)) rest) (sbS g z a S j X) (leaveOf Try.prog 23 (fun v σ => some (v, (σ.drop 2).take 1))) =
    some (.tup [.sl 2 0 j C, .aggi .i64 244 (fun j => upd z 0 244 (fun j => g (0 + j)) (0 + j))], [.ints 49 .i64 S a])
end Go.Proofs.Ytkhlghlmmnemeaa

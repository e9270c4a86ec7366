import Derived.Test.YtecbemlfhmepfaaAluB
set_option linter.unusedVariables false
set_option linter.unusedSimpArgs false
namespace Go.Proofs.Ytecbemlfhmepfaa
open Go Go.R
theorem rbyte_ev (n : Int) : evCall Try.prog [sMod] 100 23 [.int .i64 n] [] (fun v _ => some v) =
  some (V.int Go.IntKind.i64 (n % 256)) := by kernel_rfl
theorem rword_ev (n : Int) : evCall Try.prog [sMod] 100 35 [.int .i64 n] [] (fun v _ => some v) =
  some (V.int Go.IntKind.i64 (n % 65536)) := by kernel_rfl
theorem test_ev (p m : Int) (on : Bool) : evCall Try.prog [sWith] 100 21 [.int .i64 p, .int .i64 m, .bool on] [] (fun v _ => some v) =
  cond (isByte (bitI BinOp.or Go.IntKind.i64 (bitI BinOp.andNot Go.IntKind.i64 p 192) (bitI BinOp.and Go.IntKind.i64 m 192)) && true) (some (V.int Go.IntKind.i64 (setF (bitI BinOp.or Go.IntKind.i64 (bitI BinOp.andNot Go.IntKind.i64 p 192) (bitI BinOp.and Go.IntKind.i64 m 192)) 2 on))) none := by kernel_rfl
theorem two_ev (p m : Int) : evCall Try.prog [sSet] 100 28 [.int .i64 p, .int .i64 m] [] (fun v _ => some v) =
  cond (isByte p && true) (cond (isByte (setF p 128 (decide (m ≥ 128))) && true) (some (V.int Go.IntKind.i64 (setF (setF p 128 (decide (m ≥ 128))) 64 ((wr Go.IntKind.i64 (m.tdiv 64)).tmod 2 == 1)))) none) none := by kernel_rfl
theorem sign_ev (p : Int) : evCall Try.prog [] 100 34 [.int .i64 p] [] (fun v _ => some v) =
  some (V.int Go.IntKind.i64 (wr Go.IntKind.i64 (p.tdiv 128))) := by kernel_rfl
theorem nz_ev (p b : Int) (B : Int) : evCallH Try.prog [sWith, sByte] [(6, .int .i64 B)] 100 13 [.int .i64 p, .int .i64 b] [] (fun v _ => some v) =
  cond (b % 256 == B) (cond (isByte (p % 256) && true) (cond (isByte (setF (p % 256) 128 (bitI BinOp.and Go.IntKind.i64 B 128 != 0)) && true) (some (V.int Go.IntKind.i64 (setF (setF (p % 256) 128 (bitI BinOp.and Go.IntKind.i64 B 128 != 0)) 2 (B == 0)))) none) none) none := by kernel_rfl
end Go.Proofs.Ytecbemlfhmepfaa

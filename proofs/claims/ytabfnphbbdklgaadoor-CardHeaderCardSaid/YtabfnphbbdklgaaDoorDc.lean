/-
  The function image, of 16384 bytes: its loop.
-/
import Derived.Test.YtabfnphbbdklgaaDoorDb
set_option linter.unusedVariables false
set_option linter.unusedSimpArgs false
namespace Go.Proofs.YtabfnphbbdklgaaDoor
open Go Go.R
def v0 (i : Int) : Int := wr .u8 ((wr .i64 (i * 7)).fdiv 8)
noncomputable def evIm (H : List (Nat × V)) (b : V) (k : Nat) (σ : List Blk) (i : Int) (rest : Env) : Option (V × List Blk) :=
  ev Tryd.prog [] 100 H 40 (Go.R.sub [1, 1, 0, 1, 0, 0] (bodyOf Tryd.prog 6)) (zipE [0, 1, 5, 6] [.int .i64 16384, b, .sl k 0 16384 16384, .int .i64 i] rest) σ (Kl [0, 1, 5, 6])
def turnC (i : Int) (x : Option (V × List Blk)) : Option (V × List Blk) := cond (decide (i < 16384) == true) (cond (inR i 16384) (cond (Nat.ble (0 + scaled i 1 + 1) 16384) x none) none) none
def finC (b : V) (k : Nat) (i : Int) (σ : List Blk) : Option (V × List Blk) := some (V.tup [V.int .i64 (-1), V.int .i64 16384, b, V.sl k 0 16384 16384, V.int .i64 (wr .i64 (i + 1))], σ)
theorem imTurn0_ev (g : Nat → Int) (i : Int) (rest : Env) : evIm [(11, .bool true)] .nilsl 0 [.ints 5 .u8 16384 g] i rest =
  turnC i (finC .nilsl 0 i [Blk.ints 5 .u8 16384 fun j => upd1 g (0 + scaled i 1) (v0 i) j]) := by kernel_rfl
theorem imOut0_ev (g : Nat → Int) (rest : Env) : evIm [] .nilsl 0 [.ints 5 .u8 16384 g] 16384 rest = some (V.tup [V.int .i64 0, V.int .i64 16384, V.nilsl, V.sl 0 0 16384 16384, V.int .i64 16384], [Blk.ints 5 .u8 16384 g]) := by kernel_rfl
theorem imTurnZ_ev (off cap hi : Nat) (f g : Nat → Int) (i : Int) (rest : Env) : evIm [(11, .bool true)] (.sl 0 off 0 cap) 1 [.ro .u8 off hi f, .ints 5 .u8 16384 g] i rest =
  turnC i (finC (.sl 0 off 0 cap) 1 i [.ro .u8 off hi f, Blk.ints 5 .u8 16384 fun j => upd1 g (0 + scaled i 1) (v0 i) j]) := by kernel_rfl
theorem imOut1_ev (off len cap hi : Nat) (f g : Nat → Int) (rest : Env) : evIm [] (.sl 0 off len cap) 1 [.ro .u8 off hi f, .ints 5 .u8 16384 g] 16384 rest = some (V.tup [V.int .i64 0, V.int .i64 16384, V.sl 0 off len cap, V.sl 1 0 16384 16384, V.int .i64 16384], [.ro .u8 off hi f, Blk.ints 5 .u8 16384 g]) := by kernel_rfl
def wrS (off len hi : Nat) (i : Int) (x : Option (V × List Blk)) : Option (V × List Blk) :=
  cond (decide ((len : Int) > 0) == true) (cond (inR i 16384) (cond (Nat.ble (0 + scaled i 1 + 1) 16384) (cond (!((len : Int) == 0)) (cond (inR (i.tmod (len : Int)) len) (cond (Nat.ble off (off + scaled (i.tmod (len : Int)) 1) && Nat.ble (off + scaled (i.tmod (len : Int)) 1 + 1) hi)
    (cond (inR i 16384) (cond (Nat.ble (0 + scaled i 1 + 1) 16384 && true) x none) none) none) none) none) none) none) none
theorem imTurn_ev (off len cap hi : Nat) (f g : Nat → Int) (i : Int) (rest : Env) : evIm [(11, .bool true), (23, .bool true)] (.sl 0 off len cap) 1 [.ro .u8 off hi f, .ints 5 .u8 16384 g] i rest =
  turnC i (wrS off len hi i (finC (.sl 0 off len cap) 1 i [.ro .u8 off hi f, Blk.ints 5 .u8 16384 fun j => upd1 (fun j => upd1 g (0 + scaled i 1) (v0 i) j) (0 + scaled i 1) (bitI .xor .u8 (upd1 g (0 + scaled i 1) (v0 i) (0 + scaled i 1)) (f (off + scaled (i.tmod (len : Int)) 1))) j])) := by kernel_rfl
theorem imTo_ev (off len cap hi : Nat) (f : Nat → Int) : evTo Tryd.prog [] 100 [] (ntOf Tryd.prog 6 [.int .i64 16384, .sl 0 off len cap]) [1, 1, 0, 1] (bodyOf Tryd.prog 6) (envOf [.int .i64 16384, .sl 0 off len cap] 0) [.ro .u8 off hi f] (Kt [0, 1, 5, 6]) =
  some (V.tup [V.int .i64 16384, V.sl 0 off len cap, V.sl 1 0 16384 16384, V.int .i64 0], [Blk.ro .u8 off hi f, Blk.ints 5 .u8 16384 fun j => 0]) := by kernel_rfl
theorem imTo0_ev : evTo Tryd.prog [] 100 [] (ntOf Tryd.prog 6 [.int .i64 16384, .nilsl]) [1, 1, 0, 1] (bodyOf Tryd.prog 6) (envOf [.int .i64 16384, .nilsl] 0) [] (Kt [0, 1, 5, 6]) =
  some (V.tup [V.int .i64 16384, V.nilsl, V.sl 0 0 16384 16384, V.int .i64 0], [Blk.ints 5 .u8 16384 fun j => 0]) := by kernel_rfl
theorem imFrom0_ev (g : Nat → Int) (rest : Env) : evFrom Tryd.prog [] 100 [] 40 [1, 1, 0, 1] (bodyOf Tryd.prog 6) (zipE [0, 1, 5, 6] [.int .i64 16384, .nilsl, .sl 0 0 16384 16384, .int .i64 16384] rest) [.ints 5 .u8 16384 g] (leaveOf Tryd.prog 6 newK) = some (V.sl 0 0 16384 16384, some (Blk.ints 5 .u8 16384 g)) := by kernel_rfl
theorem imFrom1_ev (off len cap hi : Nat) (f g : Nat → Int) (rest : Env) : evFrom Tryd.prog [] 100 [] 40 [1, 1, 0, 1] (bodyOf Tryd.prog 6) (zipE [0, 1, 5, 6] [.int .i64 16384, .sl 0 off len cap, .sl 1 0 16384 16384, .int .i64 16384] rest) [.ro .u8 off hi f, .ints 5 .u8 16384 g] (leaveOf Tryd.prog 6 newK) = some (V.sl 0 0 16384 16384, some (Blk.ints 5 .u8 16384 g)) := by kernel_rfl
theorem imNt (x y : V) : ntOf Tryd.prog 6 [x, y] = 40 := by kernel_rfl
theorem im_block : Go.R.sub [1, 1, 0, 1] (bodyOf Tryd.prog 6) = .block 0 (.loop (Go.R.sub [1, 1, 0, 1, 0, 0] (bodyOf Tryd.prog 6))) := by kernel_rfl
end Go.Proofs.YtabfnphbbdklgaaDoor

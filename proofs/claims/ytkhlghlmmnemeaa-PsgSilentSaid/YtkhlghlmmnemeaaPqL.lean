import Derived.Test.YtkhlghlmmnemeaaPqK
set_option linter.unusedVariables false
set_option linter.unusedSimpArgs false
namespace Go.Proofs.Ytkhlghlmmnemeaa
open Go Go.R
def tmpB (g : Nat → Int) : Blk := .cells 49 [.int .i64 (sumF g true 6), .int .i64 (sumF g false 6)]
def pairF (g : Nat → Int) : Nat → Int := fun j => toI ([V.int .i64 (sumF g true 6), V.int .i64 (sumF g false 6)].getD j V.nil)
abbrev sbL : List Nat := [2, 5, 6, 21, 22]
local notation "sbBody" => (sub [1, 1, 1, 0, 1, 0, 0] (bodyOf Try.prog 23))
def sbV (C j : Nat) (n : Int) : List V := [.ptr 0 0, .ptr 1 0, .sl 2 0 j C, .int .i64 n, .int .i64 (j : Nat)]
def sbS (g z a : Nat → Int) (S j : Nat) (X : Nat → Blk) : List Blk := [.ints 32 .i64 244 g, .ints 32 .i64 244 z, .ints 49 .i64 S a] ++ (List.range j).map X
def SbTurn (j : Nat) : Prop := ∀ (g z a : Nat → Int) (n : Int) (M S : Nat) (X : Nat → Blk) (rest : Env),
  ev Try.prog [sSample] 300 [] 31 sbBody (zipE sbL (sbV (M + (j + 1)) j n) rest) (sbS g z a S j X) (Kl sbL) =
    cond (decide (((j : Nat) : Int) < n)) (cond (okP g) (cond (Nat.ble (2 * j + 2) S) (some (.tup (exV .normal :: sbV (M + (j + 1)) (j + 1) n), [.ints 32 .i64 244 (goF g), .ints 32 .i64 244 z, .ints 49 .i64 S (upd a (2 * j) 2 (pairF (goF g)))] ++ ((List.range j).map X ++ [tmpB (goF g)]))) none) none)
      (some (.tup (exV (.exit 0) :: sbV (M + (j + 1)) j n), sbS g z a S j X))
def SbLast (j : Nat) : Prop := ∀ (g z a : Nat → Int) (C S : Nat) (X : Nat → Blk) (rest : Env),
  ev Try.prog [sSample] 300 [] 31 sbBody (zipE sbL (sbV C j (j : Nat)) rest) (sbS g z a S j X) (Kl sbL) = some (.tup (exV (.exit 0) :: sbV C j (j : Nat)), sbS g z a S j X)
def SbFrom (j : Nat) : Prop := ∀ (g z a : Nat → Int) (C S : Nat) (X : Nat → Blk) (rest : Env),
  evFrom Try.prog [] 300 [] 31 [1, 1, 1, 0, 1] (bodyOf Try.prog 23) (zipE sbL (sbV C j (j : Nat)) rest) (sbS g z a S j X) (leaveOf Try.prog 23 (fun v σ => some (v, (σ.drop 2).take 1))) =
    some (.tup [.sl 2 0 j C, .aggi .i64 244 (fun j => upd z 0 244 (fun j => g (0 + j)) (0 + j))], [.ints 49 .i64 S a])
end Go.Proofs.Ytkhlghlmmnemeaa

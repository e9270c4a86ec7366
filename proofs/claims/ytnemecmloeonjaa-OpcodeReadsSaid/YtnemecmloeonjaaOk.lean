/-
  The law OpcodeAll: one turn of its loop, for each length of what follows.
-/
import Derived.Test.YtnemecmloeonjaaOj
set_option linter.unusedVariables false
set_option linter.unusedSimpArgs false
namespace Go.Proofs.Ytnemecmloeonjaa
open Go Go.R
def HTA (b : Bool) : List (Nat × V) := hAll b 0 ++ [(88, .bool false), (95, .bool false)]
def HTB (b : Bool) (n : Int) : List (Nat × V) := hAll b n ++ [(64, .bool true), (69, .bool false), (80, .bool false), (85, .bool false)]
noncomputable def evTurn (Γ : List (Summ Try.prog)) (H : List (Nat × V)) (s0 : V) (σ : List Blk) (c i : Int) (rest : Env) : Option (V × List Blk) :=
  ev Try.prog Γ 300 H 101 (Go.R.sub [1, 1, 1, 0, 1, 0, 0] (bodyOf Try.prog 6)) (zipE [0, 3, 4] [s0, .int .i64 c, .int .i64 i] rest) σ (Kd [0, 3, 4] σ.length)
def headT {α : Type} (i : Int) (b : Bool) (x : Option α) (out : Option α) : Option α :=
  cond (decide (i < 256)) (cond (decide (ln (by8 i) < 1) == false) (cond (decide (ln (by8 i) > 7) == false) (cond (decide (cy (by8 i) < 2) == false) (cond (decide (cy (by8 i) > 17) == false) (cond (decide (((nm (by8 i)).size : Int) < 3) == false) (cond (decide (((nm (by8 i)).size : Int) > 4) == false)
    (cond (sEq (nm (by8 i)) (bs [78, 79, 80]) == b) x none) none) none) none) none) none) none) out
def finT (b : Bool) (s0 : V) (σ : List Blk) (c i : Int) : Option (V × List Blk) := some (.tup [.int .i64 (-1), s0, .int .i64 (bif b then wr .i64 (c + 1) else c), .int .i64 (wr .i64 (i + 1))], σ)
def outT (s0 : V) (σ : List Blk) (c i : Int) : Option (V × List Blk) := some (.tup [.int .i64 0, s0, .int .i64 c, .int .i64 i], σ)
def turnA (b allc : Bool) (L : Nat) (g : Nat → Int) (s0 : V) (σ : List Blk) (c i : Int) (wrapc : Option (V × List Blk) → Option (V × List Blk)) : Option (V × List Blk) :=
  headT i b (wrapc (cond (allB L g && allc) (cond (txN L g == 0) (cond ((!sEq (txS L g) (bs [])) == false) (cond (decide ((L : Int) ≥ ln (by8 i)) == false) (finT b s0 σ c i) none) none) none) none)) (outT s0 σ c i)
def turnB (b allc : Bool) (L : Nat) (g : Nat → Int) (s0 : V) (σ : List Blk) (c i : Int) (wrapc : Option (V × List Blk) → Option (V × List Blk)) : Option (V × List Blk) :=
  headT i b (wrapc (cond (allB L g && allc) (cond (txN L g == ln (by8 i)) (cond ((ln (by8 i) != 0) == true) (cond ((ln (by8 i) != ln (by8 i)) == false)
    (cond ((((txS L g).size : Int) != wr .i64 (((nm (by8 i)).size : Int) + wr .i64 (3 * wr .i64 (ln (by8 i) - 1)))) == false) (cond ((ln (by8 i) == 0) == false) (finT b s0 σ c i) none) none) none) none) none) none)) (outT s0 σ c i)
/-- the bytes: the first, and what follows -/
def gI (i : Int) (m : Nat) (f : Nat → Int) (off : Nat) : Nat → Int := fun j => upd (fun j => toI ([V.int .u8 (wr .u8 i)].getD j V.nil)) 1 m (fun j => f (off + j)) (0 + j)
def gL (i : Int) : Nat → Int := fun j => toI ([V.int .u8 (wr .u8 i)].getD j V.nil)
def rdW (off hi m : Nat) (x : Option (V × List Blk)) : Option (V × List Blk) := cond (Nat.ble off off && Nat.ble (off + m) hi && (Nat.ble 1 1 && true)) x none
theorem turnsA0 (off cap hi : Nat) (f : Nat → Int) (c i : Int) (rest : Env) : (List.range 20).map (fun m => evTurn [sText, sOf] (HTA false) (.sl 0 off (1 + m) cap) [.ro .u8 off hi f] c i rest) =
    (List.range 20).map (fun m => turnA false true (1 + (1 + m)) (gI i (1 + m) f off) (.sl 0 off (1 + m) cap) [.ro .u8 off hi f] c i (rdW off hi (1 + m))) := by kernel_rfl
theorem turnsA1 (off cap hi : Nat) (f : Nat → Int) (c i : Int) (rest : Env) : (List.range 20).map (fun m => evTurn [sText, sOf] (HTA true) (.sl 0 off (1 + m) cap) [.ro .u8 off hi f] c i rest) =
    (List.range 20).map (fun m => turnA true true (1 + (1 + m)) (gI i (1 + m) f off) (.sl 0 off (1 + m) cap) [.ro .u8 off hi f] c i (rdW off hi (1 + m))) := by kernel_rfl
theorem turnsB0 (off cap hi : Nat) (f : Nat → Int) (c i : Int) (rest : Env) : (List.range 20).map (fun m => evTurn [sText, sOf] (HTB false (ln (by8 i))) (.sl 0 off (1 + m) cap) [.ro .u8 off hi f] c i rest) =
    (List.range 20).map (fun m => turnB false true (1 + (1 + m)) (gI i (1 + m) f off) (.sl 0 off (1 + m) cap) [.ro .u8 off hi f] c i (rdW off hi (1 + m))) := by kernel_rfl
theorem turnsB1 (off cap hi : Nat) (f : Nat → Int) (c i : Int) (rest : Env) : (List.range 20).map (fun m => evTurn [sText, sOf] (HTB true (ln (by8 i))) (.sl 0 off (1 + m) cap) [.ro .u8 off hi f] c i rest) =
    (List.range 20).map (fun m => turnB true true (1 + (1 + m)) (gI i (1 + m) f off) (.sl 0 off (1 + m) cap) [.ro .u8 off hi f] c i (rdW off hi (1 + m))) := by kernel_rfl
def rdZ (off hi : Nat) (x : Option (V × List Blk)) : Option (V × List Blk) := cond (Nat.ble off off && Nat.ble (off + 0) hi && Nat.ble 1 1) x none
theorem turnZA0 (off cap hi : Nat) (f : Nat → Int) (c i : Int) (rest : Env) : evTurn [sTextL, sOf] (HTA false) (.sl 0 off 0 cap) [.ro .u8 off hi f] c i rest = turnA false true 1 (gL i) (.sl 0 off 0 cap) [.ro .u8 off hi f] c i (rdZ off hi) := by kernel_rfl
theorem turnZA1 (off cap hi : Nat) (f : Nat → Int) (c i : Int) (rest : Env) : evTurn [sTextL, sOf] (HTA true) (.sl 0 off 0 cap) [.ro .u8 off hi f] c i rest = turnA true true 1 (gL i) (.sl 0 off 0 cap) [.ro .u8 off hi f] c i (rdZ off hi) := by kernel_rfl
theorem turnZB0 (off cap hi : Nat) (f : Nat → Int) (c i : Int) (rest : Env) : evTurn [sTextL, sOf] (HTB false (ln (by8 i))) (.sl 0 off 0 cap) [.ro .u8 off hi f] c i rest = turnB false true 1 (gL i) (.sl 0 off 0 cap) [.ro .u8 off hi f] c i (rdZ off hi) := by kernel_rfl
theorem turnZB1 (off cap hi : Nat) (f : Nat → Int) (c i : Int) (rest : Env) : evTurn [sTextL, sOf] (HTB true (ln (by8 i))) (.sl 0 off 0 cap) [.ro .u8 off hi f] c i rest = turnB true true 1 (gL i) (.sl 0 off 0 cap) [.ro .u8 off hi f] c i (rdZ off hi) := by kernel_rfl
theorem turnNA0 (c i : Int) (rest : Env) : evTurn [sTextL, sOf] (HTA false) .nilsl [] c i rest = turnA false true 1 (gL i) .nilsl [] c i id := by kernel_rfl
theorem turnNA1 (c i : Int) (rest : Env) : evTurn [sTextL, sOf] (HTA true) .nilsl [] c i rest = turnA true true 1 (gL i) .nilsl [] c i id := by kernel_rfl
theorem turnNB0 (c i : Int) (rest : Env) : evTurn [sTextL, sOf] (HTB false (ln (by8 i))) .nilsl [] c i rest = turnB false true 1 (gL i) .nilsl [] c i id := by kernel_rfl
theorem turnNB1 (c i : Int) (rest : Env) : evTurn [sTextL, sOf] (HTB true (ln (by8 i))) .nilsl [] c i rest = turnB true true 1 (gL i) .nilsl [] c i id := by kernel_rfl
end Go.Proofs.Ytnemecmloeonjaa

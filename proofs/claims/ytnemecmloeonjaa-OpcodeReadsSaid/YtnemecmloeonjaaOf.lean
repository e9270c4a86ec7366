/-
  The texts of an instruction, by the program and by the reference: what their code comes to, for a name and a number of bytes.
-/
import Derived.Test.YtnemecmloeonjaaOe
import Derived.Test.YtnemecmloeonjaaQ
set_option linter.unusedVariables false
set_option linter.unusedSimpArgs false
namespace Go.Proofs.Ytnemecmloeonjaa
open Go Go.R
def hexD : ByteArray := bs [48, 49, 50, 51, 52, 53, 54, 55, 56, 57, 97, 98, 99, 100, 101, 102]
def hi4 (x : Int) : Int := byteAt hexD (x.fdiv 16).toNat
def lo4 (x : Int) : Int := byteAt hexD (bitI .and .u8 x 15).toNat
def e0 : Option V := some (.tup [.str (bs []), .int .i64 0])
/-- where the slice from 1 on begins -/
def o1 (off cap : Nat) : Nat := bif Nat.beq cap 1 then off else off + 1
/-- the name's bytes, and three for each byte behind the first -/
def gA (s : ByteArray) (n : Nat) (f : Nat → Int) (o : Nat) (j : Nat) : Int :=
  bif Nat.ble (j + 1) n then byteAt s j else
    bif Nat.beq ((j - n) % 3) 0 then 32 else
      bif Nat.beq ((j - n) % 3) 1 then hi4 (f (o + (j - n) / 3)) else lo4 (f (o + (j - n) / 3))
def chainA (off hi : Nat) (f : Nat → Int) (o : Nat) (fin : Option V) : Nat → Nat → Option V
  | 0, _ => fin
  | m + 1, i => cond (Nat.ble off (o + i) && Nat.ble (o + i + 1) hi) (cond (inR ((f (o + i)).fdiv 16) 16) (cond (inR (bitI .and .u8 (f (o + i)) 15) 16) (chainA off hi f o fin m (i + 1)) none) none) none
def HA (n : Nat) (l : Int) : List (Nat × V) := [(19, .int .i64 l), (26, .int .i64 l), (46, .int .i64 l), (22, .aggi .u8 n (fun _ => 0))]
def rowA (n l : Nat) (off len cap hi : Nat) (f : Nat → Int) : Option V :=
  cond ((len : Int) == 0) e0 (cond (inR 0 len) (cond (Nat.ble off (off + 0) && Nat.ble (off + 0 + 1) hi)
    (cond (ln (by8 (wr .i64 (f (off + 0)))) == (l : Int)) (cond (decide ((len : Int) < (l : Int))) e0 (cond (Nat.beq (nm (by8 (wr .i64 (f (off + 0))))).size n)
      (cond (ln (by8 (wr .i64 (f (off + 0)))) == (l : Int)) (cond (decide ((1 : Int) ≤ (l : Int)) && decide ((l : Int) ≤ (cap : Int)))
        (chainA off hi f (o1 off cap) (cond (ln (by8 (wr .i64 (f (off + 0)))) == (l : Int)) (some (.tup [.str (strOf (n + 3 * (l - 1)) (gA (strOf n (byteAt (nm (by8 (wr .i64 (f (off + 0))))))) n f (o1 off cap))), .int .i64 (l : Int)])) none) (l - 1) 0) none) none) none)) none) none) none)
noncomputable def evA (n l : Nat) (off len cap hi : Nat) (f : Nat → Int) : Option V := evCallH Try.prog [sOf] (HA n (l : Int)) 300 9 [.sl 0 off len cap] [.ro .u8 off hi f] (fun v _ => some v)
theorem evA31 (off len cap hi : Nat) (f : Nat → Int) : evA 3 1 off len cap hi f = rowA 3 1 off len cap hi f := by kernel_rfl
theorem evA32 (off len cap hi : Nat) (f : Nat → Int) : evA 3 2 off len cap hi f = rowA 3 2 off len cap hi f := by kernel_rfl
theorem evA33 (off len cap hi : Nat) (f : Nat → Int) : evA 3 3 off len cap hi f = rowA 3 3 off len cap hi f := by kernel_rfl
theorem evA34 (off len cap hi : Nat) (f : Nat → Int) : evA 3 4 off len cap hi f = rowA 3 4 off len cap hi f := by kernel_rfl
theorem evA37 (off len cap hi : Nat) (f : Nat → Int) : evA 3 7 off len cap hi f = rowA 3 7 off len cap hi f := by kernel_rfl
theorem evA42 (off len cap hi : Nat) (f : Nat → Int) : evA 4 2 off len cap hi f = rowA 4 2 off len cap hi f := by kernel_rfl
theorem evA43 (off len cap hi : Nat) (f : Nat → Int) : evA 4 3 off len cap hi f = rowA 4 3 off len cap hi f := by kernel_rfl
end Go.Proofs.Ytnemecmloeonjaa

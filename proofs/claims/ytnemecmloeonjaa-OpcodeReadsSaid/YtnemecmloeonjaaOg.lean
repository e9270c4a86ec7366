/-
  The reference's text of an instruction: what its code comes to, for a name and a number of bytes.
-/
import Derived.Test.YtnemecmloeonjaaOf
set_option linter.unusedVariables false
set_option linter.unusedSimpArgs false
namespace Go.Proofs.Ytnemecmloeonjaa
open Go Go.R
def dA (x : Int) : Int := wr .u8 (x.tdiv 16)
def dA1 (x : Int) : Int := wr .u8 (wr .u8 (x.tdiv 16) + 1)
def dB (x : Int) : Int := x.tmod 16
def dB1 (x : Int) : Int := wr .u8 (x.tmod 16 + 1)
def okS (a b : Int) : Bool := decide (0 ≤ a) && (decide (a ≤ b) && decide (b ≤ 16))
def sub (a b : Int) : ByteArray := hexD.extract a.toNat b.toNat
def one (s : ByteArray) : ByteArray := strOf 1 (byteAt s)
def rd (off len hi i : Nat) (x : Option V) : Option V := cond (inR (i : Int) len) (cond (Nat.ble off (off + i) && Nat.ble (off + i + 1) hi) x none) none
def chainB (off len hi : Nat) (f : Nat → Int) (c : Bool) (l : Int) : Nat → Nat → ByteArray → Option V
  | 0, _, s => cond c (cond c (some (.tup [.str s, .int .i64 l])) none) none
  | m + 1, i, s => cond c (rd off len hi i (rd off len hi i (cond (okS (dA (f (off + i))) (dA1 (f (off + i)))) (cond (Nat.beq (sub (dA (f (off + i))) (dA1 (f (off + i)))).size 1)
      (rd off len hi i (rd off len hi i (cond (okS (dB (f (off + i))) (dB1 (f (off + i)))) (cond (Nat.beq (sub (dB (f (off + i))) (dB1 (f (off + i)))).size 1)
        (chainB off len hi f c l m (i + 1) (catS (catS (catS s (bs [32])) (one (sub (dA (f (off + i))) (dA1 (f (off + i)))))) (one (sub (dB (f (off + i))) (dB1 (f (off + i)))))))
        none) none))) none) none))) none
def HB (n : Nat) (l : Int) : List (Nat × V) := [(18, .int .i64 l), (24, .int .i64 l), (58, .int .i64 l), (21, .aggi .u8 n (fun _ => 0)), (41, .aggi .u8 1 (fun _ => 0)), (54, .aggi .u8 1 (fun _ => 0))]
def rowB (n l : Nat) (off len hi : Nat) (f : Nat → Int) : Option V :=
  cond ((len : Int) == 0) e0 (cond (inR 0 len) (cond (Nat.ble off (off + 0) && Nat.ble (off + 0 + 1) hi)
    (cond (ln (by8 (wr .i64 (f (off + 0)))) == (l : Int)) (cond (decide ((len : Int) < (l : Int))) e0 (cond (Nat.beq (nm (by8 (wr .i64 (f (off + 0))))).size n)
      (chainB off len hi f (ln (by8 (wr .i64 (f (off + 0)))) == (l : Int)) (l : Int) (l - 1) 1 (strOf n (byteAt (nm (by8 (wr .i64 (f (off + 0))))))))
        none)) none) none) none)
noncomputable def evB (n l : Nat) (off len cap hi : Nat) (f : Nat → Int) : Option V := evCallH Try.prog [sROf] (HB n (l : Int)) 300 10 [.sl 0 off len cap] [.ro .u8 off hi f] (fun v _ => some v)
end Go.Proofs.Ytnemecmloeonjaa

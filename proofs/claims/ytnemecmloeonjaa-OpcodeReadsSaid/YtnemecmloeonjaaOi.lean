/-
  The law OpcodeTells: what it comes to is true.
-/
import Derived.Test.YtnemecmloeonjaaOh
set_option linter.unusedVariables false
set_option linter.unusedSimpArgs false
namespace Go.Proofs.Ytnemecmloeonjaa
open Go Go.R
def infoEq (n : Int) : Bool := sEq (nm (by8 n)) (nm (by8 n)) && (md (by8 n) == md (by8 n) && (ln (by8 n) == ln (by8 n) && (cy (by8 n) == cy (by8 n) && true)))
def tellsT (n : Int) (off len cap : Nat) (f : Nat → Int) (c : Nat) : Option Bool :=
  cond (allB len (fun j => f (off + j)) && (Nat.ble off off && (Nat.ble (off + len) (off + c) && Nat.ble len cap))) (cond (allB len (fun j => f (off + j)) && (Nat.ble off off && (Nat.ble (off + len) (off + c) && Nat.ble len cap)))
    (cond (infoEq n) (cond (sEq (txS len fun j => f (off + j)) (txS len fun j => f (off + j))) (cond (txN len (fun j => f (off + j)) == txN len fun j => f (off + j)) (some true) (some false)) (some false)) (some false)) none) none
theorem tells_ev (n : Int) (off len cap : Nat) (f : Nat → Int) : evCallH Try.prog [sText, sRText, sOf, sROf] [] 60 5 [.int .i64 n, .sl 0 off len cap] [.ro .u8 off (off + cap) f] asB =
    cond (decide ((len : Int) > 20)) (cond (decide ((0 : Int) ≤ 20) && decide ((20 : Int) ≤ (cap : Int))) (tellsT n off 20 (cap - 0) f cap) none) (tellsT n off len cap f cap) := by kernel_rfl
theorem tells_ev0 (n : Int) : evCallH Try.prog [sText, sRText, sOf, sROf] [] 60 5 [.int .i64 n, .nilsl] [] asB = cond (infoEq n) (some true) (some false) := by kernel_rfl
theorem sEq_same (x : ByteArray) : sEq x x = true := (sEq_iff x x).2 rfl
theorem infoEq_true (n : Int) : infoEq n = true := by unfold infoEq; rw [sEq_same]; simp
theorem tellsT_true {n : Int} {off len cap c : Nat} {f : Nat → Int} (hb : ∀ j, 0 ≤ f j ∧ f j < 256) (hl : len ≤ cap) (hc : len ≤ c) : tellsT n off len cap f c = some true := by
  unfold tellsT
  rw [(allB_iff len fun j => f (off + j)).2 (fun j _ => hb _), infoEq_true, sEq_same, Nat.ble_eq_true_of_le (Nat.le_refl off), Nat.ble_eq_true_of_le (show off + len ≤ off + c by omega), Nat.ble_eq_true_of_le hl]
  simp
theorem opcodeTells_nil (n : Int) (wn : IntKind.i64.has n) : evCallH Try.prog [sText, sRText, sOf, sROf] [] 60 5 [.int .i64 n, .nilsl] [] asB = some true := by
  rw [tells_ev0, infoEq_true]; rfl
theorem opcodeTells_sl (n : Int) (wn : IntKind.i64.has n) (off len cap : Nat) (f : Nat → Int) (hl : len ≤ cap) (hm : cap ≤ maxLen) (hb : ∀ j, 0 ≤ f j ∧ f j < 256) :
    evCallH Try.prog [sText, sRText, sOf, sROf] [] 60 5 [.int .i64 n, .sl 0 off len cap] [.ro .u8 off (off + cap) f] asB = some true := by
  rw [tells_ev]
  by_cases h : (len : Int) > 20
  · rw [decide_eq_true h, decide_eq_true (show (20 : Int) ≤ (cap : Int) by omega), tellsT_true hb (by omega) (by omega)]; rfl
  · rw [decide_eq_false h, tellsT_true hb hl hl]; rfl
end Go.Proofs.Ytnemecmloeonjaa

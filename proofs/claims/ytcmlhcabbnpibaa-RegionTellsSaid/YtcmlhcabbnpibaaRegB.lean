import Derived.Test.YtcmlhcabbnpibaaRegA
namespace Go.Proofs.Ytcmlhcabbnpibaa
open Go Go.R
/-- a device's kind, and its port -/
def portK (n : Int) : Int := if n / 1024 ≤ 5 then 2 + n / 1024 else 8
def portA (n : Int) : Int := if n / 1024 = 0 ∨ n / 1024 = 5 then n % 4 else if n / 1024 = 1 then n % 8 else if n / 1024 = 2 then n % 16 else if n / 1024 = 3 then n % 2 else 0
theorem port_eq {n : Int} (h0 : 0 ≤ n) (h1 : n < 8192) : evCall Try.prog [] 100 47 [.int .i64 n] [] (fun v _ => some v) = some (.agg [.int .i64 (portK n), .int .i64 0, .int .i64 (portA n)]) := by
  rw [port_ev]
  simp only [fdiv_pos n (show (0 : Int) ≤ 1024 by decide), and_m2, and_m3, and_m4, and_0b]
  rw [wrap_id (n := 2 + n / 1024) (by omega) (by omega)]
  unfold portK portA
  have hq : n / 1024 = 0 ∨ n / 1024 = 1 ∨ n / 1024 = 2 ∨ n / 1024 = 3 ∨ n / 1024 = 4 ∨ n / 1024 = 5 ∨ n / 1024 = 6 ∨ n / 1024 = 7 := by omega
  rcases hq with h | h | h | h | h | h | h | h <;> rw [h] <;> rfl
def sPort : Summ Try.prog := mkPure [] hN hM 47 100 (fun args => match args with | [.int .i64 n] => some (decide (0 ≤ n) && decide (n < 8192), .agg [.int .i64 (portK n), .int .i64 0, .int .i64 (portA n)]) | _ => none) (by
  intro args v h
  split at h
  · rename_i n
    simp only [Option.some.injEq, Prod.mk.injEq, Bool.and_eq_true, decide_eq_true_eq] at h
    obtain ⟨hc, rfl⟩ := h
    exact ⟨rfl, rfl, [], port_eq hc.1 hc.2⟩
  · cases h)
end Go.Proofs.Ytcmlhcabbnpibaa

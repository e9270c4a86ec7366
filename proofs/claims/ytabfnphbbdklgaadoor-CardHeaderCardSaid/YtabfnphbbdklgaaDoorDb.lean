/-
  A function of a number and of a slice of bytes that it only reads, which hands out a block that it made.
-/
import Derived.Test.YtabfnphbbdklgaaDoorDa
set_option linter.unusedVariables false
set_option linter.unusedSimpArgs false
namespace Go.R
open Go Go.RowKit
section
variable {P : Program}
theorem new_tail {B : Base} {ρ ρ0 : Rho} {σ σ0 : List Blk} {w w' : World} {v : V} {blk : Blk} {x : Value} (hr : Rel B ρ σ w) (grw : blk.rw = true) (gsc : blk.sc 0 = true) (h : After ⟨w, noS⟩ ρ0 σ0 newK (v, some blk) x w') :
    ∃ ρ', (∀ i, i < σ.length → ρ' i = ρ i) ∧ x = (v.mv (fun _ => σ.length)).real ρ' ∧ Rel B ρ' (σ ++ [blk]) w' := by
  obtain ⟨u, σ1, ρ1, rfl, _, _, hr1, hu, hk⟩ := h
  unfold newK at hk
  split at hk
  · rename_i b hb
    cases ho : u.only b with
    | false => rw [ho] at hk; cases hk
    | true =>
      rw [ho, cond_true] at hk
      cases hbk : σ1[b]? with
      | none => rw [hbk] at hk; cases hk
      | some y =>
      rw [hbk] at hk
      simp only [Option.some.injEq, Prod.mk.injEq] at hk
      obtain ⟨rfl, hy⟩ := hk
      subst hy
      have hlive : y.live = true := by cases y <;> simp_all [Blk.rw, Blk.live]
      have hnew : w.heap.size ≤ (ρ1 b).1 := by
        rcases hr1.wr b y hbk grw with hh | hh
        · exact hh.elim
        · exact hh
      refine ⟨fun i => if i = σ.length then ρ1 b else ρ i, fun i hi => if_neg (by omega), ?_, ?_⟩
      · rw [V.mv_real, V.mv_real]
        simp only [if_true]
        rw [V.only_real ρ1 u ho]
      · refine (hr.frame hr1.keeps).extend gsc (Nat.le_trans hr.keeps.size hnew) (hr1.lt b y hbk hlive) (fun i bi hi hl he => ?_) ?_
        · have := hr.lt i bi hi hl
          rw [he] at this; omega
        · exact (hr1.at_ b y hbk).move gsc rfl
  · cases hc : u.sc 0 with
    | false => rw [hc] at hk; cases hk
    | true => rw [hc, cond_true] at hk; simp at hk
def mkBytesNew (k : FuncId) (G : Int → Nat → (Nat → Int) → Option (Bool × V × Blk))
    (hnil : ∀ n v blk, G n 0 (fun _ => 0) = some (true, v, blk) → blk.rw = true ∧ blk.sc 0 = true ∧ v.sc 1 = true ∧
      ∀ (B : Base) (ρ : Rho) (w : World), Rel B ρ [] w → Calls P k (reals ρ [.int .i64 n, .nilsl]).toArray w fun e w' => ∃ x, e = .returned x ∧ After B ρ [] newK (v, some blk) x w')
    (hsl : ∀ n off len cap hi f v blk, G n len (fun j => f (off + j)) = some (true, v, blk) → len ≤ cap → off + len ≤ hi → blk.rw = true ∧ blk.sc 0 = true ∧ v.sc 1 = true ∧
      ∀ (B : Base) (ρ : Rho) (w : World), Rel B ρ [.ro .u8 off hi f] w → Calls P k (reals ρ [.int .i64 n, .sl 0 off len cap]).toArray w fun e w' => ∃ x, e = .returned x ∧ After B ρ [.ro .u8 off hi f] newK (v, some blk) x w') : Summ P where
  k := k
  pure := false
  f := fun args σ =>
    match args with
    | [.int .i64 n, .nilsl] => (match G n 0 (fun _ => 0) with | some (ok, v, blk) => some (ok, v.mv (fun _ => σ.length), σ ++ [blk]) | none => none)
    | [.int .i64 n, .sl b off len cap] =>
      (match σ[b]? with
      | some (.ro .u8 lo hi f) => (match G n len (fun j => f (off + j)) with | some (ok, v, blk) => some (ok && (Nat.ble lo off && (Nat.ble (off + len) hi && Nat.ble len cap)), v.mv (fun _ => σ.length), σ ++ [blk]) | none => none)
      | _ => none)
    | _ => none
  touch := fun _ => []
  keep := by
    intro args σ v σ' hf b hb _
    split at hf <;> (repeat' split at hf) <;> first | (simp only [Option.some.injEq, Prod.mk.injEq] at hf; obtain ⟨_, _, rfl⟩ := hf; rw [List.getElem?_append_left hb]) | cases hf
  ok := by
    intro args σ v σ' hf hs
    split at hf
    · rename_i n
      split at hf
      · rename_i ok u blk hG
        simp only [Option.some.injEq, Prod.mk.injEq] at hf
        obtain ⟨rfl, rfl, rfl⟩ := hf
        obtain ⟨h1, h2, h3, h4⟩ := hnil _ _ _ hG
        refine ⟨by simp, V.mv_sc (fun i _ => by simp) u h3, fun hp => (by cases hp), fun B ρ w hr _ => ?_⟩
        refine (h4 ⟨w, noS⟩ ρ w (Rel.empty ρ w noS)).mono ?_
        rintro e w' ⟨x, rfl, hx⟩
        obtain ⟨ρ', q1, rfl, q3⟩ := new_tail hr h1 h2 hx
        exact ⟨ρ', q1, rfl, q3⟩
      · cases hf
    · rename_i n b off len cap
      split at hf
      · rename_i lo hi f hb
        split at hf
        · rename_i ok u blk hG
          simp only [Option.some.injEq, Prod.mk.injEq, Bool.and_eq_true, Nat.ble_eq] at hf
          obtain ⟨⟨rfl, g1, g2, g3⟩, rfl, rfl⟩ := hf
          obtain ⟨h1, h2, h3, h4⟩ := hsl n off len cap hi f _ _ hG g3 g2
          refine ⟨by simp, V.mv_sc (fun i _ => by simp) u h3, fun hp => (by cases hp), fun B ρ w hr _ => ?_⟩
          have hv : Rel ⟨w, noS⟩ (fun _ => ρ b) [.ro .u8 off hi f] w := hr.view hb rfl (by
            obtain ⟨c, e, fr, q1, q2⟩ := hr.at_ b _ hb
            exact ⟨c, e, fr, q1, fun j hj1 hj2 => q2 j (by omega) hj2⟩)
          have := h4 _ _ _ hv
          rw [show reals (fun _ => ρ b) [V.int .i64 n, V.sl 0 off len cap] = reals ρ [V.int .i64 n, V.sl b off len cap] from rfl] at this
          refine this.mono ?_
          rintro e w' ⟨x, rfl, hx⟩
          obtain ⟨ρ', q1, rfl, q3⟩ := new_tail hr h1 h2 hx
          exact ⟨ρ', q1, rfl, q3⟩
        · cases hf
      · cases hf
    · cases hf
end
end Go.R

import Derived.Test.YtkhlghlmmnemeaaPsQ
import Derived.Test.YtkhlghlmmnemeaaPsR
set_option linter.unusedVariables false
set_option linter.unusedSimpArgs false
namespace Go.Proofs.Ytkhlghlmmnemeaa
open Go Go.R
/-! ### what a write leaves alone, and that it leaves a sound -/
theorem wrC_out {f : Nat → Int} {o : Nat} (hv : 0 ≤ f (o + 36) ∧ f (o + 36) ≤ 31) (at_ B : Int) (nz : Bool) {j : Nat} (hj : ¬ (o ≤ j ∧ j < o + 40)) : wrC f o at_ B nz j = f j := by
  unfold wrC
  split
  · exact upd1_self _ _ _ (by omega)
  · split
    · exact upd1_self _ _ _ (by omega)
    · split
      · split
        · rw [upd1_self _ _ _ (by omega), upd1_self _ _ _ (by omega)]
        · exact upd1_self _ _ _ (by omega)
      · split
        · exact upd1_self _ _ _ (by omega)
        · split
          · split
            · exact upd1_self _ _ _ (by omega)
            · rw [upd1_self _ _ _ (by omega), upd1_self _ _ _ (by omega)]
          · split
            · split
              · exact upd1_self _ _ _ (by omega)
              · rfl
            · rfl
theorem wrC_other {f : Nat → Int} {o : Nat} {at_ B : Int} {nz : Bool} (ha : at_ < 2 ∨ 7 < at_) : wrC f o at_ B nz = f := by
  unfold wrC
  rw [if_neg (by omega), if_neg (by omega), if_neg (by omega), if_neg (by omega), if_neg (by omega), if_neg (by omega)]
theorem wrG_head {f : Nat → Int} {at_ B : Int} (h : okP f = true) {j : Nat} (hj : 4 ≤ j) (hc : at_ < 2 ∨ 7 < at_ ∨ ¬ (4 + (f 0).toNat * 40 ≤ j ∧ j < 4 + (f 0).toNat * 40 + 40)) : wrG f at_ B j = f j := by
  unfold wrG
  split
  · exact upd1_self _ _ _ (by omega)
  · split
    · exact upd1_self _ _ _ (by omega)
    · split
      · exact upd1_self _ _ _ (by omega)
      · split
        · exact upd1_self _ _ _ (by omega)
        · split
          · rename_i h6
            rcases sel_cases h with ⟨_, k, hk, hf, hs, ht⟩ | h6'
            · obtain ⟨g1, g2, g3⟩ := ch_bounds h hk
              rw [ht] at hc ⊢
              rcases hc with hc | hc | hc
              · rw [wrC_other (.inl hc)]
              · rw [wrC_other (.inr hc)]
              · exact wrC_out g3 _ _ _ hc
            · exact absurd h6 h6'
          · rfl
theorem wrG_1 {f : Nat → Int} {at_ B : Int} (h : okP f = true) (ha : at_ ≠ 1) : wrG f at_ B 1 = f 1 := by
  unfold wrG
  split
  · exact upd1_self _ _ _ (by omega)
  · split
    · exact upd1_self _ _ _ (by omega)
    · split
      · exact upd1_self _ _ _ (by omega)
      · split
        · rename_i h6
          rcases sel_cases h with ⟨_, k, hk, hf, hs, ht⟩ | h6'
          · obtain ⟨g1, g2, g3⟩ := ch_bounds h hk
            rw [ht]
            exact wrC_out g3 _ _ _ (by omega)
          · exact absurd h6 h6'
        · rfl
/-- what is asked of a cell -/
def bnd (i : Nat) : List Int := (codesP.filter (fun p => p.1 == i)).map (·.2)
theorem ok_upd {f : Nat → Int} (h : okP f = true) {i : Nat} {x m : Int} (hb : bnd i = [m]) (hm : (m == -1) = false) (h0 : 0 ≤ x) (h1 : x ≤ m) : okP (upd1 f i x) = true := by
  unfold okP
  rw [List.all_eq_true]
  intro p hp
  have hf := List.all_eq_true.1 h p hp
  by_cases e : p.1 = i
  · have hmem : p.2 ∈ bnd i := List.mem_map.2 ⟨p, List.mem_filter.2 ⟨hp, by simpa using e⟩, rfl⟩
    rw [hb, List.mem_singleton] at hmem
    unfold chk
    rw [e, hmem, if_neg (by simpa using hm), upd1_at]
    unfold inB
    rw [decide_eq_false (show ¬ x < 0 by omega), decide_eq_false (show ¬ x > m by omega)]; rfl
  · unfold chk at hf ⊢
    rw [upd1_self _ _ _ e]; exact hf
theorem bnd_top : bnd 0 = [7] ∧ bnd 1 = [255] ∧ bnd 2 = [255] ∧ bnd 3 = [255] := by decide +kernel
theorem bnd_ch : ∀ k : Fin 6, bnd (4 + k.val * 40) = [4095] ∧ bnd (4 + k.val * 40 + 1) = [255] ∧ bnd (4 + k.val * 40 + 2) = [255] ∧ bnd (4 + k.val * 40 + 3) = [255] ∧ bnd (4 + k.val * 40 + 36) = [31] ∧ bnd (4 + k.val * 40 + 39) = [31] := by decide +kernel
theorem bnd_wave : ∀ (k : Fin 6) (v : Fin 32), bnd (4 + k.val * 40 + 4 + v.val) = [31] := by decide +kernel
theorem wrG_okP {f : Nat → Int} (h : okP f = true) {at_ B : Int} (b0 : 0 ≤ B) (b1 : B < 256) : okP (wrG f at_ B) = true := by
  unfold wrG
  split
  · exact ok_upd h bnd_top.1 rfl (by omega) (by omega)
  · split
    · exact ok_upd h bnd_top.2.1 rfl (by omega) (by omega)
    · split
      · exact ok_upd h bnd_top.2.2.1 rfl (by omega) (by omega)
      · split
        · exact ok_upd h bnd_top.2.2.2 rfl (by omega) (by omega)
        · split
          · rename_i h6
            rcases sel_cases h with ⟨_, k, hk, hf, hs, ht⟩ | h6'
            · obtain ⟨g1, g2, g3⟩ := ch_bounds h hk
              obtain ⟨c0, c1, c2, c3, c36, c39⟩ := bnd_ch ⟨k, hk⟩
              rw [ht]
              unfold wrC
              split
              · exact ok_upd h c0 rfl (by omega) (by omega)
              · split
                · exact ok_upd h c0 rfl (by omega) (by omega)
                · split
                  · split
                    · exact ok_upd (ok_upd h c1 rfl (by omega) (by omega)) c36 rfl (by omega) (by omega)
                    · exact ok_upd h c1 rfl (by omega) (by omega)
                  · split
                    · exact ok_upd h c2 rfl (by omega) (by omega)
                    · split
                      · split
                        · exact ok_upd h c39 rfl (by omega) (by omega)
                        · exact ok_upd (ok_upd h (bnd_wave ⟨k, hk⟩ ⟨(f (4 + k * 40 + 36)).toNat, by omega⟩) rfl (by omega) (by omega)) c36 rfl (by omega) (by omega)
                      · split
                        · split
                          · exact ok_upd h c3 rfl (by omega) (by omega)
                          · exact h
                        · exact h
            · exact absurd h6 h6'
          · exact h
end Go.Proofs.Ytkhlghlmmnemeaa

/-
  A part of a loop that leaves memory behind; and the text of a slice of bytes wherever it lies.
-/
import Derived.Test.YtnemecmloeonjaaOi
set_option linter.unusedVariables false
set_option linter.unusedSimpArgs false
namespace Go.R
open Go Go.RowKit
section
variable {P : Program} {Γ : List (Summ P)} {H : List (Nat × V)} {n nt : Nat} {B : Base} {ρ0 : Rho} {n0 : Nat} {live live' : List Nat} {vs vs' : List V} {σ σ' : List Blk}
/-- what some slots hold, how the code ended, and the first blocks -/
def Kd (live : List Nat) (k : Nat) : Ex → Env → List Blk → Option (V × List Blk) := fun e env σ => some (.tup (exV e :: live.map env.get), σ.take k)
theorem chunk_d (hN : NamesOK P) (hM : P.follows .mixedOrders = true) {code : Code} {x : Ex} (h : ∀ rest, ev P Γ n H nt code (zipE live vs rest) σ (Kd live' σ'.length) = some (.tup (exV x :: vs'), σ'))
    (hv : scs σ'.length vs' = true) (hb : (σ'.all fun b => b.sc σ'.length) = true) (hn : n0 ≤ σ'.length) {a : Act} {w : World} (hs : St B ρ0 n0 nt live vs σ a w) :
    code.wp P (fun e a' w' => ExM x e ∧ St B ρ0 n0 nt live' vs' σ' a' w') a w := by
  obtain ⟨ρ, env, h1, h2, h3, h4, h5⟩ := hs
  have he := h4.of_get (zipE_get live vs env h5)
  refine wp_mono (ev_sound hN hM n H nt code _ σ _ _ (h env) B ρ a w h3 he) ?_
  rintro e a' w' ⟨y, hy, env', σ2, ρ', g1, g2, g3, g4, g5⟩
  simp only [Kd, Option.some.injEq, Prod.mk.injEq, V.tup.injEq, List.cons.injEq] at g5
  obtain ⟨⟨g6, g7⟩, g8⟩ := g5
  have := exV_inj g6
  subst this
  have h0 : St B ρ0 n0 nt live' vs' σ2 a' w' := ⟨ρ', env', fun i hi => by rw [g2 i (Nat.lt_of_lt_of_le hi h2), h1 i hi], Nat.le_trans h2 g1, g3, g4, g7⟩
  refine ⟨hy, ?_⟩
  rw [show σ2 = σ' ++ σ2.drop σ'.length by conv => lhs; rw [← List.take_append_drop σ'.length σ2, g8]] at h0
  exact h0.forget hv hb hn
theorem chunk_dn (hN : NamesOK P) (hM : P.follows .mixedOrders = true) {code : Code} (h : ∀ rest, ev P Γ n H nt code (zipE live vs rest) σ (Kd live' σ'.length) = some (.tup (exV .normal :: vs'), σ'))
    (hv : scs σ'.length vs' = true) (hb : (σ'.all fun b => b.sc σ'.length) = true) (hn : n0 ≤ σ'.length) {a : Act} {w : World} (hs : St B ρ0 n0 nt live vs σ a w) :
    code.wp P (fun e a' w' => e = .normal ∧ St B ρ0 n0 nt live' vs' σ' a' w') a w := by
  refine wp_mono (chunk_d hN hM h hv hb hn hs) ?_
  rintro e a' w' ⟨he, hs'⟩
  cases e <;> simp only [ExM] at he
  exact ⟨rfl, hs'⟩
theorem chunk_dx (hN : NamesOK P) (hM : P.follows .mixedOrders = true) {code : Code} {id : Nat} (h : ∀ rest, ev P Γ n H nt code (zipE live vs rest) σ (Kd live' σ'.length) = some (.tup (exV (.exit id) :: vs'), σ'))
    (hv : scs σ'.length vs' = true) (hb : (σ'.all fun b => b.sc σ'.length) = true) (hn : n0 ≤ σ'.length) {a : Act} {w : World} (hs : St B ρ0 n0 nt live vs σ a w) :
    code.wp P (fun e a' w' => e ≠ .normal ∧ Exit.inBlock id (fun e a' w' => e = .normal ∧ St B ρ0 n0 nt live' vs' σ' a' w') e a' w') a w := by
  refine wp_mono (chunk_d hN hM h hv hb hn hs) ?_
  rintro e a' w' ⟨he, hs'⟩
  cases e <;> simp only [ExM] at he
  subst he
  simp only [Exit.inBlock, if_true]
  exact ⟨by simp, by first | rfl | trivial, hs'⟩
/-- a function of a slice of bytes, that only reads it: of a slice whose length is known, wherever it lies -/
def mkBytesL (k : FuncId) (G : Nat → (Nat → Int) → Option (Bool × V))
    (hsl : ∀ off len cap hi f v, G len (fun j => f (off + j)) = some (true, v) → len ≤ cap → off + len ≤ hi → v.sc 0 = true ∧
      ∀ (B : Base) (ρ : Rho) (w : World), Rel B ρ [.ro .u8 off hi f] w → Calls P k (reals ρ [.sl 0 off len cap]).toArray w fun e w' => ∃ x, e = .returned x ∧ After B ρ [.ro .u8 off hi f] (fun v _ => some v) v x w') : Summ P where
  k := k
  pure := true
  f := fun args σ =>
    match args with
    | [.sl b off len cap] =>
      (match σ[b]? with
      | some blk =>
        (match loadAgg len off blk with
        | some (ok, v) =>
          (match intsOf .u8 v with
          | some g => (match G len g with | some (ok', u) => some (ok' && (ok && (Nat.ble len cap && (Nat.ble 1 len && blk.live))), u, σ) | none => none)
          | none => none)
        | none => none)
      | none => none)
    | _ => none
  touch := fun _ => []
  keep := by
    intro args σ v σ' hf b _ _
    split at hf <;> (repeat' split at hf) <;> first | (simp only [Option.some.injEq, Prod.mk.injEq] at hf; obtain ⟨_, _, rfl⟩ := hf; rfl) | cases hf
  ok := by
    intro args σ v σ' hf hs
    split at hf
    · rename_i b off len cap
      split at hf
      · rename_i blk hb
        split at hf
        · rename_i ok v0 hl
          split at hf
          · rename_i g hg
            split at hf
            · rename_i ok' u hG
              simp only [Option.some.injEq, Prod.mk.injEq, Bool.and_eq_true, Nat.ble_eq] at hf
              obtain ⟨⟨rfl, rfl, g1, g2, g3⟩, rfl, rfl⟩ := hf
              have hgf : (fun j => (fun i => g (i - off)) (off + j)) = g := by funext j; simp
              obtain ⟨h1, h2⟩ := hsl off len cap (off + len) (fun i => g (i - off)) u (by rw [hgf]; exact hG) g1 (Nat.le_refl _)
              refine ⟨Nat.le_refl _, V.sc_mono (Nat.zero_le _) _ h1, fun _ => rfl, fun B ρ w hr _ => ?_⟩
              have hv : Rel ⟨w, noS⟩ (fun _ => ρ b) [.ro .u8 off (off + len) (fun i => g (i - off))] w := hr.view hb g3 (by
                have hat := hr.at_ b blk hb
                obtain ⟨vs, q1, q2, q3⟩ := loadAgg_spec hl ρ
                have hc := intsOf_spec hg
                have hsz : v0.size = len := by
                  have h1 : (v0.real ρ).cells.size = v0.size := by rw [V.cellsL_real, List.size_toArray, reals_eq, List.length_map, V.size_eq]
                  rw [q2] at h1
                  simpa [Value.cells] using h1.symm
                have hcells : ∀ j, j < len → (vs j).real ρ = Value.int .u8 (g j) := by
                  have h1 : (v0.real ρ).cells = (reals ρ v0.cellsL).toArray := V.cellsL_real ρ v0
                  rw [q2, hc, hsz] at h1
                  have h2 := congrArg Array.toList h1
                  simp only [Value.cells, reals_eq, List.map_map] at h2
                  intro j hj
                  have := List.map_inj_left.1 h2 j (List.mem_range.2 hj)
                  simpa [V.real] using this
                have hcell : ∀ j, j < len → w.cell? ⟨(ρ b).1, off + j, none⟩ = some (.int .u8 (g j)) := fun j hj => by rw [Blk.cell hat (q1 j hj), hcells j hj]
                have h0 := hcell 0 (by omega)
                unfold World.cell? at h0
                split at h0
                · rename_i c e fr hh
                  refine ⟨c, e, fr, hh, fun j hj1 hj2 => ?_⟩
                  have := hcell (j - off) (by omega)
                  unfold World.cell? at this
                  simp only at hh
                  simp only [hh] at this
                  rw [show off + (j - off) = j by omega] at this
                  simpa using this
                · cases h0)
              have := h2 _ _ _ hv
              rw [show reals (fun _ => ρ b) [V.sl 0 off len cap] = reals ρ [V.sl b off len cap] from rfl] at this
              refine this.mono ?_
              rintro e w' ⟨x, rfl, y, σ1, ρ1, rfl, _, _, hr1, hy, hk⟩
              simp only [Option.some.injEq] at hk
              subst hk
              exact ⟨ρ, fun _ _ => rfl, by rw [V.real_ext (n := 0) (ρ := ρ) (fun i hi => by omega) y h1], hr.frame hr1.keeps⟩
            · cases hf
          · cases hf
        · cases hf
      · cases hf
    · cases hf
end
end Go.R
namespace Go.Proofs.Ytnemecmloeonjaa
open Go Go.R
def sTextL : Summ Try.prog := mkBytesL 9 (fun len g => some (allB len g, textV len g)) (by
    intro off len cap hi f v h hlen hhi
    simp only [Option.some.injEq, Prod.mk.injEq] at h
    obtain ⟨h1, rfl⟩ := h
    refine ⟨rfl, fun B ρ w hr => ?_⟩
    obtain ⟨n, l, he⟩ := evA_val hlen hhi ((allB_iff _ _).1 h1)
    exact evCallH_sound hN hM he hr rfl)
def hAll (b : Bool) (n : Int) : List (Nat × V) := [(21, .bool false), (25, .bool false), (30, .bool false), (35, .bool false), (41, .bool false), (47, .bool false), (51, .bool b), (62, .int .i64 n)]
end Go.Proofs.Ytnemecmloeonjaa

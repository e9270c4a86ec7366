/-
  Slices of bytes: a function that only reads one, and one among a law's arguments.
-/
import Derived.Test.YtabfnphbbdklgaaDoorO
import Derived.ChangeSlices
set_option linter.unusedVariables false
set_option linter.unusedSimpArgs false
namespace Go.R
open Go Go.RowKit Go.ChangeShapes Go.WideShapes Go.ChangeAt

section
variable {P : Program}

/-- one block that is only read, seen from a callee -/
theorem Rel.view {B : Base} {ρ : Rho} {σ : List Blk} {w : World} (h : Rel B ρ σ w) {b : Nat} {blk : Blk} (hb : σ[b]? = some blk) (hl : blk.live = true) {k : IntKind} {lo hi : Nat} {f : Nat → Int}
    (hat : Blk.At (fun _ => ρ b) 0 w (.ro k lo hi f)) : Rel ⟨w, noS⟩ (fun _ => ρ b) [.ro k lo hi f] w := by
  have one : ∀ (i : Nat) (x : Blk), [Blk.ro k lo hi f][i]? = some x → i = 0 ∧ x = .ro k lo hi f := by
    intro i x hx
    cases i with
    | zero => simp at hx; exact ⟨rfl, hx.symm⟩
    | succ i => simp at hx
  refine ⟨fun i x hx => ?_, fun i x hx _ => h.lt b blk hb hl, fun i j bi bj hi hj _ _ _ _ => ?_, fun i x hx => ?_, fun i x hx hr => ?_, Keeps.refl _ _⟩
  · obtain ⟨rfl, rfl⟩ := one i x hx; exact hat
  · rw [(one i bi hi).1, (one j bj hj).1]
  · obtain ⟨rfl, rfl⟩ := one i x hx; rfl
  · obtain ⟨rfl, rfl⟩ := one i x hx; cases hr

/-- a function of a slice of bytes, that only reads it -/
def mkBytes (k : FuncId) (G : Nat → (Nat → Int) → Option (Bool × V))
    (hnil : ∀ g v, G 0 g = some (true, v) → v.sc 0 = true ∧ ∀ (B : Base) (ρ : Rho) (w : World), Rel B ρ [] w → Calls P k (reals ρ [.nilsl]).toArray w fun e w' => ∃ x, e = .returned x ∧ After B ρ [] (fun v _ => some v) v x w')
    (hsl : ∀ off len cap hi f v, G len (fun j => f (off + j)) = some (true, v) → len ≤ cap → off + len ≤ hi → v.sc 0 = true ∧
      ∀ (B : Base) (ρ : Rho) (w : World), Rel B ρ [.ro .u8 off hi f] w → Calls P k (reals ρ [.sl 0 off len cap]).toArray w fun e w' => ∃ x, e = .returned x ∧ After B ρ [.ro .u8 off hi f] (fun v _ => some v) v x w') : Summ P where
  k := k
  pure := true
  f := fun args σ =>
    match args with
    | [.nilsl] => (match G 0 (fun _ => 0) with | some (ok, v) => some (ok, v, σ) | none => none)
    | [.sl b off len cap] =>
      (match σ[b]? with
      | some (.ro .u8 lo hi f) => (match G len (fun j => f (off + j)) with | some (ok, v) => some (ok && (Nat.ble lo off && (Nat.ble (off + len) hi && Nat.ble len cap)), v, σ) | none => none)
      | _ => none)
    | [.own b len] =>
      (match σ[b]? with
      | some (.own _ .u8 1 n f) => (match G len (fun j => f (0 + j)) with | some (ok, v) => some (ok && Nat.ble len n, v, σ) | none => none)
      | _ => none)
    | _ => none
  touch := fun _ => []
  keep := by
    intro args σ v σ' hf b _ _
    split at hf
    · split at hf
      · simp only [Option.some.injEq, Prod.mk.injEq] at hf; obtain ⟨_, _, rfl⟩ := hf; rfl
      · cases hf
    · split at hf
      · split at hf
        · simp only [Option.some.injEq, Prod.mk.injEq] at hf; obtain ⟨_, _, rfl⟩ := hf; rfl
        · cases hf
      · cases hf
    · split at hf
      · split at hf
        · simp only [Option.some.injEq, Prod.mk.injEq] at hf; obtain ⟨_, _, rfl⟩ := hf; rfl
        · cases hf
      · cases hf
    · cases hf
  ok := by
    intro args σ v σ' hf hs
    split at hf
    · split at hf
      · rename_i ok u hG
        simp only [Option.some.injEq, Prod.mk.injEq] at hf
        obtain ⟨rfl, rfl, rfl⟩ := hf
        obtain ⟨h1, h2⟩ := hnil _ _ hG
        refine ⟨Nat.le_refl _, V.sc_mono (Nat.zero_le _) _ h1, fun _ => rfl, fun B ρ w hr _ => ?_⟩
        refine (h2 ⟨w, noS⟩ ρ w (Rel.empty ρ w noS)).mono ?_
        rintro e w' ⟨x, rfl, y, σ1, ρ1, rfl, _, _, hr1, hy, hk⟩
        simp only [Option.some.injEq] at hk
        subst hk
        exact ⟨ρ, fun _ _ => rfl, by rw [V.real_ext (n := 0) (ρ := ρ) (fun i hi => by omega) y h1], hr.frame hr1.keeps⟩
      · cases hf
    · rename_i b off len cap
      split at hf
      · rename_i lo hi f hb
        split at hf
        · rename_i ok u hG
          simp only [Option.some.injEq, Prod.mk.injEq, Bool.and_eq_true, Nat.ble_eq] at hf
          obtain ⟨⟨rfl, g1, g2, g3⟩, rfl, rfl⟩ := hf
          obtain ⟨h1, h2⟩ := hsl off len cap hi f _ hG g3 g2
          refine ⟨Nat.le_refl _, V.sc_mono (Nat.zero_le _) _ h1, fun _ => rfl, fun B ρ w hr _ => ?_⟩
          have hv : Rel ⟨w, noS⟩ (fun _ => ρ b) [.ro .u8 off hi f] w := hr.view hb rfl (by
            obtain ⟨c, e, fr, q1, q2⟩ := hr.at_ b _ hb
            exact ⟨c, e, fr, q1, fun j hj1 hj2 => q2 j (by omega) hj2⟩)
          have := h2 _ _ _ hv
          rw [show reals (fun _ => ρ b) [V.sl 0 off len cap] = reals ρ [V.sl b off len cap] from rfl] at this
          refine this.mono ?_
          rintro e w' ⟨x, rfl, y, σ1, ρ1, rfl, _, _, hr1, hy, hk⟩
          simp only [Option.some.injEq] at hk
          subst hk
          exact ⟨ρ, fun _ _ => rfl, by rw [V.real_ext (n := 0) (ρ := ρ) (fun i hi => by omega) y h1], hr.frame hr1.keeps⟩
        · cases hf
      · cases hf
    · rename_i b len
      split at hf
      · rename_i e n f hb
        split at hf
        · rename_i ok u hG
          simp only [Option.some.injEq, Prod.mk.injEq, Bool.and_eq_true, Nat.ble_eq] at hf
          obtain ⟨⟨rfl, g1⟩, rfl, rfl⟩ := hf
          have hsc : u.sc 0 = true := (hsl 0 len len len f _ hG (Nat.le_refl _) (by omega)).1
          refine ⟨Nat.le_refl _, V.sc_mono (Nat.zero_le _) _ hsc, fun _ => rfl, fun B ρ w hr _ => ?_⟩
          obtain ⟨c, fr, q1, _, q3, _, q5, q6⟩ := hr.at_ b _ hb
          obtain ⟨h1, h2⟩ := hsl 0 len (ρ b).2 n f _ hG (by omega) (by omega)
          have hv : Rel ⟨w, noS⟩ (fun _ => ρ b) [.ro .u8 0 n f] w := hr.view hb rfl ⟨c, e, fr, q1, fun j _ hj2 => q6 j hj2⟩
          have := h2 _ _ _ hv
          rw [show reals (fun _ => ρ b) [V.sl 0 0 len (ρ b).2] = reals ρ [V.own b len] from rfl] at this
          refine this.mono ?_
          rintro e w' ⟨x, rfl, y, σ1, ρ1, rfl, _, _, hr1, hy, hk⟩
          simp only [Option.some.injEq] at hk
          subst hk
          exact ⟨ρ, fun _ _ => rfl, by rw [V.real_ext (n := 0) (ρ := ρ) (fun i hi => by omega) y h1], hr.frame hr1.keeps⟩
        · cases hf
      · cases hf
    · cases hf

/-! ### a slice of bytes among the arguments -/
theorem okWide_bytes {H : Type} {enc : TypeId × Value → H} {W : World} {base : Nat} {t e : TypeId} {v : Value} {d : DataW H} {ps : List MemPlace} (ht : P.underlying t = some (.slice e)) (he : P.underlying e = some (.int .u8)) (hc : P.cellsOf e = 1)
    (h : Value.okWide P W .any base t v) (hd : DataW.Trod enc P W 0 (fun _ => true) true t v d ps) :
    v = .slice none 0 0 ∨ ∃ (b off len cap : Nat) (f : Nat → Int), v = .slice (some ⟨b, off, none⟩) len cap ∧ len ≤ cap ∧ cap ≤ maxLen ∧ (∀ j, 0 ≤ f j ∧ f j < 256) ∧ Rel ⟨W, noS⟩ (fun _ => (b, 0)) [.ro .u8 off (off + cap) f] W := by
  obtain ⟨fuel, hf⟩ := hd
  rcases open_ints ht he hc hf with ⟨h1, _⟩ | ⟨a, len, cap, zs, hcs, _, hl, hm, hz, _, hcell, hwf⟩
  · left
    obtain ⟨a, l, c, rfl⟩ := okWide_slice ht h
    simpa [Value.cells] using h1
  · right
    obtain ⟨a', l, c, rfl⟩ := okWide_slice ht h
    simp only [Value.cells] at hcs
    have hcs' : Value.slice a' l c = .slice (some a) len cap := by simpa using hcs
    rw [hcs'] at h ⊢
    have hok : a.spot = none ∧ ∃ r n, W.shape? a.block = some (r, n) := by
      simp only [Value.okWide, ht, Cell.okWide, Cell.ok, World.has] at h
      obtain ⟨_, _, _, h1, r, n, h2, _⟩ := h
      exact ⟨h1, r, n, h2⟩
    obtain ⟨hsp, r, n, hsh⟩ := hok
    obtain ⟨blk, off, spot⟩ := a
    simp only at hsp
    subst hsp
    have hblk : ∃ c e fr, W.heap[blk]? = some (.cells c e fr) := by
      unfold World.shape? at hsh
      split at hsh
      · rename_i c e fr hh; exact ⟨c, e, fr, hh⟩
      · cases hsh
    obtain ⟨c, e', fr, hh⟩ := hblk
    have hzl : zs.length = cap := by simpa using hz
    refine ⟨blk, off, len, cap, fun j => zs.getD (j - off) 0, rfl, hl, hm, fun j => ?_, ?_⟩
    · show 0 ≤ zs.getD (j - off) 0 ∧ zs.getD (j - off) 0 < 256
      rw [List.getD_eq_getElem?_getD]
      cases hj : zs[j - off]? with
      | none => simp
      | some x =>
        have := hwf x (List.mem_of_getElem? hj)
        have h2 : 0 ≤ x ∧ x ≤ 255 := by simpa [Lit.wf, IntKind.has, IntKind.min, IntKind.max, IntKind.signed, IntKind.bits] using this
        show 0 ≤ x ∧ x < 256
        omega
    · have one : ∀ (i : Nat) (x : Blk), [Blk.ro .u8 off (off + cap) fun j => zs.getD (j - off) 0][i]? = some x → i = 0 ∧ x = .ro .u8 off (off + cap) fun j => zs.getD (j - off) 0 := by
        intro i x hx
        cases i with
        | zero => simp at hx; exact ⟨rfl, hx.symm⟩
        | succ i => simp at hx
      refine ⟨fun i x hx => ?_, fun i x hx _ => ?_, fun i j bi bj hi hj _ _ _ _ => ?_, fun i x hx => ?_, fun i x hx hr => ?_, Keeps.refl _ _⟩
      · obtain ⟨rfl, rfl⟩ := one i x hx
        refine ⟨c, e', fr, hh, fun j hj1 hj2 => ?_⟩
        have := hcell (j - off) (by omega)
        unfold World.cell? Addr.add at this
        by_cases h0 : j - off = 0
        · rw [if_pos h0] at this
          simp only [hh] at this
          have e0 : j = off := by omega
          subst e0
          simpa using this
        · rw [if_neg h0] at this
          simp only [hh] at this
          rw [show off + (j - off) = j by omega] at this
          simpa using this
      · exact (Array.getElem?_eq_some_iff.1 hh).1
      · rw [(one i bi hi).1, (one j bj hj).1]
      · obtain ⟨rfl, rfl⟩ := one i x hx; rfl
      · obtain ⟨rfl, rfl⟩ := one i x hx; cases hr

/-- a law, from its calls, with memory -/
theorem law_trueM {k : FuncId} {args : List V} {σ : List Blk} (h : ∀ (B : Base) (ρ : Rho) (w : World), Rel B ρ σ w → Calls P k (reals ρ args).toArray w fun e w' => ∃ x, e = .returned x ∧ After B ρ σ asB true x w') {ρ : Rho} {w : World} (hr : Rel ⟨w, noS⟩ ρ σ w) :
    Calls P k (reals ρ args).toArray w fun e w' => e = .returned (.bool true) ∧ Below w.heap.size w w' := by
  refine (h _ ρ w hr).mono ?_
  rintro e w' ⟨x, rfl, y, σ1, ρ1, rfl, _, _, hr1, hy, hk⟩
  have := asB_spec hk
  subst this
  exact ⟨rfl, hr1.keeps.os, hr1.keeps.tape, hr1.keeps.output, hr1.keeps.size, fun i hi => hr1.keeps.block i hi (fun hf => hf)⟩
end
end Go.R

/-
  Functions that read or turn one block of the memory, wherever it lies, and functions that hand out a new one.
-/
import Derived.Test.YtkhlghlmmnemeaaN
set_option linter.unusedVariables false
set_option linter.unusedSimpArgs false
namespace Go.R
open Go Go.RowKit

/-! ### functions that read or turn one block -/
section
variable {P : Program}

mutual
def V.mv (g : Nat → Nat) : V → V
  | .ptr b off => .ptr (g b) off
  | .sl b off len cap => .sl (g b) off len cap
  | .own b len => .own (g b) len
  | .mp b => .mp (g b)
  | .fn f c => .fn f (mvs g c)
  | .ifc t v => .ifc t (v.mv g)
  | .agg l => .agg (mvs g l)
  | .tup l => .tup (mvs g l)
  | v => v
def mvs (g : Nat → Nat) : List V → List V
  | [] => []
  | v :: r => v.mv g :: mvs g r
end
mutual
theorem V.mv_real (g : Nat → Nat) (ρ : Rho) : ∀ v : V, (v.mv g).real ρ = v.real (fun i => ρ (g i))
  | .int _ _ | .bool _ | .str _ | .nil | .nilsl | .nilmp | .nilfn | .nilif | .aggi _ _ _ => by simp [V.mv, V.real]
  | .ptr b _ => by simp [V.mv, V.real]
  | .sl b _ _ _ => by simp [V.mv, V.real]
  | .own b _ => by simp [V.mv, V.real]
  | .mp b => by simp [V.mv, V.real]
  | .fn _ c => by simp [V.mv, V.real, mvs_real g ρ c]
  | .ifc _ v => by simp [V.mv, V.real, V.mv_real g ρ v]
  | .agg l => by simp [V.mv, V.real, mvs_real g ρ l]
  | .tup l => by simp [V.mv, V.real, mvs_real g ρ l]
theorem mvs_real (g : Nat → Nat) (ρ : Rho) : ∀ l : List V, reals ρ (mvs g l) = reals (fun i => ρ (g i)) l
  | [] => rfl
  | v :: r => by simp [mvs, reals, V.mv_real g ρ v, mvs_real g ρ r]
end
mutual
theorem V.mv_sc {g : Nat → Nat} {n m : Nat} (h : ∀ i, i < n → g i < m) : ∀ v : V, v.sc n = true → (v.mv g).sc m = true
  | .int _ _, _ | .bool _, _ | .str _, _ | .nil, _ | .nilsl, _ | .nilmp, _ | .nilfn, _ | .nilif, _ | .aggi _ _ _, _ => by simp [V.mv, V.sc]
  | .ptr b _, hs => by simp [V.sc] at hs; simp [V.mv, V.sc]; have := h b (by omega); omega
  | .sl b _ _ _, hs => by simp [V.sc] at hs; simp [V.mv, V.sc]; have := h b (by omega); omega
  | .own b _, hs => by simp [V.sc] at hs; simp [V.mv, V.sc]; have := h b (by omega); omega
  | .mp b, hs => by simp [V.sc] at hs; simp [V.mv, V.sc]; have := h b (by omega); omega
  | .fn _ c, hs => by simp only [V.sc] at hs; simp only [V.mv, V.sc]; exact mvs_sc h c hs
  | .ifc _ v, hs => by simp only [V.sc] at hs; simp only [V.mv, V.sc]; exact V.mv_sc h v hs
  | .agg l, hs => by simp only [V.sc] at hs; simp only [V.mv, V.sc]; exact mvs_sc h l hs
  | .tup l, hs => by simp only [V.sc] at hs; simp only [V.mv, V.sc]; exact mvs_sc h l hs
theorem mvs_sc {g : Nat → Nat} {n m : Nat} (h : ∀ i, i < n → g i < m) : ∀ l : List V, scs n l = true → scs m (mvs g l) = true
  | [], _ => rfl
  | v :: r, hs => by
    simp only [scs, Bool.and_eq_true] at hs
    simp only [mvs, scs, Bool.and_eq_true]
    exact ⟨V.mv_sc h v hs.1, mvs_sc h r hs.2⟩
end
-- all that it points to is block b
mutual
def V.only (n : Nat) : V → Bool
  | .ptr b _ => Nat.beq b n
  | .sl b _ _ _ => Nat.beq b n
  | .own b _ => Nat.beq b n
  | .mp b => Nat.beq b n
  | .fn _ c => onlys n c
  | .ifc _ v => v.only n
  | .agg l => onlys n l
  | .tup l => onlys n l
  | _ => true
def onlys (n : Nat) : List V → Bool
  | [] => true
  | v :: r => v.only n && onlys n r
end
mutual
theorem V.only_real {n : Nat} (ρ : Rho) : ∀ v : V, v.only n = true → v.real (fun _ => ρ n) = v.real ρ
  | .int _ _, _ | .bool _, _ | .str _, _ | .nil, _ | .nilsl, _ | .nilmp, _ | .nilfn, _ | .nilif, _ | .aggi _ _ _, _ => by simp [V.real]
  | .ptr b _, h => by have := Nat.eq_of_beq_eq_true h; subst this; simp [V.real]
  | .sl b _ _ _, h => by have := Nat.eq_of_beq_eq_true h; subst this; simp [V.real]
  | .own b _, h => by have := Nat.eq_of_beq_eq_true h; subst this; simp [V.real]
  | .mp b, h => by have := Nat.eq_of_beq_eq_true h; subst this; simp [V.real]
  | .fn _ c, h => by simp only [V.only] at h; simp [V.real, onlys_real ρ c h]
  | .ifc _ v, h => by simp only [V.only] at h; simp [V.real, V.only_real ρ v h]
  | .agg l, h => by simp only [V.only] at h; simp [V.real, onlys_real ρ l h]
  | .tup l, h => by simp only [V.only] at h; simp [V.real, onlys_real ρ l h]
theorem onlys_real {n : Nat} (ρ : Rho) : ∀ l : List V, onlys n l = true → reals (fun _ => ρ n) l = reals ρ l
  | [], _ => rfl
  | v :: r, h => by
    simp only [onlys, Bool.and_eq_true] at h
    simp [reals, V.only_real ρ v h.1, onlys_real ρ r h.2]
end

/-- one block is turned, and memory may have grown -/
theorem Rel.turn {B : Base} {ρ : Rho} {σ : List Blk} {w w' : World} (h : Rel B ρ σ w) {b : Nat} {blk blk' : Blk} (hb : σ[b]? = some blk) (hrw : blk.rw = true) (hrw' : blk'.rw = true) (hsc : blk'.sc σ.length = true)
    (hk : Keeps (fun a => a = (ρ b).1) w w') (hat : blk'.At ρ b w') : Rel B ρ (σ.set b blk') w' := by
  have hlive : ∀ {x : Blk}, x.rw = true → x.live = true := fun {x} hx => by cases x <;> simp_all [Blk.rw, Blk.live]
  have hbl : b < σ.length := (List.getElem?_eq_some_iff.1 hb).1
  have hblt := h.lt b blk hb (hlive hrw)
  have hcase : ∀ (j : Nat) (x : Blk), (σ.set b blk')[j]? = some x → (j ≠ b ∧ σ[j]? = some x) ∨ (j = b ∧ x = blk') := by
    intro j x hx
    by_cases hj : b = j
    · subst hj; rw [List.getElem?_set_self hbl] at hx; exact .inr ⟨rfl, (Option.some.inj hx).symm⟩
    · rw [List.getElem?_set_ne hj] at hx; exact .inl ⟨fun h => hj h.symm, hx⟩
  refine ⟨fun j x hx => ?_, fun j x hx hl => ?_, fun j1 j2 b1 b2 h1 h2 l1 l2 he => ?_, fun j x hx => ?_, fun j x hx hr => ?_, ?_⟩
  · rcases hcase j x hx with ⟨hj, hx⟩ | ⟨hj, hx0⟩
    · exact (h.at_ j x hx).congr (h.sc j x hx) (fun _ _ => rfl) rfl (fun hl => hk.block _ (h.lt j x hx hl) (fun he => hj (h.inj j b x blk hx hb hl (hlive hrw) he)))
    · subst hj; rw [hx0]; exact hat
  · rcases hcase j x hx with ⟨hj, hx⟩ | ⟨hj, hx⟩
    · exact Nat.lt_of_lt_of_le (h.lt j x hx hl) hk.size
    · subst hj; exact Nat.lt_of_lt_of_le hblt hk.size
  · rcases hcase j1 b1 h1 with ⟨_, g1⟩ | ⟨e1, _⟩ <;> rcases hcase j2 b2 h2 with ⟨_, g2⟩ | ⟨e2, _⟩
    · exact h.inj j1 j2 b1 b2 g1 g2 l1 l2 he
    · subst e2; exact h.inj j1 j2 b1 blk g1 hb l1 (hlive hrw) he
    · subst e1; exact h.inj j1 j2 blk b2 hb g2 (hlive hrw) l2 he
    · omega
  · rw [List.length_set]
    rcases hcase j x hx with ⟨_, hx⟩ | ⟨_, hx⟩
    · exact h.sc j x hx
    · subst hx; exact hsc
  · rcases hcase j x hx with ⟨_, hx⟩ | ⟨hj, _⟩
    · exact h.wr j x hx hr
    · subst hj; exact h.wr j blk hb hrw
  · refine ⟨hk.os.trans h.keeps.os, hk.tape.trans h.keeps.tape, hk.output.trans h.keeps.output, Nat.le_trans h.keeps.size hk.size, fun k hk' hs => ?_⟩
    rw [← h.keeps.block k hk' hs]
    refine hk.block k (Nat.lt_of_lt_of_le hk' h.keeps.size) (fun he => ?_)
    subst he
    rcases h.wr b blk hb hrw with h1 | h1
    · exact hs h1
    · omega

/-- a call that touches one block alone, wherever that block lies -/
theorem local_sound {k : FuncId} {args0 : List V} {v0 : V} {blk blk' : Blk} (hrw : blk.rw = true) (hrw' : blk'.rw = true) (hsc : blk.sc 0 = true) (hsc' : blk'.sc 0 = true) (hv : v0.sc 1 = true)
    (h : ∀ (B : Base) (ρ : Rho) (w : World), Rel B ρ [blk] w → Calls P k (reals ρ args0).toArray w fun e w' => ∃ x, e = .returned x ∧ After B ρ [blk] (fun v σ => some (v, σ[0]?)) (v0, some blk') x w')
    {B : Base} {ρ : Rho} {σ : List Blk} {w : World} {b : Nat} (hr : Rel B ρ σ w) (hb : σ[b]? = some blk) :
    Calls P k (reals (fun _ => ρ b) args0).toArray w fun e w' => e = .returned (v0.real (fun _ => ρ b)) ∧ Rel B ρ (σ.set b blk') w' := by
  have hlive : ∀ {x : Blk}, x.rw = true → x.live = true := fun {x} hx => by cases x <;> simp_all [Blk.rw, Blk.live]
  have mono : ∀ {x : Blk} {n : Nat}, x.sc 0 = true → x.sc n = true := fun {x n} hx => by
    cases x <;> simp_all [Blk.sc]
    exact scs_mono (Nat.zero_le _) _ hx
  have hrel : Rel ⟨w, fun a => a = (ρ b).1⟩ (fun _ => ρ b) [blk] w := by
    have one : ∀ (i : Nat) (x : Blk), [blk][i]? = some x → i = 0 ∧ x = blk := by
      intro i x hx
      cases i with
      | zero => simp at hx; exact ⟨rfl, hx.symm⟩
      | succ i => simp at hx
    refine ⟨fun i x hx => ?_, fun i x hx hl => ?_, fun i j bi bj hi hj _ _ _ => ?_, fun i x hx => ?_, fun i x hx hr => ?_, Keeps.refl _ _⟩
    · obtain ⟨rfl, rfl⟩ := one i x hx
      have := hr.at_ b x hb
      revert this
      cases x with
      | cells e l => intro this; simp only [Blk.At] at this ⊢; rw [reals_ext (n := 0) (ρ := ρ) (fun i hi => by omega) l (by simpa [Blk.sc] using hsc)]; exact this
      | ints e k n f => exact id
      | own e k sz n f => exact id
      | ro k lo hi f => exact id
      | gone => exact id
    · obtain ⟨rfl, rfl⟩ := one i x hx
      exact hr.lt b x hb hl
    · rw [(one i bi hi).1, (one j bj hj).1]
    · obtain ⟨rfl, rfl⟩ := one i x hx
      exact mono hsc
    · exact .inl rfl
  refine (h _ _ w hrel).mono ?_
  rintro e w' ⟨x, rfl, y, σ1, ρ1, rfl, h1, h2, h3, h4, h5⟩
  simp only [Option.some.injEq, Prod.mk.injEq] at h5
  obtain ⟨rfl, h6⟩ := h5
  have h0 : ρ1 0 = ρ b := h2 0 (by simp)
  refine ⟨by rw [V.real_ext (n := 1) (ρ := fun _ => ρ b) (fun i hi => by rw [show i = 0 by omega, h0]) y hv], hr.turn hb hrw hrw' (mono hsc') h3.keeps ?_⟩
  have hat := h3.at_ 0 blk' h6
  revert hat
  cases blk' with
  | cells e l =>
    intro this
    simp only [Blk.At, h0] at this ⊢
    rw [reals_ext (n := 0) (ρ := ρ1) (fun i hi => by omega) l (by simpa [Blk.sc] using hsc')]; exact this
  | ints e k n f => intro this; simp only [Blk.At, h0] at this ⊢; exact this
  | own e k sz n f => intro this; simp only [Blk.At, h0] at this ⊢; exact this
  | ro k lo hi f => cases hrw'
  | gone => cases hrw'

mutual
def V.fstB : V → Option Nat
  | .ptr b _ => some b
  | .sl b _ _ _ => some b
  | .own b _ => some b
  | .mp b => some b
  | .agg l => firstB l
  | .tup l => firstB l
  | _ => none
def firstB : List V → Option Nat
  | [] => none
  | v :: r => match v.fstB with | some b => some b | none => firstB r
end
/-- a function of values and of one block -/
def mkLocal (k : FuncId) (F : List V → Blk → Option (Bool × V × Blk))
    (h : ∀ args blk v blk', F args blk = some (true, v, blk') → blk.rw = true ∧ blk'.rw = true ∧ blk.sc 0 = true ∧ blk'.sc 0 = true ∧ v.sc 1 = true ∧
      ∀ (B : Base) (ρ : Rho) (w : World), Rel B ρ [blk] w → Calls P k (reals ρ args).toArray w fun e w' => ∃ x, e = .returned x ∧ After B ρ [blk] (fun v σ => some (v, σ[0]?)) (v, some blk') x w') : Summ P where
  k := k
  pure := false
  f := fun args σ =>
    match firstB args with
    | some b =>
      bif onlys b args then
        match σ[b]? with
        | some blk =>
          match F (mvs (fun _ => 0) args) blk with
          | some (ok, v, blk') => some (ok, v.mv (fun _ => b), σ.set b blk')
          | none => none
        | none => none
      else none
    | none => none
  ok := by
    intro args σ v σ' hf hs
    split at hf
    · rename_i b hb0
      cases ho : onlys b args with
      | false => rw [ho] at hf; cases hf
      | true =>
        rw [ho, cond_true] at hf
        split at hf
        · rename_i blk hb
          split at hf
          · rename_i ok v0 blk' hF
            simp only [Option.some.injEq, Prod.mk.injEq] at hf
            obtain ⟨rfl, rfl, rfl⟩ := hf
            obtain ⟨g1, g2, g3, g4, g5, g6⟩ := h _ _ _ _ hF
            have hbl : b < σ.length := (List.getElem?_eq_some_iff.1 hb).1
            refine ⟨by simp, by rw [List.length_set]; exact V.mv_sc (fun i _ => hbl) v0 g5, fun hp => (by cases hp), fun B ρ w hr _ => ?_⟩
            have := local_sound g1 g2 g3 g4 g5 g6 hr hb
            rw [mvs_real, onlys_real ρ args ho] at this
            refine this.mono ?_
            rintro e w' ⟨rfl, hr'⟩
            exact ⟨ρ, fun _ _ => rfl, by rw [V.mv_real], hr'⟩
          · cases hf
        · cases hf
    · cases hf

/-- memory with one more block, that lies behind all that is known -/
theorem Rel.extend {B : Base} {ρ : Rho} {σ : List Blk} {w : World} (h : Rel B ρ σ w) {a : Nat × Nat} {blk : Blk} (hsc : blk.sc 0 = true) (hb : B.w0.heap.size ≤ a.1) (hlt : a.1 < w.heap.size)
    (hn : ∀ (i : Nat) (b : Blk), σ[i]? = some b → b.live = true → (ρ i).1 ≠ a.1) (hat : blk.At (fun _ => a) 0 w) : Rel B (fun i => if i = σ.length then a else ρ i) (σ ++ [blk]) w := by
  have mono : ∀ {x : Blk} {n m : Nat}, n ≤ m → x.sc n = true → x.sc m = true := fun {x n m} hnm hx => by
    cases x <;> simp_all [Blk.sc]
    exact scs_mono hnm _ hx
  have hcase : ∀ (j : Nat) (x : Blk), (σ ++ [blk])[j]? = some x → (j < σ.length ∧ σ[j]? = some x) ∨ (j = σ.length ∧ x = blk) := by
    intro j x hx
    by_cases hj : j < σ.length
    · rw [List.getElem?_append_left hj] at hx; exact .inl ⟨hj, hx⟩
    · rw [List.getElem?_append_right (by omega)] at hx
      by_cases h0 : j - σ.length = 0
      · rw [h0] at hx; simp at hx; exact .inr ⟨by omega, hx.symm⟩
      · rw [List.getElem?_eq_none (by simp; omega)] at hx; cases hx
  refine ⟨fun j x hx => ?_, fun j x hx hl => ?_, fun j1 j2 b1 b2 h1 h2 l1 l2 he => ?_, fun j x hx => ?_, fun j x hx hr => ?_, h.keeps⟩
  · rcases hcase j x hx with ⟨hj, hx⟩ | ⟨hj, rfl⟩
    · exact (h.at_ j x hx).congr (h.sc j x hx) (fun i hi => if_neg (by omega)) (if_neg (by omega)) (fun _ => rfl)
    · subst hj
      cases x with
      | cells e l => simp only [Blk.At, if_true] at hat ⊢; rw [reals_ext (n := 0) (ρ := fun _ => a) (fun i hi => by omega) l (by simpa [Blk.sc] using hsc)]; exact hat
      | ints e k n f => simp only [Blk.At, if_true] at hat ⊢; exact hat
      | own e k sz n f => simp only [Blk.At, if_true] at hat ⊢; exact hat
      | ro k lo hi f => simp only [Blk.At, if_true] at hat ⊢; exact hat
      | gone => trivial
  · rcases hcase j x hx with ⟨hj, hx⟩ | ⟨hj, rfl⟩
    · simp only [if_neg (show ¬ j = σ.length by omega)]; exact h.lt j x hx hl
    · subst hj; simp only [if_true]; exact hlt
  · rcases hcase j1 b1 h1 with ⟨e1, g1⟩ | ⟨e1, rfl⟩ <;> rcases hcase j2 b2 h2 with ⟨e2, g2⟩ | ⟨e2, rfl⟩
    · simp only [if_neg (show ¬ j1 = σ.length by omega), if_neg (show ¬ j2 = σ.length by omega)] at he; exact h.inj j1 j2 b1 b2 g1 g2 l1 l2 he
    · subst e2; simp only [if_neg (show ¬ j1 = σ.length by omega), if_true] at he; exact absurd he (hn j1 b1 g1 l1)
    · subst e1; simp only [if_neg (show ¬ j2 = σ.length by omega), if_true] at he; exact absurd he.symm (hn j2 b2 g2 l2)
    · omega
  · rw [List.length_append]
    rcases hcase j x hx with ⟨_, hx⟩ | ⟨_, rfl⟩
    · exact mono (Nat.le_add_right _ _) (h.sc j x hx)
    · exact mono (Nat.zero_le _) hsc
  · rcases hcase j x hx with ⟨hj, hx⟩ | ⟨hj, rfl⟩
    · simp only [if_neg (show ¬ j = σ.length by omega)]; exact h.wr j x hx hr
    · subst hj; simp only [if_true]; exact .inr hb

/-- a value that points to one block at most, and that block -/
def newK : V → List Blk → Option (V × Option Blk) := fun v σ =>
  match v.fstB with
  | some b => bif v.only b then (match σ[b]? with | some x => some (v.mv (fun _ => 0), some x) | none => none) else none
  | none => bif v.sc 0 then some (v, none) else none
/-- a function of values that hands out a block that it made, or none -/
def mkNew (k : FuncId) (F : List V → Option (Bool × V × Option Blk))
    (h : ∀ args v ob, F args = some (true, v, ob) → (∀ blk, ob = some blk → blk.rw = true ∧ blk.sc 0 = true ∧ v.sc 1 = true) ∧ (ob = none → v.sc 0 = true) ∧
      ∀ (B : Base) (ρ : Rho) (w : World), Rel B ρ [] w → Calls P k (reals ρ args).toArray w fun e w' => ∃ x, e = .returned x ∧ After B ρ [] newK (v, ob) x w') : Summ P where
  k := k
  pure := false
  f := fun args σ =>
    match F (args.map flat) with
    | some (ok, v, some blk) => some (ok, v.mv (fun _ => σ.length), σ ++ [blk])
    | some (ok, v, none) => some (ok, v, σ)
    | none => none
  ok := by
    intro args σ v σ' hf hs
    split at hf
    · rename_i ok v0 blk hF
      simp only [Option.some.injEq, Prod.mk.injEq] at hf
      obtain ⟨rfl, rfl, rfl⟩ := hf
      obtain ⟨g1, _, g2⟩ := h _ _ _ hF
      obtain ⟨grw, gsc, gv⟩ := g1 blk rfl
      refine ⟨by simp, V.mv_sc (fun i _ => by simp) v0 gv, fun hp => (by cases hp), fun B ρ w hr _ => ?_⟩
      rw [← flats_real]
      refine (g2 ⟨w, noS⟩ ρ w (Rel.empty ρ w noS)).mono ?_
      rintro e w' ⟨x, rfl, u, σ1, ρ1, rfl, _, _, hr1, hu, hk⟩
      unfold newK at hk
      split at hk
      · rename_i b hb
        cases ho : u.only b with
        | false => rw [ho] at hk; cases hk
        | true =>
          rw [ho, cond_true] at hk
          cases hbk : σ1[b]? with
          | none => rw [hbk] at hk; cases hk
          | some y =>
          rw [hbk] at hk
          simp only [Option.some.injEq, Prod.mk.injEq] at hk
          obtain ⟨rfl, hy⟩ := hk
          subst hy
          have hlive : y.live = true := by cases y <;> simp_all [Blk.rw, Blk.live]
          have hnew : w.heap.size ≤ (ρ1 b).1 := by
            rcases hr1.wr b y hbk grw with hh | hh
            · exact hh.elim
            · exact hh
          refine ⟨fun i => if i = σ.length then ρ1 b else ρ i, fun i hi => if_neg (by omega), ?_, ?_⟩
          · rw [V.mv_real, V.mv_real]
            simp only [if_true]
            rw [V.only_real ρ1 u ho]
          · refine (hr.frame hr1.keeps).extend gsc (Nat.le_trans hr.keeps.size hnew) (hr1.lt b y hbk hlive) (fun i bi hi hl he => ?_) ?_
            · have := hr.lt i bi hi hl
              rw [he] at this; omega
            · have hat := hr1.at_ b y hbk
              revert hat
              cases y with
              | cells e l => intro this; simp only [Blk.At] at this ⊢; rw [reals_ext (n := 0) (ρ := ρ1) (fun i hi => by omega) l (by simpa [Blk.sc] using gsc)]; exact this
              | ints e k n f => exact id
              | own e k sz n f => exact id
              | ro k lo hi f => exact id
              | gone => exact id
      · cases hc : u.sc 0 with
        | false => rw [hc] at hk; cases hk
        | true => rw [hc, cond_true] at hk; simp at hk
    · rename_i ok v0 hF
      simp only [Option.some.injEq, Prod.mk.injEq] at hf
      obtain ⟨rfl, rfl, rfl⟩ := hf
      obtain ⟨_, g1, g2⟩ := h _ _ _ hF
      have gv := g1 rfl
      refine ⟨Nat.le_refl _, V.sc_mono (Nat.zero_le _) _ gv, fun hp => (by cases hp), fun B ρ w hr _ => ?_⟩
      rw [← flats_real]
      refine (g2 ⟨w, noS⟩ ρ w (Rel.empty ρ w noS)).mono ?_
      rintro e w' ⟨x, rfl, u, σ1, ρ1, rfl, _, _, hr1, hu, hk⟩
      unfold newK at hk
      split at hk
      · rename_i b hb
        cases ho : u.only b with
        | false => rw [ho] at hk; cases hk
        | true =>
          rw [ho, cond_true] at hk
          split at hk <;> simp at hk
      · cases hc : u.sc 0 with
        | false => rw [hc] at hk; cases hk
        | true =>
          rw [hc, cond_true] at hk
          simp only [Option.some.injEq, Prod.mk.injEq] at hk
          obtain ⟨rfl, _⟩ := hk
          exact ⟨ρ, fun _ _ => rfl, by rw [V.real_ext (n := 0) (ρ := ρ) (fun i hi => by omega) u gv], hr.frame hr1.keeps⟩
    · cases hf
end
end Go.R

/-
  Functions that read or turn one block of the memory, wherever it lies, and functions that hand out a new one.
-/
import Derived.Test.YtabfnphbbdklgaaDoorN
set_option linter.unusedVariables false
set_option linter.unusedSimpArgs false
namespace Go.R
open Go Go.RowKit

/-! ### functions that read or turn one block -/
section
variable {P : Program}

mutual
def V.mv (g : Nat → Nat) : V → V
  | .ptr b off => .ptr (g b) off
  | .sl b off len cap => .sl (g b) off len cap
  | .own b len => .own (g b) len
  | .slo b off len => .slo (g b) off len
  | .mp b => .mp (g b)
  | .fn f c => .fn f (mvs g c)
  | .ifc t v => .ifc t (v.mv g)
  | .agg l => .agg (mvs g l)
  | .tup l => .tup (mvs g l)
  | v => v
def mvs (g : Nat → Nat) : List V → List V
  | [] => []
  | v :: r => v.mv g :: mvs g r
end
mutual
theorem V.mv_real (g : Nat → Nat) (ρ : Rho) : ∀ v : V, (v.mv g).real ρ = v.real (fun i => ρ (g i))
  | .int _ _ | .bool _ | .str _ | .nil | .nilsl | .nilmp | .nilfn | .nilif | .aggi _ _ _ | .raw _ => by simp [V.mv, V.real]
  | .ptr b _ => by simp [V.mv, V.real]
  | .sl b _ _ _ => by simp [V.mv, V.real]
  | .own b _ => by simp [V.mv, V.real]
  | .slo b _ _ => by simp [V.mv, V.real]
  | .mp b => by simp [V.mv, V.real]
  | .fn _ c => by simp [V.mv, V.real, mvs_real g ρ c]
  | .ifc _ v => by simp [V.mv, V.real, V.mv_real g ρ v]
  | .agg l => by simp [V.mv, V.real, mvs_real g ρ l]
  | .tup l => by simp [V.mv, V.real, mvs_real g ρ l]
theorem mvs_real (g : Nat → Nat) (ρ : Rho) : ∀ l : List V, reals ρ (mvs g l) = reals (fun i => ρ (g i)) l
  | [] => rfl
  | v :: r => by simp [mvs, reals, V.mv_real g ρ v, mvs_real g ρ r]
end
mutual
theorem V.mv_sc {g : Nat → Nat} {n m : Nat} (h : ∀ i, i < n → g i < m) : ∀ v : V, v.sc n = true → (v.mv g).sc m = true
  | .int _ _, _ | .bool _, _ | .str _, _ | .nil, _ | .nilsl, _ | .nilmp, _ | .nilfn, _ | .nilif, _ | .aggi _ _ _, _ | .raw _, _ => by simp [V.mv, V.sc]
  | .ptr b _, hs => by simp [V.sc] at hs; simp [V.mv, V.sc]; have := h b (by omega); omega
  | .sl b _ _ _, hs => by simp [V.sc] at hs; simp [V.mv, V.sc]; have := h b (by omega); omega
  | .own b _, hs => by simp [V.sc] at hs; simp [V.mv, V.sc]; have := h b (by omega); omega
  | .slo b _ _, hs => by simp [V.sc] at hs; simp [V.mv, V.sc]; have := h b (by omega); omega
  | .mp b, hs => by simp [V.sc] at hs; simp [V.mv, V.sc]; have := h b (by omega); omega
  | .fn _ c, hs => by simp only [V.sc] at hs; simp only [V.mv, V.sc]; exact mvs_sc h c hs
  | .ifc _ v, hs => by simp only [V.sc] at hs; simp only [V.mv, V.sc]; exact V.mv_sc h v hs
  | .agg l, hs => by simp only [V.sc] at hs; simp only [V.mv, V.sc]; exact mvs_sc h l hs
  | .tup l, hs => by simp only [V.sc] at hs; simp only [V.mv, V.sc]; exact mvs_sc h l hs
theorem mvs_sc {g : Nat → Nat} {n m : Nat} (h : ∀ i, i < n → g i < m) : ∀ l : List V, scs n l = true → scs m (mvs g l) = true
  | [], _ => rfl
  | v :: r, hs => by
    simp only [scs, Bool.and_eq_true] at hs
    simp only [mvs, scs, Bool.and_eq_true]
    exact ⟨V.mv_sc h v hs.1, mvs_sc h r hs.2⟩
end
-- all that it points to is block b
mutual
def V.only (n : Nat) : V → Bool
  | .ptr b _ => Nat.beq b n
  | .sl b _ _ _ => Nat.beq b n
  | .own b _ => Nat.beq b n
  | .slo b _ _ => Nat.beq b n
  | .mp b => Nat.beq b n
  | .fn _ c => onlys n c
  | .ifc _ v => v.only n
  | .agg l => onlys n l
  | .tup l => onlys n l
  | _ => true
def onlys (n : Nat) : List V → Bool
  | [] => true
  | v :: r => v.only n && onlys n r
end
mutual
theorem V.only_real {n : Nat} (ρ : Rho) : ∀ v : V, v.only n = true → v.real (fun _ => ρ n) = v.real ρ
  | .int _ _, _ | .bool _, _ | .str _, _ | .nil, _ | .nilsl, _ | .nilmp, _ | .nilfn, _ | .nilif, _ | .aggi _ _ _, _ | .raw _, _ => by simp [V.real]
  | .ptr b _, h => by have := Nat.eq_of_beq_eq_true h; subst this; simp [V.real]
  | .sl b _ _ _, h => by have := Nat.eq_of_beq_eq_true h; subst this; simp [V.real]
  | .own b _, h => by have := Nat.eq_of_beq_eq_true h; subst this; simp [V.real]
  | .slo b _ _, h => by have := Nat.eq_of_beq_eq_true h; subst this; simp [V.real]
  | .mp b, h => by have := Nat.eq_of_beq_eq_true h; subst this; simp [V.real]
  | .fn _ c, h => by simp only [V.only] at h; simp [V.real, onlys_real ρ c h]
  | .ifc _ v, h => by simp only [V.only] at h; simp [V.real, V.only_real ρ v h]
  | .agg l, h => by simp only [V.only] at h; simp [V.real, onlys_real ρ l h]
  | .tup l, h => by simp only [V.only] at h; simp [V.real, onlys_real ρ l h]
theorem onlys_real {n : Nat} (ρ : Rho) : ∀ l : List V, onlys n l = true → reals (fun _ => ρ n) l = reals ρ l
  | [], _ => rfl
  | v :: r, h => by
    simp only [onlys, Bool.and_eq_true] at h
    simp [reals, V.only_real ρ v h.1, onlys_real ρ r h.2]
end

/-- a block that points nowhere, by another name -/
theorem Blk.At.move {ρ ρ' : Rho} {i i' : Nat} {w : World} {b : Blk} (h : b.At ρ i w) (hsc : b.sc 0 = true) (hi : ρ' i' = ρ i) : b.At ρ' i' w := by
  cases b with
  | cells e l => simp only [Blk.At, Blk.sc] at *; rw [hi, reals_ext (n := 0) (ρ := ρ) (ρ' := ρ') (fun i hi => by omega) l hsc]; exact h
  | ownc e sz l => simp only [Blk.At, Blk.sc] at *; rw [hi, reals_ext (n := 0) (ρ := ρ) (ρ' := ρ') (fun i hi => by omega) l hsc]; exact h
  | ints e k n f => simp only [Blk.At] at *; rw [hi]; exact h
  | own e k sz n f => simp only [Blk.At] at *; rw [hi]; exact h
  | ro k lo hi' f => simp only [Blk.At] at *; rw [hi]; exact h
  | mapi kk vk l => simp only [Blk.At] at *; rw [hi]; exact h
  | glob ga gv => simp only [Blk.At] at *; rw [hi]; exact h
  | gone => trivial
/-- one block is turned, and memory may have grown -/
theorem Rel.turn {B : Base} {ρ : Rho} {σ : List Blk} {w w' : World} (h : Rel B ρ σ w) {b : Nat} {blk blk' : Blk} (hb : σ[b]? = some blk) (hrw : blk.rw = true) (hrw' : blk'.rw = true) (hsc : blk'.sc σ.length = true)
    (hk : Keeps (fun a => a = (ρ b).1) w w') (hat : blk'.At ρ b w') : Rel B ρ (σ.set b blk') w' := by
  have hlive : ∀ {x : Blk}, x.rw = true → x.live = true := fun {x} hx => by cases x <;> simp_all [Blk.rw, Blk.live]
  have hbl : b < σ.length := (List.getElem?_eq_some_iff.1 hb).1
  have hblt := h.lt b blk hb (hlive hrw)
  have hcase : ∀ (j : Nat) (x : Blk), (σ.set b blk')[j]? = some x → (j ≠ b ∧ σ[j]? = some x) ∨ (j = b ∧ x = blk') := by
    intro j x hx
    by_cases hj : b = j
    · subst hj; rw [List.getElem?_set_self hbl] at hx; exact .inr ⟨rfl, (Option.some.inj hx).symm⟩
    · rw [List.getElem?_set_ne hj] at hx; exact .inl ⟨fun h => hj h.symm, hx⟩
  refine ⟨fun j x hx => ?_, fun j x hx hl => ?_, fun j1 j2 b1 b2 h1 h2 l1 l2 hq he => ?_, fun j x hx => ?_, fun j x hx hr => ?_, ?_⟩
  · rcases hcase j x hx with ⟨hj, hx⟩ | ⟨hj, hx0⟩
    · exact (h.at_ j x hx).congr (h.sc j x hx) (fun _ _ => rfl) rfl (fun hl => hk.block _ (h.lt j x hx hl) (fun he => hj (h.inj j b x blk hx hb hl (hlive hrw) (.inr hrw) he)))
    · subst hj; rw [hx0]; exact hat
  · rcases hcase j x hx with ⟨hj, hx⟩ | ⟨hj, hx⟩
    · exact Nat.lt_of_lt_of_le (h.lt j x hx hl) hk.size
    · subst hj; exact Nat.lt_of_lt_of_le hblt hk.size
  · rcases hcase j1 b1 h1 with ⟨_, g1⟩ | ⟨e1, _⟩ <;> rcases hcase j2 b2 h2 with ⟨_, g2⟩ | ⟨e2, _⟩
    · exact h.inj j1 j2 b1 b2 g1 g2 l1 l2 hq he
    · subst e2; exact h.inj j1 j2 b1 blk g1 hb l1 (hlive hrw) (.inr hrw) he
    · subst e1; exact h.inj j1 j2 blk b2 hb g2 (hlive hrw) l2 (.inl hrw) he
    · omega
  · rw [List.length_set]
    rcases hcase j x hx with ⟨_, hx⟩ | ⟨_, hx⟩
    · exact h.sc j x hx
    · subst hx; exact hsc
  · rcases hcase j x hx with ⟨_, hx⟩ | ⟨hj, _⟩
    · exact h.wr j x hx hr
    · subst hj; exact h.wr j blk hb hrw
  · refine ⟨hk.os.trans h.keeps.os, hk.tape.trans h.keeps.tape, hk.output.trans h.keeps.output, Nat.le_trans h.keeps.size hk.size, fun k hk' hs => ?_⟩
    rw [← h.keeps.block k hk' hs]
    refine hk.block k (Nat.lt_of_lt_of_le hk' h.keeps.size) (fun he => ?_)
    subst he
    rcases h.wr b blk hb hrw with h1 | h1
    · exact hs h1
    · omega

/-- a call that touches one block alone, wherever that block lies -/
theorem local_sound {k : FuncId} {args0 : List V} {v0 : V} {blk blk' : Blk} (hrw : blk.rw = true) (hrw' : blk'.rw = true) (hsc : blk.sc 0 = true) (hsc' : blk'.sc 0 = true) (hv : v0.sc 1 = true)
    (h : ∀ (B : Base) (ρ : Rho) (w : World), Rel B ρ [blk] w → Calls P k (reals ρ args0).toArray w fun e w' => ∃ x, e = .returned x ∧ After B ρ [blk] (fun v σ => some (v, σ[0]?)) (v0, some blk') x w')
    {B : Base} {ρ : Rho} {σ : List Blk} {w : World} {b : Nat} (hr : Rel B ρ σ w) (hb : σ[b]? = some blk) :
    Calls P k (reals (fun _ => ρ b) args0).toArray w fun e w' => e = .returned (v0.real (fun _ => ρ b)) ∧ Rel B ρ (σ.set b blk') w' := by
  have hlive : ∀ {x : Blk}, x.rw = true → x.live = true := fun {x} hx => by cases x <;> simp_all [Blk.rw, Blk.live]
  have mono : ∀ {x : Blk} {n : Nat}, x.sc 0 = true → x.sc n = true := fun {x n} hx => Blk.sc_mono (Nat.zero_le _) hx
  have hrel : Rel ⟨w, fun a => a = (ρ b).1⟩ (fun _ => ρ b) [blk] w := by
    have one : ∀ (i : Nat) (x : Blk), [blk][i]? = some x → i = 0 ∧ x = blk := by
      intro i x hx
      cases i with
      | zero => simp at hx; exact ⟨rfl, hx.symm⟩
      | succ i => simp at hx
    refine ⟨fun i x hx => ?_, fun i x hx hl => ?_, fun i j bi bj hi hj _ _ _ _ => ?_, fun i x hx => ?_, fun i x hx hr => ?_, Keeps.refl _ _⟩
    · obtain ⟨rfl, rfl⟩ := one i x hx
      exact (hr.at_ b x hb).move hsc rfl
    · obtain ⟨rfl, rfl⟩ := one i x hx
      exact hr.lt b x hb hl
    · rw [(one i bi hi).1, (one j bj hj).1]
    · obtain ⟨rfl, rfl⟩ := one i x hx
      exact mono hsc
    · exact .inl rfl
  refine (h _ _ w hrel).mono ?_
  rintro e w' ⟨x, rfl, y, σ1, ρ1, rfl, h1, h2, h3, h4, h5⟩
  simp only [Option.some.injEq, Prod.mk.injEq] at h5
  obtain ⟨rfl, h6⟩ := h5
  have h0 : ρ1 0 = ρ b := h2 0 (by simp)
  refine ⟨by rw [V.real_ext (n := 1) (ρ := fun _ => ρ b) (fun i hi => by rw [show i = 0 by omega, h0]) y hv], hr.turn hb hrw hrw' (mono hsc') h3.keeps ?_⟩
  exact (h3.at_ 0 blk' h6).move hsc' h0.symm

mutual
def V.fstB : V → Option Nat
  | .ptr b _ => some b
  | .sl b _ _ _ => some b
  | .own b _ => some b
  | .slo b _ _ => some b
  | .mp b => some b
  | .agg l => firstB l
  | .tup l => firstB l
  | _ => none
def firstB : List V → Option Nat
  | [] => none
  | v :: r => match v.fstB with | some b => some b | none => firstB r
end
/-- a function of values and of one block -/
def mkLocal (k : FuncId) (F : List V → Blk → Option (Bool × V × Blk))
    (h : ∀ args blk v blk', F args blk = some (true, v, blk') → blk.rw = true ∧ blk'.rw = true ∧ blk.sc 0 = true ∧ blk'.sc 0 = true ∧ v.sc 1 = true ∧
      ∀ (B : Base) (ρ : Rho) (w : World), Rel B ρ [blk] w → Calls P k (reals ρ args).toArray w fun e w' => ∃ x, e = .returned x ∧ After B ρ [blk] (fun v σ => some (v, σ[0]?)) (v, some blk') x w') : Summ P where
  k := k
  pure := false
  f := fun args σ =>
    match firstB args with
    | some b =>
      bif onlys b args then
        match σ[b]? with
        | some blk =>
          match F (mvs (fun _ => 0) args) blk with
          | some (ok, v, blk') => some (ok, v.mv (fun _ => b), σ.set b blk')
          | none => none
        | none => none
      else none
    | none => none
  touch := fun args => match firstB args with | some b => [b] | none => []
  keep := by
    intro args σ v σ' hf b hb ht
    split at hf
    · rename_i b0 hb0
      rw [hb0] at ht
      cases ho : onlys b0 args with
      | false => rw [ho] at hf; cases hf
      | true =>
        rw [ho, cond_true] at hf
        split at hf
        · split at hf
          · simp only [Option.some.injEq, Prod.mk.injEq] at hf
            obtain ⟨_, _, rfl⟩ := hf
            have : b0 ≠ b := fun e => by subst e; simp at ht
            rw [List.getElem?_set_ne this]
          · cases hf
        · cases hf
    · cases hf
  ok := by
    intro args σ v σ' hf hs
    split at hf
    · rename_i b hb0
      cases ho : onlys b args with
      | false => rw [ho] at hf; cases hf
      | true =>
        rw [ho, cond_true] at hf
        split at hf
        · rename_i blk hb
          split at hf
          · rename_i ok v0 blk' hF
            simp only [Option.some.injEq, Prod.mk.injEq] at hf
            obtain ⟨rfl, rfl, rfl⟩ := hf
            obtain ⟨g1, g2, g3, g4, g5, g6⟩ := h _ _ _ _ hF
            have hbl : b < σ.length := (List.getElem?_eq_some_iff.1 hb).1
            refine ⟨by simp, by rw [List.length_set]; exact V.mv_sc (fun i _ => hbl) v0 g5, fun hp => (by cases hp), fun B ρ w hr _ => ?_⟩
            have := local_sound g1 g2 g3 g4 g5 g6 hr hb
            rw [mvs_real, onlys_real ρ args ho] at this
            refine this.mono ?_
            rintro e w' ⟨rfl, hr'⟩
            exact ⟨ρ, fun _ _ => rfl, by rw [V.mv_real], hr'⟩
          · cases hf
        · cases hf
    · cases hf

/-- memory with one more block, that lies behind all that is known -/
theorem Rel.extend {B : Base} {ρ : Rho} {σ : List Blk} {w : World} (h : Rel B ρ σ w) {a : Nat × Nat} {blk : Blk} (hsc : blk.sc 0 = true) (hb : B.w0.heap.size ≤ a.1) (hlt : a.1 < w.heap.size)
    (hn : ∀ (i : Nat) (b : Blk), σ[i]? = some b → b.live = true → (ρ i).1 ≠ a.1) (hat : blk.At (fun _ => a) 0 w) : Rel B (fun i => if i = σ.length then a else ρ i) (σ ++ [blk]) w := by
  have mono : ∀ {x : Blk} {n m : Nat}, n ≤ m → x.sc n = true → x.sc m = true := fun {x n m} hnm hx => Blk.sc_mono hnm hx
  have hcase : ∀ (j : Nat) (x : Blk), (σ ++ [blk])[j]? = some x → (j < σ.length ∧ σ[j]? = some x) ∨ (j = σ.length ∧ x = blk) := by
    intro j x hx
    by_cases hj : j < σ.length
    · rw [List.getElem?_append_left hj] at hx; exact .inl ⟨hj, hx⟩
    · rw [List.getElem?_append_right (by omega)] at hx
      by_cases h0 : j - σ.length = 0
      · rw [h0] at hx; simp at hx; exact .inr ⟨by omega, hx.symm⟩
      · rw [List.getElem?_eq_none (by simp; omega)] at hx; cases hx
  refine ⟨fun j x hx => ?_, fun j x hx hl => ?_, fun j1 j2 b1 b2 h1 h2 l1 l2 hq he => ?_, fun j x hx => ?_, fun j x hx hr => ?_, h.keeps⟩
  · rcases hcase j x hx with ⟨hj, hx⟩ | ⟨hj, rfl⟩
    · exact (h.at_ j x hx).congr (h.sc j x hx) (fun i hi => if_neg (by omega)) (if_neg (by omega)) (fun _ => rfl)
    · subst hj
      exact hat.move hsc (by simp)
  · rcases hcase j x hx with ⟨hj, hx⟩ | ⟨hj, rfl⟩
    · simp only [if_neg (show ¬ j = σ.length by omega)]; exact h.lt j x hx hl
    · subst hj; simp only [if_true]; exact hlt
  · rcases hcase j1 b1 h1 with ⟨e1, g1⟩ | ⟨e1, rfl⟩ <;> rcases hcase j2 b2 h2 with ⟨e2, g2⟩ | ⟨e2, rfl⟩
    · simp only [if_neg (show ¬ j1 = σ.length by omega), if_neg (show ¬ j2 = σ.length by omega)] at he; exact h.inj j1 j2 b1 b2 g1 g2 l1 l2 hq he
    · subst e2; simp only [if_neg (show ¬ j1 = σ.length by omega), if_true] at he; exact absurd he (hn j1 b1 g1 l1)
    · subst e1; simp only [if_neg (show ¬ j2 = σ.length by omega), if_true] at he; exact absurd he.symm (hn j2 b2 g2 l2)
    · omega
  · rw [List.length_append]
    rcases hcase j x hx with ⟨_, hx⟩ | ⟨_, rfl⟩
    · exact mono (Nat.le_add_right _ _) (h.sc j x hx)
    · exact mono (Nat.zero_le _) hsc
  · rcases hcase j x hx with ⟨hj, hx⟩ | ⟨hj, rfl⟩
    · simp only [if_neg (show ¬ j = σ.length by omega)]; exact h.wr j x hx hr
    · subst hj; simp only [if_true]; exact .inr hb

/-- a value that points to one block at most, and that block -/
def newK : V → List Blk → Option (V × Option Blk) := fun v σ =>
  match v.fstB with
  | some b => bif v.only b then (match σ[b]? with | some x => some (v.mv (fun _ => 0), some x) | none => none) else none
  | none => bif v.sc 0 then some (v, none) else none
/-- a function of values that hands out a block that it made, or none -/
def mkNew (k : FuncId) (F : List V → Option (Bool × V × Option Blk))
    (h : ∀ args v ob, F args = some (true, v, ob) → (∀ blk, ob = some blk → blk.rw = true ∧ blk.sc 0 = true ∧ v.sc 1 = true) ∧ (ob = none → v.sc 0 = true) ∧
      ∀ (B : Base) (ρ : Rho) (w : World), Rel B ρ [] w → Calls P k (reals ρ args).toArray w fun e w' => ∃ x, e = .returned x ∧ After B ρ [] newK (v, ob) x w') : Summ P where
  k := k
  pure := false
  f := fun args σ =>
    match F (args.map flat) with
    | some (ok, v, some blk) => some (ok, v.mv (fun _ => σ.length), σ ++ [blk])
    | some (ok, v, none) => some (ok, v, σ)
    | none => none
  touch := fun _ => []
  keep := by
    intro args σ v σ' hf b hb ht
    split at hf
    · simp only [Option.some.injEq, Prod.mk.injEq] at hf; obtain ⟨_, _, rfl⟩ := hf
      rw [List.getElem?_append_left hb]
    · simp only [Option.some.injEq, Prod.mk.injEq] at hf; obtain ⟨_, _, rfl⟩ := hf; rfl
    · cases hf
  ok := by
    intro args σ v σ' hf hs
    split at hf
    · rename_i ok v0 blk hF
      simp only [Option.some.injEq, Prod.mk.injEq] at hf
      obtain ⟨rfl, rfl, rfl⟩ := hf
      obtain ⟨g1, _, g2⟩ := h _ _ _ hF
      obtain ⟨grw, gsc, gv⟩ := g1 blk rfl
      refine ⟨by simp, V.mv_sc (fun i _ => by simp) v0 gv, fun hp => (by cases hp), fun B ρ w hr _ => ?_⟩
      rw [← flats_real]
      refine (g2 ⟨w, noS⟩ ρ w (Rel.empty ρ w noS)).mono ?_
      rintro e w' ⟨x, rfl, u, σ1, ρ1, rfl, _, _, hr1, hu, hk⟩
      unfold newK at hk
      split at hk
      · rename_i b hb
        cases ho : u.only b with
        | false => rw [ho] at hk; cases hk
        | true =>
          rw [ho, cond_true] at hk
          cases hbk : σ1[b]? with
          | none => rw [hbk] at hk; cases hk
          | some y =>
          rw [hbk] at hk
          simp only [Option.some.injEq, Prod.mk.injEq] at hk
          obtain ⟨rfl, hy⟩ := hk
          subst hy
          have hlive : y.live = true := by cases y <;> simp_all [Blk.rw, Blk.live]
          have hnew : w.heap.size ≤ (ρ1 b).1 := by
            rcases hr1.wr b y hbk grw with hh | hh
            · exact hh.elim
            · exact hh
          refine ⟨fun i => if i = σ.length then ρ1 b else ρ i, fun i hi => if_neg (by omega), ?_, ?_⟩
          · rw [V.mv_real, V.mv_real]
            simp only [if_true]
            rw [V.only_real ρ1 u ho]
          · refine (hr.frame hr1.keeps).extend gsc (Nat.le_trans hr.keeps.size hnew) (hr1.lt b y hbk hlive) (fun i bi hi hl he => ?_) ?_
            · have := hr.lt i bi hi hl
              rw [he] at this; omega
            · exact (hr1.at_ b y hbk).move gsc rfl
      · cases hc : u.sc 0 with
        | false => rw [hc] at hk; cases hk
        | true => rw [hc, cond_true] at hk; simp at hk
    · rename_i ok v0 hF
      simp only [Option.some.injEq, Prod.mk.injEq] at hf
      obtain ⟨rfl, rfl, rfl⟩ := hf
      obtain ⟨_, g1, g2⟩ := h _ _ _ hF
      have gv := g1 rfl
      refine ⟨Nat.le_refl _, V.sc_mono (Nat.zero_le _) _ gv, fun hp => (by cases hp), fun B ρ w hr _ => ?_⟩
      rw [← flats_real]
      refine (g2 ⟨w, noS⟩ ρ w (Rel.empty ρ w noS)).mono ?_
      rintro e w' ⟨x, rfl, u, σ1, ρ1, rfl, _, _, hr1, hu, hk⟩
      unfold newK at hk
      split at hk
      · rename_i b hb
        cases ho : u.only b with
        | false => rw [ho] at hk; cases hk
        | true =>
          rw [ho, cond_true] at hk
          split at hk <;> simp at hk
      · cases hc : u.sc 0 with
        | false => rw [hc] at hk; cases hk
        | true =>
          rw [hc, cond_true] at hk
          simp only [Option.some.injEq, Prod.mk.injEq] at hk
          obtain ⟨rfl, _⟩ := hk
          exact ⟨ρ, fun _ _ => rfl, by rw [V.real_ext (n := 0) (ρ := ρ) (fun i hi => by omega) u gv], hr.frame hr1.keeps⟩
    · cases hf

/-! ### a call, cut in many parts -/
/-- how a body may end: it leaves these results -/
def Fin {R : Type} (P : Program) (k : FuncId) (kk : V → List Blk → Option R) (B : Base) (nt : Nat) (ρ0 : Rho) (n0 : Nat) (r : R) : Exit → Act → World → Prop := fun e a w =>
  ∃ x, ExM x e ∧ ∃ env σ ρ, (∀ i, i < n0 → ρ i = ρ0 i) ∧ n0 ≤ σ.length ∧ Rel B ρ σ w ∧ EnvOK ρ σ.length nt env a ∧ leaveOf P k kk x env σ = some r
section
variable {R : Type} {Γ : List (Summ P)} {H : List (Nat × V)} {n nt : Nat} {B : Base} {ρ0 : Rho} {n0 : Nat} {live live' : List Nat} {vs vs' : List V} {σ σ' : List Blk} {kk : V → List Blk → Option R} {r : R}
theorem call_go (hN : NamesOK P) (hM : P.follows .mixedOrders = true) {k : FuncId} (hb : hasBody P k = true) (p : List Nat) {args : List V} {σ0 σ1 : List Blk}
    (h1 : evTo P Γ n H (ntOf P k args) p (bodyOf P k) (envOf args 0) σ0 (Kt live) = some (.tup vs, σ1))
    (hl : ∀ (B : Base) (ρ0 : Rho) (a : Act) (w : World), St B ρ0 σ0.length (ntOf P k args) live vs σ1 a w → (sub p (bodyOf P k)).wp P (Qat P p (bodyOf P k) (Fin P k kk B (ntOf P k args) ρ0 σ0.length r)) a w)
    {B : Base} {ρ : Rho} {w : World} (hr : Rel B ρ σ0 w) (hs : scs σ0.length args = true) :
    Calls P k (reals ρ args).toArray w fun e w' => ∃ v, e = .returned v ∧ After B ρ σ0 kk r v w' := by
  obtain ⟨fn, hf, hbd⟩ := hasBody_spec hb
  obtain ⟨c, hc⟩ := Option.isSome_iff_exists.1 hbd
  have eb : bodyOf P k = c := by unfold bodyOf; rw [hf]; simp only [hc]
  have en : ntOf P k args = args.length + (fn.ntmps - args.length) := by unfold ntOf; rw [hf]
  have el : leaveOf P k kk = leave P fn kk := by unfold leaveOf; rw [hf]
  rw [eb, en] at h1
  rw [eb, en] at hl
  refine calls_of_wp hf hc ?_
  have hwp : c.wp P (Fin P k kk B (args.length + (fn.ntmps - args.length)) ρ σ0.length r) { tmps := (reals ρ args).toArray ++ Array.replicate (fn.ntmps - (reals ρ args).toArray.size) undef, defers := [] } w := by
    refine evTo_sound hN hM p c (envOf args 0) σ0 ρ { tmps := (reals ρ args).toArray ++ Array.replicate (fn.ntmps - (reals ρ args).toArray.size) undef, defers := [] } w _ h1 hr (envOf_ok hs) ?_
    rintro a' w' ⟨env', σ', ρ', g1, g2, g3, g4, g5⟩
    simp only [Kt, Option.some.injEq, Prod.mk.injEq, V.tup.injEq] at g5
    obtain ⟨g5, rfl⟩ := g5
    exact hl B ρ a' w' ⟨ρ', env', g2, g1, g3, g4, g5⟩
  refine wp_mono hwp ?_
  rintro e a' w' ⟨x, hx, env', σ', ρ', h2, h1, h3, h4, h5⟩
  rw [el] at h5
  have good : (x = .normal ∨ x = .ret) → a'.defers = [] ∧ ∃ v, (results fn a'.tmps).run P w' = .ok v w' ∧ ∃ u, (Ending.returned v) = .returned u ∧ After B ρ σ0 kk r u w' := by
    intro hx'
    have h6 : (match evResults P fn env' σ' with | some v => kk v σ' | none => none) = some r := by
      rcases hx' with rfl | rfl <;> exact h5
    split at h6
    · rename_i v hv
      obtain ⟨g1, g2⟩ := evResults_sound h3 h4 hv
      exact ⟨h4.def_, _, g1, _, rfl, v, σ', ρ', rfl, h1, h2, h3, g2, h6⟩
    · cases h6
  have fin : ∀ i, x = .exit i → False := by
    intro i hi; subst hi; cases h5
  cases e with
  | normal => exact good (by cases x <;> simp_all [ExM])
  | ret => exact good (by cases x <;> simp_all [ExM])
  | exit i => cases x <;> simp_all [ExM]
  | goto l => cases x <;> simp_all [ExM]
  | panic ch => cases x <;> simp_all [ExM]
  | outgrown => cases x <;> simp_all [ExM]
/-- on to a place -/
theorem go_on (hN : NamesOK P) (hM : P.follows .mixedOrders = true) (p : List Nat) {c : Code} {Q : Exit → Act → World → Prop}
    (h1 : ∀ rest, evTo P Γ n H nt p c (zipE live vs rest) σ (Kt live') = some (.tup vs', σ'))
    {a : Act} {w : World} (hs : St B ρ0 n0 nt live vs σ a w) (hl : ∀ a w, St B ρ0 n0 nt live' vs' σ' a w → (sub p c).wp P (Qat P p c Q) a w) : c.wp P Q a w := by
  obtain ⟨ρ, env, g1, g2, g3, g4, g5⟩ := hs
  refine evTo_sound hN hM p c _ σ ρ a w Q (h1 env) g3 (g4.of_get (zipE_get live vs env g5)) ?_
  rintro a' w' ⟨env', σ2, ρ', k1, k2, k3, k4, k5⟩
  simp only [Kt, Option.some.injEq, Prod.mk.injEq, V.tup.injEq] at k5
  obtain ⟨k5, rfl⟩ := k5
  exact hl a' w' ⟨ρ', env', fun i hi => by rw [k2 i (Nat.lt_of_lt_of_le hi g2), g1 i hi], Nat.le_trans g2 k1, k3, k4, k5⟩
/-- a part, and what follows it -/
theorem then_on {c : Code} {Q : Exit → Act → World → Prop} {a : Act} {w : World} (h : c.wp P (fun e a' w' => e = .normal ∧ St B ρ0 n0 nt live vs σ a' w') a w) (hl : ∀ a w, St B ρ0 n0 nt live vs σ a w → Q .normal a w) : c.wp P Q a w := by
  refine wp_mono h ?_
  rintro e a' w' ⟨rfl, hs⟩
  exact hl a' w' hs
/-- from behind a place to the end -/
theorem end_at (hN : NamesOK P) (hM : P.follows .mixedOrders = true) {k : FuncId} (p : List Nat) {c : Code}
    (h : ∀ rest, evFrom P Γ n H nt p c (zipE live vs rest) σ (leaveOf P k kk) = some r) {a : Act} {w : World} (hs : St B ρ0 n0 nt live vs σ a w) :
    Qat P p c (Fin P k kk B nt ρ0 n0 r) .normal a w := by
  obtain ⟨ρ, env, g1, g2, g3, g4, g5⟩ := hs
  refine evFrom_sound hN hM p c _ _ σ ρ a w _ (h env) g3 (g4.of_get (zipE_get live vs env g5)) ?_
  rintro e a' w' ⟨x, hx, env', σ2, ρ', k1, k2, k3, k4, k5⟩
  exact ⟨x, hx, env', σ2, ρ', fun i hi => by rw [k2 i (Nat.lt_of_lt_of_le hi g2), g1 i hi], Nat.le_trans g2 k1, k3, k4, k5⟩
/-- the rest, to the end -/
theorem end_all (hN : NamesOK P) (hM : P.follows .mixedOrders = true) {k : FuncId} {c : Code}
    (h : ∀ rest, ev P Γ n H nt c (zipE live vs rest) σ (leaveOf P k kk) = some r) {a : Act} {w : World} (hs : St B ρ0 n0 nt live vs σ a w) :
    c.wp P (Fin P k kk B nt ρ0 n0 r) a w := by
  obtain ⟨ρ, env, g1, g2, g3, g4, g5⟩ := hs
  refine wp_mono (ev_sound hN hM n H nt c _ σ _ _ (h env) B ρ a w g3 (g4.of_get (zipE_get live vs env g5))) ?_
  rintro e a' w' ⟨x, hx, env', σ2, ρ', k1, k2, k3, k4, k5⟩
  exact ⟨x, hx, env', σ2, ρ', fun i hi => by rw [k2 i (Nat.lt_of_lt_of_le hi g2), g1 i hi], Nat.le_trans g2 k1, k3, k4, k5⟩
end
/-! ### what is of no more use is forgotten -/
theorem Rel.drop {B : Base} {ρ : Rho} {σ τ : List Blk} {w : World} (h : Rel B ρ (σ ++ τ) w) (hs : ∀ b ∈ σ, b.sc σ.length = true) : Rel B ρ σ w := by
  have up : ∀ (i : Nat) (b : Blk), σ[i]? = some b → (σ ++ τ)[i]? = some b := fun i b hb => by
    rw [List.getElem?_append_left (List.getElem?_eq_some_iff.1 hb).1]; exact hb
  exact ⟨fun i b hb => h.at_ i b (up i b hb), fun i b hb => h.lt i b (up i b hb), fun i j bi bj hi hj => h.inj i j bi bj (up i bi hi) (up j bj hj), fun i b hb => hs b (List.mem_of_getElem? hb), fun i b hb => h.wr i b (up i b hb), h.keeps⟩
def rawEnv (a : Act) : Env := (List.range a.tmps.size).map fun t => (t, V.raw (a.tmps.getD t undef))
theorem get_map_range (f : Nat → V) (t : Nat) : ∀ (n i : Nat), Env.get ((List.range' i n).map fun t => (t, f t)) t = if i ≤ t ∧ t < i + n then f t else .tup []
  | 0, i => by
    simp only [List.range', List.map_nil, Env.get]
    rw [if_neg (by omega)]
  | n + 1, i => by
    simp only [List.range'_succ, List.map_cons, Env.get]
    cases hb : Nat.beq i t with
    | true =>
      have := Nat.eq_of_beq_eq_true hb
      subst this
      rw [if_pos (by omega)]; rfl
    | false =>
      have hne : i ≠ t := fun e => by subst e; simp at hb
      rw [cond_false, get_map_range f t n (i + 1)]
      by_cases h : i ≤ t ∧ t < i + (n + 1)
      · rw [if_pos h, if_pos (by omega)]
      · rw [if_neg h, if_neg (by omega)]
theorem rawEnv_get (a : Act) (t : Nat) : (rawEnv a).get t = if t < a.tmps.size then .raw (a.tmps.getD t undef) else .tup [] := by
  unfold rawEnv
  rw [List.range_eq_range', get_map_range (fun t => V.raw (a.tmps.getD t undef)) t a.tmps.size 0]
  simp
theorem zipE_in (env r : Env) : ∀ (live : List Nat) (vs : List V), live.map env.get = vs → ∀ t, (zipE live vs r).get t = if t ∈ live then env.get t else r.get t
  | [], vs, h, t => by simp [zipE]
  | s :: ts, [], h, t => by simp at h
  | s :: ts, v :: vs, h, t => by
    simp only [List.map_cons, List.cons.injEq] at h
    simp only [zipE, Env.get]
    cases hb : Nat.beq s t with
    | true => have := Nat.eq_of_beq_eq_true hb; subst this; simp [h.1]
    | false =>
      have hne : t ≠ s := fun e => by subst e; simp at hb
      rw [cond_false, zipE_in env r ts vs h.2 t]
      simp [hne]
section
variable {R : Type} {Γ : List (Summ P)} {H : List (Nat × V)} {n nt : Nat} {B : Base} {ρ0 : Rho} {n0 : Nat} {live live' : List Nat} {vs vs' : List V} {σ σ' τ : List Blk}
theorem St.forget {a : Act} {w : World} (h : St B ρ0 n0 nt live vs (σ ++ τ) a w) (hv : scs σ.length vs = true) (hb : (σ.all fun b => b.sc σ.length) = true) (hn : n0 ≤ σ.length) : St B ρ0 n0 nt live vs σ a w := by
  obtain ⟨ρ, env, h1, h2, h3, h4, h5⟩ := h
  have hg := zipE_in env (rawEnv a) live vs h5
  refine ⟨ρ, zipE live vs (rawEnv a), h1, hn, h3.drop (List.all_eq_true.1 hb), ⟨h4.size, fun t => ?_, fun t => ?_, h4.def_⟩, ?_⟩
  · rw [hg]
    by_cases ht : t ∈ live
    · rw [if_pos ht]; exact h4.val t
    · rw [if_neg ht, rawEnv_get]
      by_cases hs : t < a.tmps.size
      · rw [if_pos hs]; simp [V.real]
      · rw [if_neg hs]
        rw [Array.getD_eq_getD_getElem?, Array.getElem?_eq_none (by omega)]
        simp [V.real, undef, reals]
  · rw [hg]
    by_cases ht : t ∈ live
    · rw [if_pos ht]
      exact (scs_iff _ _).1 hv _ (by rw [← h5]; exact List.mem_map.2 ⟨t, ht, rfl⟩)
    · rw [if_neg ht, rawEnv_get]
      split <;> rfl
  · rw [← h5]
    refine List.map_congr_left (fun t ht => ?_)
    rw [h5, hg, if_pos ht]
/-- a list of slots that is longer tells of a shorter one -/
theorem St.some {a : Act} {w : World} (h : St B ρ0 n0 nt live vs σ a w) (hf : ∀ env : Env, live.map env.get = vs → live'.map env.get = vs') : St B ρ0 n0 nt live' vs' σ a w := by
  obtain ⟨ρ, env, h1, h2, h3, h4, h5⟩ := h
  exact ⟨ρ, env, h1, h2, h3, h4, hf env h5⟩
/-- a loop, turn by turn: so many turns, and the one that leaves -/
theorem loop_st {id : Nat} {body : Code} {Q : Exit → Act → World → Prop} (N : Nat) (I : Nat → Act → World → Prop)
    (step : ∀ j, j < N → ∀ a w, I j a w → body.wp P (fun e a' w' => e = .normal ∧ I (j + 1) a' w') a w)
    (last : ∀ a w, I N a w → body.wp P (fun e a' w' => e ≠ .normal ∧ Exit.inBlock id Q e a' w') a w) {a : Act} {w : World} (hs : I 0 a w) :
    (Code.block id (.loop body)).wp P Q a w := by
  refine wp_block (wp_loop_rounds (N + 1) ?_)
  have key : ∀ (d j : Nat), j + d = N → ∀ a w, I j a w → Code.rounds P body (Exit.inBlock id Q) (d + 1) a w := by
    intro d
    induction d with
    | zero =>
      intro j hj a w hs
      have : j = N := by omega
      subst this
      rw [rounds_succ]
      refine wp_mono (last a w hs) ?_
      rintro e a' w' ⟨he, hs'⟩
      cases e <;> first | exact absurd rfl he | exact hs'
    | succ d ih =>
      intro j hj a w hs
      rw [rounds_succ]
      refine wp_mono (step j (by omega) a w hs) ?_
      rintro e a' w' ⟨rfl, hs'⟩
      exact ih (j + 1) (by omega) a' w' hs'
  exact key N 0 (by omega) a w hs
end
end
end Go.R

import Derived.Test.YtkhlghlmmnemeaaPqA
set_option linter.unusedVariables false
set_option linter.unusedSimpArgs false
namespace Go.Proofs.Ytkhlghlmmnemeaa
open Go Go.R
/-! ### small functions of the sound -/
def lfoF (f : Nat → Int) : Int := if bt 128 (f 3) = true then 0 else f 3 % 4
theorem plfo_eq (f : Nat → Int) : evCall Try.prog [] 300 40 [.ptr 0 0] [.ints 32 .i64 244 f] (fun v σ => some (v, σ)) = some (.int .i64 (lfoF f), [.ints 32 .i64 244 f]) := by
  rw [plfo_ev, (bt128 (f 3)).2, and_m2]
  unfold lfoF
  cases bt 128 (f 3) <;> rfl
theorem local_of {Γ : List (Summ Try.prog)} {H : List (Nat × V)} {n : Nat} {k : FuncId} {args : List V} {blk : Blk} {v : V} {blk' : Blk} {g : List Blk → List Blk} (hg : ∀ σ, (g σ)[0]? = σ[0]?) (hs : scs 1 args = true)
    (h : evCallH Try.prog Γ H n k args [blk] (fun v σ => some (v, g σ)) = some (v, [blk'])) (B : Base) (ρ : Rho) (w : World) (hr : Rel B ρ [blk] w) :
    Calls Try.prog k (reals ρ args).toArray w fun e w' => ∃ x, e = .returned x ∧ After B ρ [blk] (fun v σ => some (v, σ[0]?)) (v, some blk') x w' := by
  refine (evCallH_sound hN hM h hr hs).mono ?_
  rintro e w' ⟨x, rfl, u, σ', ρ', h1, h2, h3, h4, h5, h6⟩
  simp only [Option.some.injEq, Prod.mk.injEq] at h6
  obtain ⟨rfl, h6⟩ := h6
  refine ⟨x, rfl, u, σ', ρ', h1, h2, h3, h4, h5, ?_⟩
  have := hg σ'
  rw [h6] at this
  show some (u, σ'[0]?) = _
  rw [← this]; rfl
def sLfo : Summ Try.prog := mkLocal 40 (fun args blk => match args, blk with | [.ptr 0 0], .ints 32 .i64 244 f => some (true, .int .i64 (lfoF f), .ints 32 .i64 244 f) | _, _ => none) (by
  intro args blk v blk' h; split at h
  · simp only [Option.some.injEq, Prod.mk.injEq, true_and] at h; obtain ⟨rfl, rfl⟩ := h
    exact ⟨rfl, rfl, rfl, rfl, rfl, local_of (Γ := []) (H := []) (n := 300) (g := fun σ => σ) (fun _ => rfl) rfl (plfo_eq _)⟩
  · cases h)
def sSteps : Summ Try.prog := mkPure [] hN hM 46 300 (fun args => match args with | [.aggi .i64 1 g, .int .i64 a] => some (decide (0 < g 0) && (decide (0 ≤ a) && decide (a < 4611686018427387904)), .tup [.int .i64 (a / g 0), .int .i64 (a % g 0)]) | _ => none) (by
  intro args v h; split at h
  · simp only [Option.some.injEq, Prod.mk.injEq, Bool.and_eq_true, decide_eq_true_eq] at h; obtain ⟨⟨h1, h2, h3⟩, rfl⟩ := h
    refine ⟨rfl, rfl, [], (steps_ev _ _).trans ?_⟩
    rename_i g a
    generalize g 0 = t at h1 ⊢
    have e1 : (!t == 0) = true := by simp; omega
    have e2 : a / t ≤ a := Int.ediv_le_self _ h2
    have e3 : 0 ≤ a / t := Int.ediv_nonneg h2 (by omega)
    rw [e1, tdiv_pos h2, tmod_pos h2, wrap_id (by omega) (by omega)]; rfl
  · cases h)
def valF (f : Nat → Int) (o : Nat) (nz : Bool) : Int := if bt 64 (f (o + 1)) = true then f (o + 39) else if nz = true then Nz.nst (f (o + 38)) % 2 * 31 else f (o + 4 + (f (o + 36)).toNat)
theorem value_eq {f : Nat → Int} {o : Nat} (ho : o + 40 ≤ 244) (h0 : 0 ≤ f (o + 36)) (h1 : f (o + 36) < 32) (t : Int) (nz : Bool) :
    evCall Try.prog [Nz.sOut] 300 41 [.agg [.int .i64 t, .ptr 0 o, .bool nz]] [.ints 32 .i64 244 f] (fun v σ => some (v, σ.take 1)) = some (.int .i64 (valF f o nz), [.ints 32 .i64 244 f]) := by
  rw [value_ev, (bt64 _).2]
  have hf : ∀ n, n ≤ 244 → n.ble 244 = true := fun n hn => by simpa using hn
  rw [hf _ (by omega), hf _ (by omega), hf _ (by omega), hf _ (by omega), hf _ (by rw [scaled_eq]; omega), show inR (f (o + 36)) 32 = true by simp [inR]; omega, scaled_eq, Nat.mul_one]
  unfold valF
  cases bt 64 (f (o + 1)) <;> cases nz <;> rfl
def sValue : Summ Try.prog := mkLocal 41 (fun args blk => match args, blk with | [.agg [.int .i64 t, .ptr 0 o, .bool nz]], .ints 32 .i64 244 f => some (decide (o + 40 ≤ 244) && (decide (0 ≤ f (o + 36)) && decide (f (o + 36) < 32)), .int .i64 (valF f o nz), .ints 32 .i64 244 f) | _, _ => none) (by
  intro args blk v blk' h; split at h
  · simp only [Option.some.injEq, Prod.mk.injEq, Bool.and_eq_true, decide_eq_true_eq] at h; obtain ⟨⟨h1, h2, h3⟩, rfl, rfl⟩ := h
    exact ⟨rfl, rfl, rfl, rfl, rfl, local_of (Γ := [Nz.sOut]) (H := []) (n := 300) (g := fun σ => σ.take 1) (fun σ => by cases σ <;> rfl) rfl (value_eq h1 h2 h3 _ _)⟩
  · cases h)
end Go.Proofs.Ytkhlghlmmnemeaa

/-
  The evaluator's proof: what it tells of a call, the call comes to ('evCall_sound').
-/
import Derived.Test.YtabfnphbbdklgaaDoorR0
import Derived.ProofKit
import Derived.OpenShut
import Derived.ChangeOld
import Derived.Carry
import Derived.SizedLaws
set_option linter.unusedVariables false
set_option linter.unusedSimpArgs false
namespace Go.R
open Go

section
variable {R : Type} {P : Program}

/-- what follows an operation: the memory has grown, this value is handed on -/
def After (B : Base) (ρ : Rho) (σ : List Blk) (k : V → List Blk → Option R) (r : R) (v : Value) (w' : World) : Prop :=
  ∃ u σ' ρ', v = V.real ρ' u ∧ σ.length ≤ σ'.length ∧ (∀ i, i < σ.length → ρ' i = ρ i) ∧ Rel B ρ' σ' w' ∧ u.sc σ'.length = true ∧ k u σ' = some r

/-- the calls that an evaluator takes are right -/
def CallsOK (P : Program) (callR : FuncId → List V → List Blk → (V → List Blk → Option R) → Option R) : Prop :=
  ∀ k args σ kk r, callR k args σ kk = some r → ∀ B ρ w, Rel B ρ σ w → scs σ.length args = true →
    Calls P k (reals ρ args).toArray w fun e w' => ∃ v, e = .returned v ∧ After B ρ σ kk r v w'

theorem run_callFunc {k : FuncId} {fn : Func} (hf : P.funcs[k]? = some fn) (hb : fn.body.isSome = true) (hn : (fn.name == "runtime.NumGoroutine") = false) (args : Array Value) (w : World) :
    (callFunc k args).run P w = .ok (.enter k args) w := by
  unfold callFunc
  rw [run_bind_ok (show (program).run P w = .ok P w from rfl)]
  simp only [hf, hn, Bool.false_eq_true, if_false]
  cases h : fn.body with
  | none => rw [h] at hb; cases hb
  | some c => rfl

/-- names, once for a program -/
def NamesOK (P : Program) : Prop := ∀ (k : FuncId) (fn : Func), P.funcs[k]? = some fn → (fn.name == "runtime.NumGoroutine") = false
theorem hasBody_spec {k : FuncId} (h : hasBody P k = true) : ∃ fn, P.funcs[k]? = some fn ∧ fn.body.isSome = true := by
  unfold hasBody at h
  split at h
  · rename_i fn hf; exact ⟨fn, hf, h⟩
  · cases h
theorem upon_of_run {o : Oper} {a : Act} {w w' : World} {v : Value} {next : Act → World → Prop} {Q : Exit → Act → World → Prop} (h : (execOp a.eval o).run P w = .ok (.value v) w') (hn : next (a.put o.dst v) w') : o.wp P a w next Q := by
  unfold Oper.wp; rw [h]; exact hn
theorem upon_of_skip {o : Oper} {a : Act} {w w' : World} {next : Act → World → Prop} {Q : Exit → Act → World → Prop} (h : (execOp a.eval o).run P w = .ok .skip w') (hn : next (a.put o.dst undef) w') : o.wp P a w next Q := by
  unfold Oper.wp; rw [h]; exact hn

theorem evRest_sound {B : Base} {ρ : Rho} {σ : List Blk} {w : World} {nt : Nat} {env : Env} {a : Act} {o : Oper} {k : V → List Blk → Option R} {r : R}
    (h : evRest P o.op env σ k = some r) (hr : Rel B ρ σ w) (he : EnvOK ρ σ.length nt env a) {next : Act → World → Prop} {Q : Exit → Act → World → Prop}
    (hn : ∀ v w', After B ρ σ k r v w' → next (a.put o.dst v) w') : o.wp P a w next Q := by
  unfold evRest at h
  split at h
  · rename_i ok v hp
    cases ok with
    | false => cases h
    | true =>
      rw [cond_true] at h
      obtain ⟨h1, h2⟩ := pure2_sound hp hr he
      exact upon_of_run h1 (hn _ _ ⟨v, σ, ρ, rfl, Nat.le_refl _, fun _ _ => rfl, hr, h2, h⟩)
  · split at h
    · rename_i ok v σ' hp
      cases ok with
      | false => cases h
      | true =>
        rw [cond_true] at h
        obtain ⟨h1, h2, ρ', w', h3, h4, h5⟩ := eff_sound hp hr he
        rcases h5 with h5 | ⟨h5, h6⟩
        · exact upon_of_run h5 (hn _ _ ⟨v, σ', ρ', rfl, h1, h3, h4, h2, h⟩)
        · exact upon_of_skip h5 (hn _ _ ⟨v, σ', ρ', h6.symm, h1, h3, h4, h2, h⟩)
    · cases h

theorem evOper_sound {callR : FuncId → List V → List Blk → (V → List Blk → Option R) → Option R} (hN : NamesOK P) (hC : CallsOK P callR)
    {B : Base} {ρ : Rho} {σ : List Blk} {w : World} {nt : Nat} {env : Env} {a : Act} {o : Oper} {k : V → List Blk → Option R} {r : R}
    (h : evOper P callR o.op env σ k = some r) (hr : Rel B ρ σ w) (he : EnvOK ρ σ.length nt env a) {next : Act → World → Prop} {Q : Exit → Act → World → Prop}
    (hn : ∀ v w', After B ρ σ k r v w' → next (a.put o.dst v) w') : o.wp P a w next Q := by
  unfold evOper at h
  split at h
  · rename_i c x y hop
    split at h
    · rename_i g va vb h1 h2 h3
      obtain ⟨e1, _⟩ := opr_spec he h1
      obtain ⟨e2, s2⟩ := opr_spec he h2
      obtain ⟨e3, s3⟩ := opr_spec he h3
      have hrun : (execOp a.eval o).run P w = .ok (.value (if g then va.real ρ else vb.real ρ)) w := by
        simp only [execOp, hop, e1, e2, e3, V.real]
        rfl
      cases g with
      | true => exact upon_of_run hrun (hn _ _ ⟨va, σ, ρ, rfl, Nat.le_refl _, fun _ _ => rfl, hr, s2, h⟩)
      | false => exact upon_of_run hrun (hn _ _ ⟨vb, σ, ρ, rfl, Nat.le_refl _, fun _ _ => rfl, hr, s3, h⟩)
    · cases h
  · rename_i c hop
    split at h
    · rename_i f hc
      split at h
      · rename_i fid cap as h1 h2
        cases hbd : hasBody P fid with
        | false => rw [hbd] at h; cases h
        | true =>
        rw [hbd, cond_true] at h
        obtain ⟨fn, hf, hfb⟩ := hasBody_spec hbd
        obtain ⟨e1, s1⟩ := opr_spec he h1
        obtain ⟨e2, s2⟩ := oprs_spec he h2
        have hsc : scs σ.length (as ++ cap) = true := by
          rw [scs_iff]
          intro v hv
          rcases List.mem_append.1 hv with hv | hv
          · exact (scs_iff _ _).1 s2 v hv
          · exact (scs_iff _ _).1 (by simpa [V.sc] using s1) v hv
        have hcall := hC fid (as ++ cap) σ k r h B ρ w hr hsc
        have hargs : c.args.map a.eval ++ (reals ρ cap).toArray = (reals ρ (as ++ cap)).toArray := by
          apply Array.ext'
          simp only [Array.toList_append, Array.toList_map, e2, reals_eq, List.map_append]
        have hrun : (execOp a.eval o).run P w = .ok (.enter fid (reals ρ (as ++ cap)).toArray) w := by
          simp only [execOp, hop, resolve, hc, e1, V.real, Deferred.ofValue]
          simp only [bind, Sem.bind, pure, invoke, Array.empty_append]
          rw [hargs]
          exact run_callFunc hf hfb (hN fid fn hf) _ w
        unfold Oper.wp
        rw [hrun]
        simp only [Oper.upon]
        refine hcall.mono ?_
        rintro e w' ⟨v, rfl, hv⟩
        exact hn _ _ hv
      · cases h
    · exact evRest_sound h hr he hn
  · exact evRest_sound h hr he hn

theorem yielded_of {ρ : Rho} {n nt : Nat} {env : Env} {a : Act} (he : EnvOK ρ n nt env a) {ops : Array Oper} {j d : Nat} (hd : (ops[j]?).bind (·.dst) = some d) {b : Bool} (hb : env.get d = .bool b) : yielded ops a.tmps j = some b := by
  unfold yielded
  rw [hd]
  have h1 := he.val d
  rw [hb] at h1
  simp only [V.real] at h1
  have h2 : a.tmps[d]? = some (.bool b) := by
    rw [Array.getD_eq_getD_getElem?] at h1
    cases h : a.tmps[d]? with
    | none => rw [h] at h1; simp [undef] at h1
    | some x => rw [h] at h1; simpa using h1
  simp only [Option.bind_some, h2]
theorem yielded_not {ρ : Rho} {n nt : Nat} {env : Env} {a : Act} (he : EnvOK ρ n nt env a) {ops : Array Oper} {j d : Nat} (hd : (ops[j]?).bind (·.dst) = some d) (hb : ∀ b, env.get d = .bool b → False) (hx : ∀ x, env.get d = .raw x → False) : yielded ops a.tmps j = none := by
  unfold yielded
  rw [hd]
  have h1 := he.val d
  simp only [Option.bind_some]
  cases h : a.tmps[d]? with
  | none => rfl
  | some x =>
    rw [Array.getD_eq_getD_getElem?, h, Option.getD_some] at h1
    subst h1
    generalize env.get d = v at hb hx
    cases v <;> first | rfl | exact (hb _ rfl).elim | exact (hx _ rfl).elim
theorem EnvOK.same {ρ : Rho} {n nt : Nat} {env : Env} {a : Act} (he : EnvOK ρ n nt env a) {d : Nat} {v : V} (h : env.get d = v) : EnvOK ρ n nt ((d, v) :: env) a := by
  have : ∀ t, Env.get ((d, v) :: env) t = env.get t := by
    intro t
    simp only [Env.get]
    cases hb : Nat.beq d t with
    | true => have := Nat.eq_of_beq_eq_true hb; subst this; exact h.symm
    | false => rfl
  exact ⟨he.size, fun t => by rw [this]; exact he.val t, fun t => by rw [this]; exact he.sc t, he.def_⟩

/-- a guard: which way it goes -/
theorem guardK_sound {ρ : Rho} {n nt : Nat} {env : Env} {a : Act} {ops : Array Oper} {o : Oper} {yes no : Env → Option R} {r : R} (h : guardK ops.toList o.guard env yes no = some r) (he : EnvOK ρ n nt env a) :
    (Region.wanted o (yielded ops a.tmps) = true ∧ ∃ env', EnvOK ρ n nt env' a ∧ yes env' = some r) ∨ (Region.wanted o (yielded ops a.tmps) = false ∧ ∃ env', EnvOK ρ n nt env' a ∧ no env' = some r) := by
  unfold guardK at h
  unfold Region.wanted
  split at h
  · rename_i hg; rw [hg]; exact .inl ⟨rfl, env, he, h⟩
  · rename_i j want hg
    rw [hg]
    simp only
    split at h
    · cases h
    · rename_i d hd
      have hd' : (ops[j]?).bind (·.dst) = some d := by simpa using hd
      split at h
      · rename_i b hb
        have hy := yielded_of he hd' hb
        rw [hy]
        cases b <;> cases want <;> simp only [cond_true, cond_false] at h
        · exact .inl ⟨rfl, _, he.same hb, h⟩
        · exact .inr ⟨rfl, _, he.same hb, h⟩
        · exact .inr ⟨rfl, _, he.same hb, h⟩
        · exact .inl ⟨rfl, _, he.same hb, h⟩
      · cases h
      · rename_i hb hx
        rw [yielded_not he hd' (fun b h => hb b h) (fun x h => hx x h)]
        exact .inr ⟨rfl, env, he, h⟩

theorem dstOk_spec {nt : Nat} {d : Option Nat} (h : dstOk nt d = true) : ∀ t, d = some t → t < nt := by
  intro t ht; subst ht; simp only [dstOk, Nat.ble_eq] at h; omega

/-- what a region leaves -/
def AfterR (B : Base) (nt : Nat) (ρ : Rho) (σ : List Blk) (K : Env → List Blk → Option R) (r : R) (a' : Act) (w' : World) : Prop :=
  ∃ env' σ' ρ', σ.length ≤ σ'.length ∧ (∀ i, i < σ.length → ρ' i = ρ i) ∧ Rel B ρ' σ' w' ∧ EnvOK ρ' σ'.length nt env' a' ∧ K env' σ' = some r

theorem hintK_sound {H : List (Nat × V)} {d : Option Nat} {v : V} {k : V → Option R} {r : R} (h : hintK H d v k = some r) : k v = some r := by
  unfold hintK at h
  split at h
  · exact h
  · split at h
    · exact h
    · split at h
      · rename_i q a q' b _
        cases hc : (decide (q = q') && (a == b)) with
        | false => rw [hc] at h; cases h
        | true =>
          rw [hc, cond_true] at h
          simp only [Bool.and_eq_true, decide_eq_true_eq, beq_iff_eq] at hc
          obtain ⟨rfl, rfl⟩ := hc
          exact h
      · rename_i a b _
        cases hc : (a == b) with
        | false => rw [hc] at h; cases h
        | true =>
          rw [hc, cond_true] at h
          simp only [beq_iff_eq] at hc
          subst hc
          exact h
      · rename_i a b _
        cases hc : sEq a b with
        | false => rw [hc] at h; cases h
        | true =>
          rw [hc, cond_true] at h
          have := (sEq_iff a b).1 hc
          subst this
          exact h
      · rename_i a _ n _ _
        cases hc : Nat.beq a.size n with
        | false => rw [hc] at h; cases h
        | true =>
          rw [hc, cond_true] at h
          have := Nat.eq_of_beq_eq_true hc
          subst this
          rwa [strOf_byteAt] at h
      · cases h
theorem evOps_sound {callR : FuncId → List V → List Blk → (V → List Blk → Option R) → Option R} (hN : NamesOK P) (hC : CallsOK P callR)
    {B : Base} {H : List (Nat × V)} {nt : Nat} {ops : Array Oper} {K : Env → List Blk → Option R} {r : R} {Q : Exit → Act → World → Prop} : ∀ (l : List Oper) (env : Env) (σ : List Blk) (ρ : Rho) (a : Act) (w : World),
    evOps P H nt callR ops.toList l env σ K = some r → Rel B ρ σ w → EnvOK ρ σ.length nt env a → (∀ a' w', AfterR B nt ρ σ K r a' w' → Q .normal a' w') → wpList P ops Q l a w
  | [], env, σ, ρ, a, w, h, hr, he, hQ => hQ a w ⟨env, σ, ρ, Nat.le_refl _, fun _ _ => rfl, hr, he, h⟩
  | o :: rest, env, σ, ρ, a, w, h, hr, he, hQ => by
    simp only [evOps] at h
    cases hd : dstOk nt o.dst with
    | false => rw [hd] at h; cases h
    | true =>
      rw [hd, cond_true] at h
      unfold wpList
      rcases guardK_sound h he with ⟨hw, env', he', h'⟩ | ⟨hw, env', he', h'⟩
      · rw [if_pos hw]
        left
        refine evOper_sound hN hC h' hr he' (fun v w' hv => ?_)
        obtain ⟨u, σ', ρ', rfl, h1, h2, h3, h4, h5⟩ := hv
        refine evOps_sound hN hC rest _ σ' ρ' _ w' (hintK_sound h5) h3 ((he'.mono h1 h2).put (dstOk_spec hd) h4) (fun a' w'' ⟨env2, σ2, ρ2, g1, g2, g3, g4, g5⟩ => hQ a' w'' ⟨env2, σ2, ρ2, Nat.le_trans h1 g1, fun i hi => ?_, g3, g4, g5⟩)
        rw [g2 i (Nat.lt_of_lt_of_le hi h1), h2 i hi]
      · rw [if_neg (by rw [hw]; exact Bool.false_ne_true)]
        refine evOps_sound hN hC rest _ σ ρ _ w h' hr ?_ hQ
        have := he'.put (dstOk_spec hd) (v := .tup []) (by simp [V.sc, scs])
        simpa [V.real, reals, undef] using this

/-- a region whose order is open -/
theorem evQ_sound {Γ : List (Summ P)} {H : List (Nat × V)} (hN : NamesOK P) {B : Base} {nt : Nat} {ops : Array Oper} {K : Env → Option R} {r : R} {σ : List Blk} {ρ : Rho} {Q : Act → Prop} : ∀ (l : List Oper) (env : Env) (a : Act),
    evQ P Γ H nt ops.toList l env σ K = some r → (∃ w, Rel B ρ σ w) → EnvOK ρ σ.length nt env a → (∀ env' a', EnvOK ρ σ.length nt env' a' → K env' = some r → Q a') → wpQuiet P ops (fun w => Rel B ρ σ w) Q l a
  | [], env, a, h, _, he, hQ => hQ env a he h
  | o :: rest, env, a, h, hw0, he, hQ => by
    simp only [evQ] at h
    cases hd : dstOk nt o.dst with
    | false => rw [hd] at h; cases h
    | true =>
      rw [hd, cond_true] at h
      unfold wpQuiet
      rcases guardK_sound h he with ⟨hw, env', he', h'⟩ | ⟨hw, env', he', h'⟩
      · rw [if_pos hw]
        have done : ∀ v : V, v.sc σ.length = true → (∀ w, Rel B ρ σ w → o.quietAt P a (fun w => Rel B ρ σ w) w (v.real ρ)) → (hintK H o.dst v fun v => evQ P Γ H nt ops.toList rest (env'.put o.dst v) σ K) = some r → o.quiet P a (fun w => Rel B ρ σ w) (wpQuiet P ops (fun w => Rel B ρ σ w) Q rest) := by
          intro v hv hq hk
          exact ⟨v.real ρ, hq, evQ_sound hN rest _ _ (hintK_sound hk) hw0 (he'.put (dstOk_spec hd) hv) hQ⟩
        have pure : ∀ (ok : Bool) (v : V), evPure2 P o.op env' σ = some (ok, v) → (bif ok then (hintK H o.dst v fun v => evQ P Γ H nt ops.toList rest (env'.put o.dst v) σ K) else none) = some r → o.quiet P a (fun w => Rel B ρ σ w) (wpQuiet P ops (fun w => Rel B ρ σ w) Q rest) := by
          intro ok v hp hk
          cases ok with
          | false => cases hk
          | true =>
            rw [cond_true] at hk
            obtain ⟨w, hw⟩ := hw0
            refine done v (pure2_sound hp hw he').2 (fun w hw => ?_) hk
            unfold Oper.quietAt
            rw [(pure2_sound hp hw he').1]
            exact ⟨rfl, rfl⟩
        unfold evQOper at h'
        split at h'
        · rename_i c x y hop
          split at h'
          · rename_i g va vb h1 h2 h3
            obtain ⟨e1, _⟩ := opr_spec he' h1
            obtain ⟨e2, s2⟩ := opr_spec he' h2
            obtain ⟨e3, s3⟩ := opr_spec he' h3
            have hrun : ∀ w, (execOp a.eval o).run P w = .ok (.value (if g then va.real ρ else vb.real ρ)) w := fun w => by
              simp only [execOp, hop, e1, e2, e3, V.real]
              rfl
            cases g with
            | true => exact done va s2 (fun w _ => by unfold Oper.quietAt; rw [hrun]; exact ⟨rfl, rfl⟩) h'
            | false => exact done vb s3 (fun w _ => by unfold Oper.quietAt; rw [hrun]; exact ⟨rfl, rfl⟩) h'
          · cases h'
        · rename_i c hop
          split at h'
          · rename_i f hc
            split at h'
            · rename_i fid cap as h1 h2
              split at h'
              · rename_i s hs
                cases hpu0 : (s.pure && hasBody P fid) with
                | false => rw [hpu0] at h'; cases h'
                | true =>
                  rw [hpu0, cond_true] at h'
                  simp only [Bool.and_eq_true] at hpu0
                  obtain ⟨hpu, hbd⟩ := hpu0
                  obtain ⟨fn, hfn, hbody⟩ := hasBody_spec hbd
                  split at h'
                  · rename_i ok v σ' hf'
                    cases ok with
                    | false => cases h'
                    | true =>
                    rw [cond_true] at h'
                    obtain ⟨e1, s1⟩ := opr_spec he' h1
                    obtain ⟨e2, s2⟩ := oprs_spec he' h2
                    have hsc : scs σ.length (as ++ cap) = true := by
                      rw [scs_iff]
                      intro v hv
                      rcases List.mem_append.1 hv with hv | hv
                      · exact (scs_iff _ _).1 s2 v hv
                      · exact (scs_iff _ _).1 (by simpa [V.sc] using s1) v hv
                    obtain ⟨g1, g2, g3, g4⟩ := s.ok _ _ _ _ hf' hsc
                    have := g3 hpu
                    subst this
                    refine done v g2 (fun w hw => ?_) h'
                    have hk := findS_spec hs
                    rw [hk] at g4
                    have hcall := g4 B ρ w hw hsc
                    have hargs : c.args.map a.eval ++ (reals ρ cap).toArray = (reals ρ (as ++ cap)).toArray := by
                      apply Array.ext'
                      simp only [Array.toList_append, Array.toList_map, e2, reals_eq, List.map_append]
                    have hrun : (execOp a.eval o).run P w = .ok (.enter fid (reals ρ (as ++ cap)).toArray) w := by
                      simp only [execOp, hop, resolve, hc, e1, V.real, Deferred.ofValue]
                      simp only [bind, Sem.bind, Pure.pure, invoke, Array.empty_append]
                      rw [hargs]
                      exact run_callFunc hfn hbody (hN fid fn hfn) _ w
                    unfold Oper.quietAt
                    rw [hrun]
                    refine ⟨rfl, hcall.mono ?_⟩
                    rintro e w' ⟨ρ', r1, rfl, r2⟩
                    exact ⟨by rw [V.real_ext r1 v g2], r2.congr (fun j hj => (r1 j hj).symm) rfl rfl rfl rfl⟩
                  · cases h'
              · cases h'
            · cases h'
          · split at h'
            · rename_i ok v hp
              exact pure ok v hp h'
            · cases h'
        · split at h'
          · rename_i ok v hp
            exact pure ok v hp h'
          · cases h'
      · rw [if_neg (by rw [hw]; exact Bool.false_ne_true)]
        refine evQ_sound hN rest _ _ h' hw0 ?_ hQ
        have := he'.put (dstOk_spec hd) (v := .tup []) (by simp [V.sc, scs])
        simpa [V.real, reals, undef] using this
end
end Go.R

namespace Go.R
open Go

/-! ### every order of a region that makes or writes memory -/
section
variable {R : Type} {P : Program} {ops : Array Oper} {Q : Exit → Act → World → Prop}

/-- an invariant over what has come up -/
theorem count_set : ∀ (l : List Bool) (i : Nat), l[i]? = some false → (l.set i true).count false + 1 = l.count false
  | [], i, h => by simp at h
  | b :: l, 0, h => by simp at h; subst h; simp
  | b :: l, i + 1, h => by
    have := count_set l i (by simpa using h)
    simp only [List.set_cons_succ, List.count_cons]
    omega
theorem any_inv (Inv : Array Bool → Act → World → Prop)
    (hstep : ∀ D a w i, Inv D a w → i ∈ Region.ready .any ops D → wpOp P ops Q i (Inv (D.setIfInBounds i true)) a w)
    (hend : ∀ D a w, Inv D a w → Region.ready .any ops D = [] → Q .normal a w) : ∀ (fuel : Nat) (D : Array Bool) (a : Act) (w : World), Inv D a w → D.toList.count false ≤ fuel → wpAny P .any ops Q fuel D a w
  | 0, D, a, w, h, hc => by
    have hr : Region.ready .any ops D = [] := by
      rw [List.eq_nil_iff_forall_not_mem]
      intro i hi
      have h1 := (mem_ready.1 hi).1
      have h2 : D.toList[i]? = some false := by
        rcases Nat.lt_or_ge i D.size with h' | h'
        · simp [h'] at h1 ⊢; exact h1
        · simp [Array.getElem?_eq_none h'] at h1
      have := count_set _ _ h2
      omega
    exact ⟨hr, hend D a w h hr⟩
  | fuel + 1, D, a, w, h, hc => by
    refine ⟨fun hr => hend D a w h hr, fun i hi => ?_⟩
    refine wpOp_mono (fun a' w' h' => any_inv Inv hstep hend fuel _ a' w' h' ?_) (hstep D a w i h hi)
    have h1 := (mem_ready.1 hi).1
    have h2 : D.toList[i]? = some false := by
      rcases Nat.lt_or_ge i D.size with h' | h'
      · simp [h'] at h1 ⊢; exact h1
      · simp [Array.getElem?_eq_none h'] at h1
    have := count_set _ _ h2
    rw [Array.toList_setIfInBounds]
    omega

/-! #### the region's shape -/
def waits (x : Oper) (k : Nat) : Prop := ∃ e ∈ x.after, Region.binds .any e = true ∧ e.on = k
theorem waitsFor_spec {x : Oper} {k : Nat} (h : waitsFor x k = true) : waits x k := by
  unfold waitsFor at h
  obtain ⟨e, he, hb⟩ := List.any_eq_true.1 h
  simp only [Bool.and_eq_true] at hb
  exact ⟨e, by simpa using he, hb.1, Nat.eq_of_beq_eq_true hb.2⟩
structure Shape (ops : Array Oper) : Prop where
  sel : Region.noSelect ops = true
  edge : ∀ (i : Nat) (o : Oper), ops.toList[i]? = some o → ∀ e ∈ o.after, Region.binds .any e = true → e.on < i
  pair : ∀ (k i : Nat) (x y : Oper), k < i → ops.toList[k]? = some x → ops.toList[i]? = some y → waits y k ∨ x.apart ops y = true
  dst : ∀ (k i : Nat) (x y : Oper) (d : Nat), ops.toList[k]? = some x → ops.toList[i]? = some y → x.dst = some d → y.dst = some d → k = i
theorem regPairs_spec {y : Oper} : ∀ (l : List Oper) (j : Nat), regPairs ops y l j = true → ∀ (k : Nat) (x : Oper), l[k]? = some x → regPair ops x y (j + k) = true
  | [], _, _, k, x, hx => by simp at hx
  | z :: r, j, h, k, x, hx => by
    simp only [regPairs, Bool.and_eq_true] at h
    cases k with
    | zero => simp at hx; subst hx; exact h.1
    | succ k =>
      have := regPairs_spec r (j + 1) h.2 k x (by simpa using hx)
      rwa [show j + 1 + k = j + (k + 1) by omega] at this
theorem regAll_spec : ∀ (l pre : List Oper), regAll ops pre l = true → ∀ (i : Nat) (y : Oper), l[i]? = some y →
    (∀ e ∈ y.after, Region.binds .any e = true → e.on < pre.length + i) ∧ (∀ (k : Nat) (x : Oper), k < pre.length + i → (pre ++ l)[k]? = some x → regPair ops x y k = true)
  | [], _, _, i, y, hy => by simp at hy
  | z :: r, pre, h, i, y, hy => by
    simp only [regAll, Bool.and_eq_true] at h
    obtain ⟨⟨h1, h2⟩, h3⟩ := h
    cases i with
    | zero =>
      simp at hy; subst hy
      refine ⟨fun e he hb => ?_, fun k x hk hx => ?_⟩
      · have := List.all_eq_true.1 h1 e (by simpa using he)
        simp only [hb, Bool.not_true, Bool.false_or, Nat.ble_eq] at this
        omega
      · rw [List.getElem?_append_left (by omega)] at hx
        have := regPairs_spec pre 0 h2 k x hx
        rwa [Nat.zero_add] at this
    | succ i =>
      obtain ⟨g1, g2⟩ := regAll_spec r (pre ++ [z]) h3 i y (by simpa using hy)
      refine ⟨fun e he hb => by have := g1 e he hb; simp at this; omega, fun k x hk hx => g2 k x (by simp; omega) (by simpa using hx)⟩
theorem shape_of (h : regOK ops = true) : Shape ops := by
  simp only [regOK, Bool.and_eq_true] at h
  have key := regAll_spec _ _ h.2
  have pr : ∀ (k i : Nat) (x y : Oper), k < i → ops.toList[k]? = some x → ops.toList[i]? = some y → regPair ops x y k = true := fun k i x y hk hx hy =>
    (key i y hy).2 k x (by simpa using hk) (by simpa using hx)
  have dd : ∀ (k i : Nat) (x y : Oper) (d : Nat), k < i → ops.toList[k]? = some x → ops.toList[i]? = some y → x.dst = some d → y.dst = some d → False := by
    intro k i x y d hk hx hy h1 h2
    have := pr k i x y hk hx hy
    simp only [regPair, Bool.and_eq_true, h1, h2] at this
    simp at this
  refine ⟨h.1, fun i o ho e he hb => by simpa using (key i o ho).1 e he hb, fun k i x y hk hx hy => ?_, fun k i x y d hx hy h1 h2 => ?_⟩
  · have := pr k i x y hk hx hy
    simp only [regPair, Bool.and_eq_true, Bool.or_eq_true] at this
    exact this.1.imp waitsFor_spec id
  · rcases Nat.lt_trichotomy k i with h' | h' | h'
    · exact (dd k i x y d h' hx hy h1 h2).elim
    · exact h'
    · exact (dd i k y x d h' hy hx h2 h1).elim

/-! #### what came up, and what came of it -/
inductive Out where
  | q (v : V)
  | new (m : Nat) (b : Blk)
  | put (x : Nat) (b : Blk)
def Out.val : Out → V
  | .q v => v
  | .new m _ => .ptr m 0
  | .put _ _ => .tup []
def Out.qv : Out → V
  | .q v => v
  | _ => .tup []
def Out.eff : Out → Nat → Option Blk
  | .q _, _ => none
  | .new m b, x => if m = x then some b else none
  | .put m b, x => if m = x then some b else none
def envP : List Oper → List Out → Env → Env
  | o :: l, u :: us, e => envP l us (e.put o.dst u.qv)
  | _, _, e => e
def newsS (o : Oper) (u : Out) (ns : List (Nat × Nat)) : List (Nat × Nat) :=
  match u, o.dst with
  | .new m _, some d => (d, m) :: ns
  | _, _ => ns
def newsP : List Oper → List Out → List (Nat × Nat) → List (Nat × Nat)
  | o :: l, u :: us, ns => newsP l us (newsS o u ns)
  | _, _, ns => ns
def tauS (u : Out) (τ : List Blk) : List Blk :=
  match u with
  | .q _ => τ
  | .new _ b => τ ++ [b]
  | .put x b => τ.set x b
def tauP : List Out → List Blk → List Blk
  | u :: us, τ => tauP us (tauS u τ)
  | [], τ => τ
def doneS (u : Out) (d : List Nat) : List Nat :=
  match u with
  | .put x _ => x :: d
  | _ => d
def doneP : List Out → List Nat → List Nat
  | u :: us, d => doneP us (doneS u d)
  | [], d => d

/-- a call's, or an operation's, one value: in the world that it got, or one where nothing that was there is turned -/
def Grown (w w' : World) : Prop := w'.os = w.os ∧ w'.tape = w.tape ∧ w'.output = w.output ∧ w.heap.size ≤ w'.heap.size ∧ ∀ k, k < w.heap.size → w'.heap[k]? = w.heap[k]?
def noSt : Nat → Prop := fun _ => False
theorem Rel.empty' (ρ : Rho) (w : World) : Rel ⟨w, noSt⟩ ρ [] w :=
  ⟨fun i b h => by simp at h, fun i b h => by simp at h, fun i j bi bj h => by simp at h, fun i b h => by simp at h, fun i b h => by simp at h, Keeps.refl _ _⟩
theorem Rel.grown {B : Base} {ρ : Rho} {σ : List Blk} {w w' : World} (h : Rel B ρ σ w) (k : Grown w w') : Rel B ρ σ w' := by
  obtain ⟨k1, k2, k3, k4, k5⟩ := k
  refine ⟨fun i b hb => (h.at_ i b hb).congr (h.sc i b hb) (fun _ _ => rfl) rfl (fun hl => k5 _ (h.lt i b hb hl)), fun i b hb hl => Nat.lt_of_lt_of_le (h.lt i b hb hl) k4, h.inj, h.sc, h.wr, ?_⟩
  exact ⟨k1.trans h.keeps.os, k2.trans h.keeps.tape, k3.trans h.keeps.output, Nat.le_trans h.keeps.size k4,
    fun i hi hs => (k5 i (Nat.lt_of_lt_of_le hi h.keeps.size)).trans (h.keeps.block i hi hs)⟩

def Wq (P : Program) (ops : Array Oper) (nt n0 : Nat) (o : Oper) (env : Env) (σm : List Blk) (v : V) : Prop :=
  ∀ (B : Base) (ρ : Rho) (a : Act) (w : World), EnvOK ρ n0 nt env a → Rel B ρ σm w →
    (Region.wanted o (yielded ops a.tmps) = true ∧ o.quietAt P a (Grown w) w (v.real ρ)) ∨ (Region.wanted o (yielded ops a.tmps) = false ∧ v = .tup [])

def Step (P : Program) (nt : Nat) (ops : Array Oper) (st : List (Nat × Tgt)) (env0 : Env) (σ : List Blk) (o : Oper) (j : Nat) (env : Env) (news : List (Nat × Nat)) (τ : List Blk) (done : List Nat) : Out → Prop
  | .q v => v.sc σ.length = true ∧ looksNew ops news o = false ∧ (∀ d, o.dst = some d → d < nt) ∧ Wq P ops nt σ.length o env (maskB st j σ) v
  | .new m b => m = τ.length ∧ o.guard = none ∧ looksNew ops news o = false ∧ (∀ d, o.dst = some d → d < nt) ∧ ∃ d e y, o.dst = some d ∧ newOf P o.op env = some (e, y) ∧ b = newBlk e y ∧ y.sc σ.length = true
  | .put x b => o.guard = none ∧ o.dst = none ∧ x ∉ done ∧ ∃ t a y v off blk inf tg, o.op = .store t a y ∧ tgtOf ops.toList env0 o.op = some tg ∧ evTgt ops (some tg) news env o a y = some (x, off) ∧ opr env y = some v ∧ τ[x]? = some blk ∧
      storeB v off blk = some (true, b) ∧ b.sc σ.length = true ∧ P.info? t = some inf ∧ inf.size = v.size

def Tr (P : Program) (nt : Nat) (ops : Array Oper) (st : List (Nat × Tgt)) (env0 : Env) (σ : List Blk) : List Oper → List Out → Nat → Env → List (Nat × Nat) → List Blk → List Nat → Prop
  | [], [], _, _, _, _, _ => True
  | o :: l, u :: us, j, env, news, τ, done => Step P nt ops st env0 σ o j env news τ done u ∧ Tr P nt ops st env0 σ l us (j + 1) (env.put o.dst u.qv) (newsS o u news) (tauS u τ) (doneS u done)
  | _, _, _, _, _, _, _ => False

theorem guardE_split {nt n : Nat} {env : Env} {o : Oper} {yes no : Unit → Option R} {r : R} (h : guardE ops.toList o.guard env yes no = some r) :
    (yes () = some r ∧ ∀ ρ a, EnvOK ρ n nt env a → Region.wanted o (yielded ops a.tmps) = true) ∨ (no () = some r ∧ ∀ ρ a, EnvOK ρ n nt env a → Region.wanted o (yielded ops a.tmps) = false) := by
  unfold guardE at h
  unfold Region.wanted
  split at h
  · rename_i hg; exact .inl ⟨h, fun _ _ _ => by rw [hg]⟩
  · rename_i j want hg
    rw [hg]
    simp only
    split at h
    · cases h
    · rename_i d hd
      have hd' : (ops[j]?).bind (·.dst) = some d := by simpa using hd
      split at h
      · rename_i b hb
        cases b <;> cases want <;> simp only [cond_true, cond_false] at h
        · exact .inl ⟨h, fun ρ a he => by rw [yielded_of he hd' hb]; rfl⟩
        · exact .inr ⟨h, fun ρ a he => by rw [yielded_of he hd' hb]; rfl⟩
        · exact .inr ⟨h, fun ρ a he => by rw [yielded_of he hd' hb]; rfl⟩
        · exact .inl ⟨h, fun ρ a he => by rw [yielded_of he hd' hb]; rfl⟩
      · cases h
      · rename_i hb hx
        exact .inr ⟨h, fun ρ a he => by rw [yielded_not he hd' (fun b h => hb b h) (fun x h => hx x h)]; rfl⟩

theorem maskB_length : ∀ (st : List (Nat × Tgt)) (j : Nat) (σ : List Blk), (maskB st j σ).length = σ.length
  | [], _, _ => rfl
  | (m, t) :: r, j, σ => by
    simp only [maskB]
    cases Nat.testBit m j
    · cases t <;> simp [maskB_length r]
    · exact maskB_length r j σ
theorem maskB_get : ∀ (st : List (Nat × Tgt)) (j : Nat) (σ : List Blk) (x : Nat) (b : Blk), (maskB st j σ)[x]? = some b → b = .gone ∨ σ[x]? = some b
  | [], _, _, _, _, h => .inr h
  | (m, t) :: r, j, σ, x, b, h => by
    simp only [maskB] at h
    cases ht : Nat.testBit m j with
    | true => rw [ht, cond_true] at h; exact maskB_get r j σ x b h
    | false =>
      rw [ht, cond_false] at h
      cases t with
      | new => exact maskB_get r j σ x b h
      | old c =>
        rcases maskB_get r j _ x b h with h | h
        · exact .inl h
        · by_cases hc : c = x
          · subst hc
            have hl : c < (σ.set c Blk.gone).length := (List.getElem?_eq_some_iff.1 h).1
            rw [List.getElem?_set_self (by simpa using hl)] at h
            exact .inl (Option.some.inj h).symm
          · rw [List.getElem?_set_ne hc] at h; exact .inr h
      | any =>
        rcases maskB_get r j _ x b h with h | h
        · exact .inl h
        · simp only [List.getElem?_map, Option.map_eq_some_iff] at h
          obtain ⟨_, _, rfl⟩ := h
          exact .inl rfl
/-- what a store that is not behind j hides from it -/
theorem maskB_hides : ∀ (st : List (Nat × Tgt)) (j : Nat) (σ : List Blk) (x : Nat) (b : Blk) (m : Nat) (t : Tgt), (m, t) ∈ st → Nat.testBit m j = false → (t = .old x ∨ t = .any) → (maskB st j σ)[x]? = some b → b = .gone
  | [], _, _, _, _, _, _, h, _, _, _ => by simp at h
  | (m', t') :: r, j, σ, x, b, m, t, h, hm, ht, hg => by
    simp only [maskB] at hg
    rcases List.mem_cons.1 h with h' | h'
    · injection h' with h1 h2
      subst h1; subst h2
      rw [hm, cond_false] at hg
      rcases ht with rfl | rfl
      · rcases maskB_get _ _ _ _ _ hg with hg | hg
        · exact hg
        · have hl : x < (σ.set x Blk.gone).length := (List.getElem?_eq_some_iff.1 hg).1
          rw [List.getElem?_set_self (by simpa using hl)] at hg
          exact (Option.some.inj hg).symm
      · rcases maskB_get _ _ _ _ _ hg with hg | hg
        · exact hg
        · simp only [List.getElem?_map, Option.map_eq_some_iff] at hg
          obtain ⟨_, _, rfl⟩ := hg
          rfl
    · cases ht' : Nat.testBit m' j with
      | true => rw [ht', cond_true] at hg; exact maskB_hides r j σ x b m t h' hm ht hg
      | false =>
        rw [ht', cond_false] at hg
        cases t' with
        | new => exact maskB_hides r j σ x b m t h' hm ht hg
        | old c => exact maskB_hides r j _ x b m t h' hm ht hg
        | any => exact maskB_hides r j _ x b m t h' hm ht hg
theorem Rel.weaken {B : Base} {ρ : Rho} {σ σ' : List Blk} {w : World} (h : Rel B ρ σ w) (hg : ∀ (x : Nat) (b : Blk), σ'[x]? = some b → b = .gone ∨ (σ[x]? = some b ∧ b.sc σ'.length = true)) : Rel B ρ σ' w := by
  refine ⟨fun i b hb => ?_, fun i b hb hl => ?_, fun i j bi bj hi hj h1 h2 hq he => ?_, fun i b hb => ?_, fun i b hb hr => ?_, h.keeps⟩
  · rcases hg i b hb with rfl | ⟨hb, _⟩
    · trivial
    · exact h.at_ i b hb
  · rcases hg i b hb with rfl | ⟨hb, _⟩
    · cases hl
    · exact h.lt i b hb hl
  · rcases hg i bi hi with rfl | ⟨hi, _⟩
    · cases h1
    · rcases hg j bj hj with rfl | ⟨hj, _⟩
      · cases h2
      · exact h.inj i j bi bj hi hj h1 h2 hq he
  · rcases hg i b hb with rfl | ⟨hb, hs⟩
    · rfl
    · exact hs
  · rcases hg i b hb with rfl | ⟨hb, _⟩
    · cases hr
    · exact h.wr i b hb hr
theorem keepsNo_grown {w w' : World} (h : Keeps noSt w w') : Grown w w' := ⟨h.os, h.tape, h.output, h.size, fun k hk => h.block k hk (fun hf => hf)⟩

/-- an operation that is evaluated alone -/
theorem evEOper_sound {Γ : List (Summ P)} (hN : NamesOK P) {nt n0 : Nat} {o : Oper} {env : Env} {σm : List Blk} {k : V → Option R} {r : R} (hlen : σm.length = n0)
    (henv : ∃ ρ a w B, EnvOK ρ n0 nt env a ∧ Rel B ρ σm w)
    (h : evEOper P Γ o.op env σm k = some r) : ∃ v, v.sc n0 = true ∧ k v = some r ∧ ∀ (B : Base) (ρ : Rho) (a : Act) (w : World), EnvOK ρ n0 nt env a → Rel B ρ σm w → o.quietAt P a (Grown w) w (v.real ρ) := by
  subst hlen
  have pure : ∀ (ok : Bool) (v : V), evPure2 P o.op env σm = some (ok, v) → (bif ok then k v else none) = some r → ∃ v, v.sc σm.length = true ∧ k v = some r ∧ ∀ (B : Base) (ρ : Rho) (a : Act) (w : World), EnvOK ρ σm.length nt env a → Rel B ρ σm w → o.quietAt P a (Grown w) w (v.real ρ) := by
    intro ok v hp hk
    cases ok with
    | false => cases hk
    | true =>
      rw [cond_true] at hk
      obtain ⟨ρ, a, w, B, he, hr⟩ := henv
      refine ⟨v, (pure2_sound hp hr he).2, hk, fun B ρ a w he hr => ?_⟩
      unfold Oper.quietAt
      rw [(pure2_sound hp hr he).1]
      exact ⟨rfl, rfl⟩
  unfold evEOper at h
  split at h
  · rename_i c x y hop
    split at h
    · rename_i g va vb h1 h2 h3
      have key : ∀ (B : Base) (ρ : Rho) (a : Act) (w : World), EnvOK ρ σm.length nt env a → Rel B ρ σm w → (execOp a.eval o).run P w = .ok (.value (if g then va.real ρ else vb.real ρ)) w ∧ va.sc σm.length = true ∧ vb.sc σm.length = true := by
        intro B ρ a w he hr
        obtain ⟨e1, _⟩ := opr_spec he h1
        obtain ⟨e2, s2⟩ := opr_spec he h2
        obtain ⟨e3, s3⟩ := opr_spec he h3
        refine ⟨?_, s2, s3⟩
        simp only [execOp, hop, e1, e2, e3, V.real]
        rfl
      obtain ⟨ρ, a, w, B, he, hr⟩ := henv
      obtain ⟨_, s2, s3⟩ := key B ρ a w he hr
      cases g with
      | true => exact ⟨va, s2, h, fun B ρ a w he hr => by unfold Oper.quietAt; rw [(key B ρ a w he hr).1]; exact ⟨rfl, rfl⟩⟩
      | false => exact ⟨vb, s3, h, fun B ρ a w he hr => by unfold Oper.quietAt; rw [(key B ρ a w he hr).1]; exact ⟨rfl, rfl⟩⟩
    · cases h
  · rename_i c hop
    split at h
    · rename_i f hc
      split at h
      · rename_i fid cap as h1 h2
        split at h
        · rename_i s hs
          cases hpu0 : (s.pure && hasBody P fid && scs 0 (as ++ cap)) with
          | false => rw [hpu0] at h; cases h
          | true =>
            rw [hpu0, cond_true] at h
            simp only [Bool.and_eq_true] at hpu0
            obtain ⟨⟨hpu, hbd⟩, hsc⟩ := hpu0
            obtain ⟨fn, hfn, hbody⟩ := hasBody_spec hbd
            split at h
            · rename_i ok v σ' hf'
              cases ok with
              | false => cases h
              | true =>
              rw [cond_true] at h
              obtain ⟨g1, g2, g3, g4⟩ := s.ok _ _ _ _ hf' (by simpa using hsc)
              have := g3 hpu
              subst this
              refine ⟨v, V.sc_mono (Nat.zero_le _) _ (by simpa using g2), h, fun B ρ a w he hr => ?_⟩
              obtain ⟨e1, s1⟩ := opr_spec he h1
              obtain ⟨e2, s2⟩ := oprs_spec he h2
              have hk := findS_spec hs
              rw [hk] at g4
              have hcall := g4 ⟨w, noSt⟩ ρ w (Rel.empty' ρ w) (by simpa using hsc)
              have hargs : c.args.map a.eval ++ (reals ρ cap).toArray = (reals ρ (as ++ cap)).toArray := by
                apply Array.ext'
                simp only [Array.toList_append, Array.toList_map, e2, reals_eq, List.map_append]
              have hrun : (execOp a.eval o).run P w = .ok (.enter fid (reals ρ (as ++ cap)).toArray) w := by
                simp only [execOp, hop, resolve, hc, e1, V.real, Deferred.ofValue]
                simp only [bind, Sem.bind, Pure.pure, invoke, Array.empty_append]
                rw [hargs]
                exact run_callFunc hfn hbody (hN fid fn hfn) _ w
              unfold Oper.quietAt
              rw [hrun]
              refine ⟨rfl, hcall.mono ?_⟩
              rintro e w' ⟨ρ', r1, rfl, r2⟩
              exact ⟨by rw [V.real_ext (n := 0) (ρ := ρ) (fun i hi => by omega) v (by simpa using g2)], keepsNo_grown r2.keeps⟩
            · cases h
        · cases h
      · cases h
    · split at h
      · rename_i ok v hp
        exact pure ok v hp h
      · cases h
  · split at h
    · rename_i ok v hp
      exact pure ok v hp h
    · cases h

theorem newOf_isNew {op : Op} {env : Env} {e : TypeId} {y : V} (h : newOf P op env = some (e, y)) : (∃ t, op = .alloc t) ∨ ∃ t x, op = .box t x := by
  unfold newOf at h
  split at h
  · exact .inl ⟨_, rfl⟩
  · exact .inr ⟨_, _, rfl⟩
  · cases h

/-- what the evaluator has walked -/
theorem evE_trace {Γ : List (Summ P)} (hN : NamesOK P) {H : List (Nat × V)} {nt : Nat} {st : List (Nat × Tgt)} {env0 : Env} {σ : List Blk} {K : Env → List Blk → Option R} {r : R} :
    ∀ (l : List Oper) (j : Nat) (env : Env) (news : List (Nat × Nat)) (τ : List Blk) (done : List Nat), evE P Γ H nt ops st env0 σ l j env news τ done K = some r →
    (∃ ρ a w B, EnvOK ρ σ.length nt env a ∧ Rel B ρ σ w) →
    ∃ us, us.length = l.length ∧ Tr P nt ops st env0 σ l us j env news τ done ∧ K (newsE (newsP l us news) (envP l us env)) (tauP us τ) = some r
  | [], j, env, news, τ, done, h, _ => ⟨[], rfl, trivial, h⟩
  | o :: rest, j, env, news, τ, done, h, hw => by
    unfold evE at h
    cases hd : dstOk nt o.dst with
    | false => rw [hd] at h; cases h
    | true =>
    rw [hd, cond_true] at h
    have hdst := dstOk_spec hd
    have henv' : ∀ (v : V), v.sc σ.length = true → ∃ ρ a w B, EnvOK ρ σ.length nt (env.put o.dst v) a ∧ Rel B ρ σ w := by
      obtain ⟨ρ, a, w, B, he, hr⟩ := hw
      exact fun v hv => ⟨ρ, _, w, B, he.put hdst hv, hr⟩
    have hundef : (V.tup []).sc σ.length = true := by simp [V.sc, scs]
    split at h
    · rename_i t a x hop
      split at h
      · rename_i b off hg hdn ht
        split at h
        · rename_i v blk inf hv hb hi
          cases hc : (Nat.beq inf.size v.size && !(done.any (Nat.beq b))) with
          | false => rw [hc] at h; cases h
          | true =>
            rw [hc, cond_true] at h
            simp only [Bool.and_eq_true, Bool.not_eq_true'] at hc
            split at h
            · rename_i ok blk' hst
              cases hc2 : (ok && blk'.sc σ.length) with
              | false => rw [hc2] at h; cases h
              | true =>
                rw [hc2, cond_true] at h
                simp only [Bool.and_eq_true] at hc2
                obtain ⟨hok, hbsc⟩ := hc2
                subst hok
                obtain ⟨us, h1, h2, h3⟩ := evE_trace hN rest (j + 1) env news (τ.set b blk') (b :: done) h hw
                have hput : env.put o.dst (Out.put b blk').qv = env := by rw [hdn]; rfl
                have hns : newsS o (.put b blk') news = news := by simp [newsS]
                refine ⟨.put b blk' :: us, by simp [h1], ⟨⟨hg, hdn, ?_, ?_⟩, ?_⟩, ?_⟩
                · intro hm
                  have : done.any (Nat.beq b) = true := List.any_eq_true.2 ⟨b, hm, by simp⟩
                  rw [this] at hc; cases hc.2
                · obtain ⟨tg, htg⟩ : ∃ tg, tgtOf ops.toList env0 o.op = some tg := by
                    cases htg : tgtOf ops.toList env0 o.op with
                    | none => rw [htg] at ht; simp [evTgt] at ht
                    | some tg => exact ⟨tg, rfl⟩
                  rw [htg] at ht
                  exact ⟨t, a, x, v, off, blk, inf, tg, hop, htg, ht, hv, hb, hst, hbsc, hi, Nat.eq_of_beq_eq_true hc.1⟩
                · rw [hput, hns]; exact h2
                · simp only [newsP, envP, tauP, hput, hns]; exact h3
            · cases h
        · cases h
      · cases h
    · rename_i hop
      cases hln : looksNew ops news o with
      | true => rw [hln] at h; cases h
      | false =>
      rw [hln, cond_false] at h
      cases hno : isNewOp o.op with
      | true =>
        rw [hno, cond_true] at h
        split at h
        · rename_i d e y hg hdn hnew
          cases hys : y.sc σ.length with
          | false => rw [hys] at h; cases h
          | true =>
          rw [hys, cond_true] at h
          obtain ⟨us, h1, h2, h3⟩ := evE_trace hN rest (j + 1) _ _ _ done h (hdn ▸ henv' _ hundef)
          have hput : env.put o.dst (Out.new τ.length (newBlk e y)).qv = env.put (some d) (.tup []) := by rw [hdn]; rfl
          have hns : newsS o (.new τ.length (newBlk e y)) news = (d, τ.length) :: news := by simp [newsS, hdn]
          refine ⟨.new τ.length (newBlk e y) :: us, by simp [h1], ⟨⟨rfl, hg, hln, hdst, d, e, y, hdn, hnew, rfl, hys⟩, ?_⟩, ?_⟩
          · rw [hput, hns]; exact h2
          · simp only [newsP, envP, tauP, hput, hns]; exact h3
        · cases h
      | false =>
        rw [hno, cond_false] at h
        have hns : ∀ v, newsS o (.q v) news = news := fun v => by simp [newsS]
        rcases guardE_split (nt := nt) (n := σ.length) h with ⟨h, hw'⟩ | ⟨h, hw'⟩
        · have hmask : ∃ ρ a w B, EnvOK ρ σ.length nt env a ∧ Rel B ρ (maskB st j σ) w := by
            obtain ⟨ρ, a, w, B, he, hr⟩ := hw
            refine ⟨ρ, a, w, B, he, hr.weaken fun x b hb => ?_⟩
            rcases maskB_get _ _ _ _ _ hb with hb | hb
            · exact .inl hb
            · exact .inr ⟨hb, by rw [maskB_length]; exact hr.sc x b hb⟩
          obtain ⟨v, hv, hk, hq⟩ := evEOper_sound hN (maskB_length st j σ) hmask h
          obtain ⟨us, h1, h2, h3⟩ := evE_trace hN rest (j + 1) _ _ _ done (hintK_sound hk) (henv' _ hv)
          refine ⟨.q v :: us, by simp [h1], ⟨⟨hv, hln, hdst, fun B ρ a w he hr => .inl ⟨hw' ρ a he, hq B ρ a w he hr⟩⟩, ?_⟩, ?_⟩
          · rw [hns]; exact h2
          · simp only [newsP, envP, tauP, hns]; exact h3
        · obtain ⟨us, h1, h2, h3⟩ := evE_trace hN rest (j + 1) _ _ _ done h (henv' _ hundef)
          refine ⟨.q (.tup []) :: us, by simp [h1], ⟨⟨hundef, hln, hdst, fun B ρ a w he hr => .inr ⟨hw' ρ a he, rfl⟩⟩, ?_⟩, ?_⟩
          · rw [hns]; exact h2
          · simp only [newsP, envP, tauP, hns]; exact h3
end
end Go.R

namespace Go.R
open Go

section
variable {R : Type} {P : Program} {ops : Array Oper}

/-! #### the lists of what came up, by place -/
theorem Tr_get {nt : Nat} {st : List (Nat × Tgt)} {env0 : Env} {σ : List Blk} : ∀ (l : List Oper) (us : List Out) (j : Nat) (env : Env) (news : List (Nat × Nat)) (τ : List Blk) (done : List Nat), Tr P nt ops st env0 σ l us j env news τ done →
    ∀ (k : Nat) (o : Oper) (u : Out), l[k]? = some o → us[k]? = some u → Step P nt ops st env0 σ o (j + k) (envP (l.take k) (us.take k) env) (newsP (l.take k) (us.take k) news) (tauP (us.take k) τ) (doneP (us.take k) done) u
  | [], _, _, _, _, _, _, _, k, o, u, ho, _ => by simp at ho
  | _ :: _, [], _, _, _, _, _, _, k, o, u, _, hu => by simp at hu
  | o' :: l, u' :: us, j, env, news, τ, done, h, k, o, u, ho, hu => by
    obtain ⟨h1, h2⟩ := h
    cases k with
    | zero =>
      simp at ho hu; subst ho; subst hu
      simpa [envP, newsP, tauP, doneP] using h1
    | succ k =>
      have := Tr_get l us (j + 1) _ _ _ _ h2 k o u (by simpa using ho) (by simpa using hu)
      simpa [envP, newsP, tauP, doneP, show j + 1 + k = j + (k + 1) by omega] using this

theorem envP_snoc : ∀ (l : List Oper) (us : List Out) (e : Env) (o : Oper) (u : Out), l.length = us.length → envP (l ++ [o]) (us ++ [u]) e = (envP l us e).put o.dst u.qv
  | [], [], e, o, u, _ => rfl
  | _ :: _, [], _, _, _, h => by simp at h
  | [], _ :: _, _, _, _, h => by simp at h
  | o' :: l, u' :: us, e, o, u, h => by simp only [List.cons_append, envP]; exact envP_snoc l us _ o u (by simpa using h)
theorem newsP_snoc : ∀ (l : List Oper) (us : List Out) (e : List (Nat × Nat)) (o : Oper) (u : Out), l.length = us.length → newsP (l ++ [o]) (us ++ [u]) e = newsS o u (newsP l us e)
  | [], [], e, o, u, _ => rfl
  | _ :: _, [], _, _, _, h => by simp at h
  | [], _ :: _, _, _, _, h => by simp at h
  | o' :: l, u' :: us, e, o, u, h => by simp only [List.cons_append, newsP]; exact newsP_snoc l us _ o u (by simpa using h)
theorem tauP_snoc : ∀ (us : List Out) (e : List Blk) (u : Out), tauP (us ++ [u]) e = tauS u (tauP us e)
  | [], e, u => rfl
  | u' :: us, e, u => by simp only [List.cons_append, tauP]; exact tauP_snoc us _ u
theorem doneP_snoc : ∀ (us : List Out) (e : List Nat) (u : Out), doneP (us ++ [u]) e = doneS u (doneP us e)
  | [], e, u => rfl
  | u' :: us, e, u => by simp only [List.cons_append, doneP]; exact doneP_snoc us _ u
theorem take_snoc {α : Type} {l : List α} {k : Nat} {x : α} (h : l[k]? = some x) : l.take (k + 1) = l.take k ++ [x] := by
  rw [List.take_add_one, h]; rfl

/-- the writer of a slot -/
def wrI : List Oper → Nat → Nat → Option Nat
  | [], _, _ => none
  | o :: r, k, t => if o.dst = some t then some k else wrI r (k + 1) t
theorem wrI_some : ∀ (l : List Oper) (j t k : Nat), wrI l j t = some k → ∃ o, j ≤ k ∧ l[k - j]? = some o ∧ o.dst = some t
  | [], _, _, _, h => by simp [wrI] at h
  | o :: r, j, t, k, h => by
    simp only [wrI] at h
    split at h
    · rename_i hd
      simp only [Option.some.injEq] at h; subst h
      exact ⟨o, Nat.le_refl _, by simp, hd⟩
    · obtain ⟨x, h1, h2, h3⟩ := wrI_some r (j + 1) t k h
      exact ⟨x, by omega, by rw [show k - j = (k - (j + 1)) + 1 by omega]; simpa using h2, h3⟩
theorem wrI_none : ∀ (l : List Oper) (j t : Nat), wrI l j t = none → ∀ (k : Nat) (o : Oper), l[k]? = some o → o.dst ≠ some t
  | [], _, _, _, k, o, ho => by simp at ho
  | x :: r, j, t, h, k, o, ho => by
    simp only [wrI] at h
    split at h
    · cases h
    · rename_i hd
      cases k with
      | zero => simp at ho; subst ho; exact hd
      | succ k => exact wrI_none r (j + 1) t h k o (by simpa using ho)
theorem wrI_of (hS : Shape ops) {k t : Nat} {o : Oper} (ho : ops.toList[k]? = some o) (hd : o.dst = some t) : wrI ops.toList 0 t = some k := by
  cases h : wrI ops.toList 0 t with
  | none => exact absurd hd (wrI_none _ _ _ h k o ho)
  | some i =>
    obtain ⟨x, _, h2, h3⟩ := wrI_some _ _ _ _ h
    rw [Nat.sub_zero] at h2
    rw [hS.dst i k x o t h2 ho h3 hd]

/-- the last that turned a block -/
def blkS : List Out → Nat → Array Bool → Nat → Blk → Blk
  | [], _, _, _, c => c
  | u :: us, k, D, x, c => blkS us (k + 1) D x (if D.getD k false = true then (u.eff x).getD c else c)
theorem blkS_congr : ∀ (us : List Out) (j : Nat) (D E : Array Bool) (x : Nat) (c : Blk), (∀ (k : Nat) (u : Out), us[k]? = some u → u.eff x ≠ none → D.getD (j + k) false = E.getD (j + k) false) → blkS us j D x c = blkS us j E x c
  | [], _, _, _, _, _, _ => rfl
  | u :: us, j, D, E, x, c, h => by
    simp only [blkS]
    have h0 : (if D.getD j false = true then (u.eff x).getD c else c) = (if E.getD j false = true then (u.eff x).getD c else c) := by
      cases hu : u.eff x with
      | none => simp
      | some b => rw [show D.getD j false = E.getD j false from h 0 u rfl (by simp [hu])]
    rw [h0]
    exact blkS_congr us (j + 1) D E x _ (fun k v hv hne => by have := h (k + 1) v (by simpa using hv) hne; rwa [show j + 1 + k = j + (k + 1) by omega])
theorem blkS_none : ∀ (us : List Out) (j : Nat) (D : Array Bool) (x : Nat) (c : Blk), (∀ (k : Nat) (u : Out), us[k]? = some u → u.eff x ≠ none → D.getD (j + k) false = false) → blkS us j D x c = c
  | [], _, _, _, _, _ => rfl
  | u :: us, j, D, x, c, h => by
    simp only [blkS]
    have h0 : (if D.getD j false = true then (u.eff x).getD c else c) = c := by
      cases hu : u.eff x with
      | none => simp
      | some b => rw [show D.getD j false = false from h 0 u rfl (by simp [hu])]; simp
    rw [h0]
    exact blkS_none us (j + 1) D x c (fun k v hv hne => by have := h (k + 1) v (by simpa using hv) hne; rwa [show j + 1 + k = j + (k + 1) by omega])
theorem blkS_last : ∀ (us : List Out) (j : Nat) (D : Array Bool) (x : Nat) (c b : Blk) (i : Nat) (u : Out), us[i]? = some u → u.eff x = some b → D.getD (j + i) false = true →
    (∀ (k : Nat) (v : Out), i < k → us[k]? = some v → v.eff x ≠ none → D.getD (j + k) false = false) → blkS us j D x c = b
  | [], _, _, _, _, _, i, u, hu, _, _, _ => by simp at hu
  | v :: us, j, D, x, c, b, i, u, hu, he, hD, h => by
    simp only [blkS]
    cases i with
    | zero =>
      simp at hu; subst hu
      rw [if_pos (by simpa using hD), he, Option.getD_some]
      exact blkS_none us (j + 1) D x b (fun k v hv hne => by have := h (k + 1) v (by omega) (by simpa using hv) hne; rwa [show j + 1 + k = j + (k + 1) by omega])
    | succ i =>
      exact blkS_last us (j + 1) D x _ b i u (by simpa using hu) he (by rw [show j + 1 + i = j + (i + 1) by omega]; exact hD) (fun k v hk hv hne => by have := h (k + 1) v (by omega) (by simpa using hv) hne; rwa [show j + 1 + k = j + (k + 1) by omega])

/-- the first i of n -/
def firstD (n i : Nat) : Array Bool := (Array.range n).map fun k => decide (k < i)
theorem firstD_get {n i k : Nat} (hk : k < n) : (firstD n i).getD k false = decide (k < i) := by
  simp [firstD, hk]

/-- the walk, with what it tells -/
structure Walk (P : Program) (nt : Nat) (ops : Array Oper) (st : List (Nat × Tgt)) (env0 : Env) (σ : List Blk) (us : List Out) : Prop where
  shape : Shape ops
  len : us.length = ops.toList.length
  step : ∀ (k : Nat) (o : Oper) (u : Out), ops.toList[k]? = some o → us[k]? = some u → Step P nt ops st env0 σ o k (envP (ops.toList.take k) (us.take k) env0) (newsP (ops.toList.take k) (us.take k) []) (tauP (us.take k) σ) (doneP (us.take k) []) u

variable {nt : Nat} {st : List (Nat × Tgt)} {env0 : Env} {σ : List Blk} {us : List Out}

theorem Walk.both (W : Walk P nt ops st env0 σ us) {k : Nat} {o : Oper} (ho : ops.toList[k]? = some o) : ∃ u, us[k]? = some u := by
  have : k < us.length := by rw [W.len]; exact (List.getElem?_eq_some_iff.1 ho).1
  exact ⟨us[k], List.getElem?_eq_getElem this⟩
theorem Walk.both' (W : Walk P nt ops st env0 σ us) {k : Nat} {u : Out} (hu : us[k]? = some u) : ∃ o, ops.toList[k]? = some o := by
  have : k < ops.toList.length := by rw [← W.len]; exact (List.getElem?_eq_some_iff.1 hu).1
  exact ⟨ops.toList[k], List.getElem?_eq_getElem this⟩

/-- how many blocks there are, ahead of place k -/
theorem tau_len (us : List Out) (σ : List Blk) : ∀ (k : Nat), k < us.length → (tauP (us.take k) σ).length ≤ (tauP (us.take (k + 1)) σ).length := by
  intro k hk
  rw [take_snoc (List.getElem?_eq_getElem hk), tauP_snoc]
  generalize us[k] = u
  cases u <;> simp [tauS]
theorem tau_mono (us : List Out) (σ : List Blk) {i j : Nat} (h : i ≤ j) (hj : j ≤ us.length) : (tauP (us.take i) σ).length ≤ (tauP (us.take j) σ).length := by
  obtain ⟨d, rfl⟩ : ∃ d, j = i + d := ⟨j - i, by omega⟩
  clear h
  induction d with
  | zero => exact Nat.le_refl _
  | succ d ih => exact Nat.le_trans (ih (by omega)) (tau_len us σ (i + d) (by omega))
theorem Walk.new_at (W : Walk P nt ops st env0 σ us) {k m : Nat} {b : Blk} (h : us[k]? = some (.new m b)) : m = (tauP (us.take k) σ).length ∧ σ.length ≤ m ∧ (tauP (us.take (k + 1)) σ).length = m + 1 := by
  obtain ⟨o, ho⟩ := W.both' h
  have hs := W.step k o _ ho h
  have h1 := hs.1
  have hk : k < us.length := (List.getElem?_eq_some_iff.1 h).1
  have h2 := tau_mono us σ (Nat.zero_le k) (by omega)
  simp only [List.take_zero, tauP] at h2
  refine ⟨h1, by omega, ?_⟩
  rw [take_snoc h, tauP_snoc]
  simp [tauS]; omega
theorem Walk.new_uniq (W : Walk P nt ops st env0 σ us) {k i m : Nat} {b c : Blk} (h : us[k]? = some (.new m b)) (h' : us[i]? = some (.new m c)) : k = i := by
  obtain ⟨a1, a2, a3⟩ := W.new_at h
  obtain ⟨b1, b2, b3⟩ := W.new_at h'
  have hk : k < us.length := (List.getElem?_eq_some_iff.1 h).1
  have hi : i < us.length := (List.getElem?_eq_some_iff.1 h').1
  rcases Nat.lt_trichotomy k i with hlt | he | hlt
  · have := tau_mono us σ (show k + 1 ≤ i by omega) (by omega); omega
  · exact he
  · have := tau_mono us σ (show i + 1 ≤ k by omega) (by omega); omega
theorem mem_done (us : List Out) : ∀ (k i x : Nat) (b : Blk), k < i → us[k]? = some (.put x b) → i ≤ us.length → x ∈ doneP (us.take i) [] := by
  intro k i x b hk h hi
  induction i with
  | zero => omega
  | succ i ih =>
    rw [take_snoc (List.getElem?_eq_getElem (show i < us.length by omega)), doneP_snoc]
    by_cases hki : k = i
    · subst hki
      rw [List.getElem?_eq_getElem (show k < us.length by omega)] at h
      rw [Option.some.inj h]; simp [doneS]
    · have := ih (by omega) (by omega)
      generalize us[i] = u
      cases u <;> simp [doneS, this]
theorem Walk.put_uniq (W : Walk P nt ops st env0 σ us) {k i x : Nat} {b c : Blk} (h : us[k]? = some (.put x b)) (h' : us[i]? = some (.put x c)) : k = i := by
  have key : ∀ (k i : Nat) (b c : Blk), us[k]? = some (.put x b) → us[i]? = some (.put x c) → k < i → False := by
    intro k i b c h h' hlt
    obtain ⟨o, ho⟩ := W.both' h'
    exact (W.step i o _ ho h').2.2.1 (mem_done us k i x b hlt h (Nat.le_of_lt (List.getElem?_eq_some_iff.1 h').1))
  rcases Nat.lt_trichotomy k i with hlt | he | hlt
  · exact (key k i b c h h' hlt).elim
  · exact he
  · exact (key i k c b h' h hlt).elim

theorem mem_news (W : Walk P nt ops st env0 σ us) : ∀ (i : Nat), i ≤ us.length → ∀ (s m : Nat), (s, m) ∈ newsP (ops.toList.take i) (us.take i) [] ↔ ∃ k o b, k < i ∧ ops.toList[k]? = some o ∧ o.dst = some s ∧ us[k]? = some (.new m b) := by
  intro i
  induction i with
  | zero => intro _ s m; simp [newsP]
  | succ i ih =>
    intro hi s m
    have hu := List.getElem?_eq_getElem (show i < us.length by omega)
    obtain ⟨o, ho⟩ := W.both' hu
    rw [take_snoc hu, take_snoc ho, newsP_snoc _ _ _ _ _ (by simp [W.len])]
    have hrec := ih (by omega) s m
    constructor
    · intro h
      have : (s, m) ∈ newsP (ops.toList.take i) (us.take i) [] ∨ ∃ b, o.dst = some s ∧ us[i] = .new m b := by
        unfold newsS at h
        split at h
        · rename_i m' b' d h1 h2
          rcases List.mem_cons.1 h with h | h
          · injection h with e1 e2; subst e1; subst e2; exact .inr ⟨b', h2, h1⟩
          · exact .inl h
        · exact .inl h
      rcases this with h | ⟨b, h1, h2⟩
      · obtain ⟨k, o', b, h1, h2⟩ := hrec.1 h
        exact ⟨k, o', b, by omega, h2⟩
      · exact ⟨i, o, b, by omega, ho, h1, by rw [hu, h2]⟩
    · rintro ⟨k, o', b, h1, h2, h3, h4⟩
      by_cases hk : k = i
      · subst hk
        rw [ho] at h2; injection h2 with h2; subst h2
        rw [hu] at h4; injection h4 with h4
        rw [h4]
        simp [newsS, h3]
      · have := hrec.2 ⟨k, o', b, by omega, h2, h3, h4⟩
        unfold newsS
        split
        · exact List.mem_cons_of_mem _ this
        · exact this

theorem env_at (W : Walk P nt ops st env0 σ us) (t : Nat) : ∀ (i : Nat), i ≤ us.length → (envP (ops.toList.take i) (us.take i) env0).get t =
    match wrI ops.toList 0 t with
    | some k => if k < i then ((us[k]?).map Out.qv).getD (.tup []) else env0.get t
    | none => env0.get t := by
  intro i
  induction i with
  | zero => intro _; simp [envP]; split <;> rfl
  | succ i ih =>
    intro hi
    have hu := List.getElem?_eq_getElem (show i < us.length by omega)
    obtain ⟨o, ho⟩ := W.both' hu
    rw [take_snoc hu, take_snoc ho, envP_snoc _ _ _ _ _ (by simp [W.len])]
    have hrec := ih (by omega)
    by_cases hd : o.dst = some t
    · rw [wrI_of W.shape ho hd]
      simp only [hd, Env.put, Env.get]
      rw [show Nat.beq t t = true by simp, cond_true, if_pos (by omega), hu]
      rfl
    · have hput : ((envP (ops.toList.take i) (us.take i) env0).put o.dst us[i].qv).get t = (envP (ops.toList.take i) (us.take i) env0).get t := by
        cases hdd : o.dst with
        | none => rfl
        | some d =>
          simp only [Env.put, Env.get]
          have : Nat.beq d t = false := by
            cases hb : Nat.beq d t with
            | false => rfl
            | true => exact absurd (by rw [hdd, Nat.eq_of_beq_eq_true hb]) hd
          rw [this, cond_false]
      rw [hput, hrec]
      cases hw : wrI ops.toList 0 t with
      | none => rfl
      | some k =>
        obtain ⟨x, _, h2, h3⟩ := wrI_some _ _ _ _ hw
        rw [Nat.sub_zero] at h2
        have hne : k ≠ i := fun e => by subst e; rw [ho] at h2; injection h2 with h2; subst h2; exact hd h3
        simp only
        by_cases hk : k < i
        · rw [if_pos hk, if_pos (by omega)]
        · rw [if_neg hk, if_neg (by omega)]

/-- the memory ahead of place i -/
theorem tau_at (W : Walk P nt ops st env0 σ us) : ∀ (i : Nat), i ≤ us.length → ∀ x, (tauP (us.take i) σ)[x]? = if x < (tauP (us.take i) σ).length then some (blkS us 0 (firstD us.length i) x (σ.getD x .gone)) else none := by
  intro i
  induction i with
  | zero =>
    intro _ x
    simp only [List.take_zero, tauP]
    split
    · rename_i hx
      rw [blkS_none _ _ _ _ _ (fun k u hu _ => by rw [Nat.zero_add, firstD_get (List.getElem?_eq_some_iff.1 hu).1]; simp)]
      rw [List.getElem?_eq_getElem hx, List.getD_eq_getElem?_getD, List.getElem?_eq_getElem hx]; rfl
    · rename_i hx; exact List.getElem?_eq_none (by omega)
  | succ i ih =>
    intro hi x
    have hin : i < us.length := by omega
    have hu := List.getElem?_eq_getElem hin
    have hrec := ih (by omega) x
    by_cases hx : x < (tauP (us.take (i + 1)) σ).length
    · rw [if_pos hx]
      cases he : (us[i]).eff x with
      | none =>
        have hsame : blkS us 0 (firstD us.length (i + 1)) x (σ.getD x .gone) = blkS us 0 (firstD us.length i) x (σ.getD x .gone) := by
          refine blkS_congr _ _ _ _ _ _ (fun k u hk hne => ?_)
          have hkn := (List.getElem?_eq_some_iff.1 hk).1
          rw [Nat.zero_add, firstD_get hkn, firstD_get hkn]
          have : k ≠ i := fun e => by subst e; rw [hu] at hk; injection hk with hk; subst hk; exact hne he
          exact decide_eq_decide.2 (by omega)
        rw [hsame]
        have hlen : x < (tauP (us.take i) σ).length ∧ (tauP (us.take (i + 1)) σ)[x]? = (tauP (us.take i) σ)[x]? := by
          rw [take_snoc hu, tauP_snoc] at hx ⊢
          generalize hv : us[i] = u at *
          cases u with
          | q v => exact ⟨hx, rfl⟩
          | new m b =>
            have hm := (W.new_at (by rw [hu])).1
            simp only [Out.eff] at he
            simp only [tauS, List.length_append, List.length_singleton] at hx
            have : m ≠ x := fun e => by simp [e] at he
            exact ⟨by omega, by simp only [tauS]; rw [List.getElem?_append_left (by omega)]⟩
          | put y b =>
            simp only [Out.eff] at he
            have : y ≠ x := fun e => by simp [e] at he
            simp only [tauS, List.length_set] at hx
            exact ⟨hx, by simp only [tauS]; rw [List.getElem?_set_ne this]⟩
        rw [hlen.2, hrec, if_pos hlen.1]
      | some b =>
        rw [blkS_last us 0 _ x _ b i _ hu he (by rw [Nat.zero_add, firstD_get hin]; simp) (fun k v hk hv _ => by rw [Nat.zero_add, firstD_get (List.getElem?_eq_some_iff.1 hv).1]; simp; omega)]
        rw [take_snoc hu, tauP_snoc] at hx ⊢
        generalize hv : us[i] = u at *
        cases u with
        | q v => simp [Out.eff] at he
        | new m c =>
          have hm := (W.new_at (by rw [hu])).1
          simp only [Out.eff] at he
          split at he
          · rename_i e; subst e; injection he with he; subst he
            simp only [tauS]; rw [List.getElem?_append_right (by omega), show m - (tauP (us.take i) σ).length = 0 by omega]; rfl
          · cases he
        | put y c =>
          simp only [Out.eff] at he
          split at he
          · rename_i e; subst e; injection he with he; subst he
            simp only [tauS] at hx ⊢; rw [List.getElem?_set_self (by simpa using hx)]
          · cases he
    · rw [if_neg hx]; exact List.getElem?_eq_none (by omega)
end
end Go.R

namespace Go.R
open Go

section
variable {R : Type} {P : Program} {ops : Array Oper} {nt : Nat} {st : List (Nat × Tgt)} {env0 : Env} {σ : List Blk} {us : List Out}

def Closed (ops : Array Oper) (D : Array Bool) : Prop :=
  ∀ (j : Nat) (o : Oper), ops.toList[j]? = some o → D.getD j false = true → ∀ e ∈ o.after, Region.binds .any e = true → D.getD e.on false = true

theorem waitsM_spec (acc : List Nat) (i : Nat) : ∀ (es : List Edge) (m : Nat), Nat.testBit (waitsM acc es m) i = true → Nat.testBit m i = true ∨ ∃ e ∈ es, Region.binds .any e = true ∧ (e.on = i ∨ Nat.testBit (acc.getD e.on 0) i = true)
  | [], m, h => .inl h
  | e :: r, m, h => by
    simp only [waitsM] at h
    rcases waitsM_spec acc i r _ h with h | ⟨e', he, h'⟩
    · cases hb : Region.binds .any e with
      | false => rw [hb] at h; exact .inl h
      | true =>
        rw [hb, cond_true, Nat.testBit_or, Nat.testBit_or, Bool.or_eq_true, Bool.or_eq_true] at h
        rcases h with (h | h) | h
        · exact .inl h
        · rw [Nat.testBit_two_pow, decide_eq_true_eq] at h
          exact .inr ⟨e, by simp, hb, .inl h⟩
        · exact .inr ⟨e, by simp, hb, .inr h⟩
    · exact .inr ⟨e', by simp [he], h'⟩
theorem ancM_spec {D : Array Bool} : ∀ (l pre : List Oper) (acc : List Nat), acc.length = pre.length →
    (∀ (j : Nat) (o : Oper), (pre ++ l)[j]? = some o → D.getD j false = true → ∀ e ∈ o.after, Region.binds .any e = true → D.getD e.on false = true) →
    (∀ (k m i : Nat), acc[k]? = some m → Nat.testBit m i = true → D.getD k false = true → D.getD i false = true) →
    ∀ (k m i : Nat), (ancM l acc)[k]? = some m → Nat.testBit m i = true → D.getD k false = true → D.getD i false = true
  | [], _, acc, _, _, h, k, m, i, hk, hm, hD => h k m i hk hm hD
  | o :: l, pre, acc, hlen, hc, h, k, m, i, hk, hm, hD => by
    simp only [ancM] at hk
    refine ancM_spec l (pre ++ [o]) _ (by simp [hlen]) (by simpa using hc) (fun k m i hk hm hD => ?_) k m i hk hm hD
    by_cases hkl : k < acc.length
    · rw [List.getElem?_append_left hkl] at hk; exact h k m i hk hm hD
    · rw [List.getElem?_append_right (by omega)] at hk
      have hk0 : k - acc.length = 0 := by
        rcases Nat.eq_zero_or_pos (k - acc.length) with h' | h'
        · exact h'
        · rw [List.getElem?_eq_none (by simp; omega)] at hk; cases hk
      rw [hk0] at hk
      simp only [List.getElem?_cons_zero, Option.some.injEq] at hk
      subst hk
      have hkp : k = pre.length := by omega
      subst hkp
      rcases waitsM_spec acc i _ _ hm with hm | ⟨e, he, hb, hm⟩
      · simp at hm
      · have hon := hc pre.length o (by simp) hD e (by simpa using he) hb
        rcases hm with hm | hm
        · rw [← hm]; exact hon
        · cases ha : acc[e.on]? with
          | none => rw [List.getD_eq_getElem?_getD, ha] at hm; simp at hm
          | some m' =>
            rw [List.getD_eq_getElem?_getD, ha] at hm
            exact h e.on m' i ha (by simpa using hm) hon
theorem ancM_length : ∀ (l : List Oper) (acc : List Nat), (ancM l acc).length = acc.length + l.length
  | [], acc => rfl
  | o :: l, acc => by simp only [ancM]; rw [ancM_length l]; simp; omega
theorem mem_storesOf {all : List Oper} {env : Env} : ∀ (l : List Oper) (ms : List Nat) (k : Nat) (o : Oper) (m : Nat) (t : Tgt), l[k]? = some o → ms[k]? = some m → tgtOf all env o.op = some t → (m, t) ∈ storesOf all env l ms
  | [], _, k, _, _, _, h, _, _ => by simp at h
  | _ :: _, [], k, _, _, _, _, h, _ => by simp at h
  | x :: l, y :: ms, k, o, m, t, ho, hm, ht => by
    simp only [storesOf]
    cases k with
    | zero =>
      simp at ho hm; subst ho; subst hm
      rw [ht]; simp
    | succ k =>
      have := mem_storesOf l ms k o m t (by simpa using ho) (by simpa using hm) ht
      split
      · exact List.mem_cons_of_mem _ this
      · exact this

def valD (ops : Array Oper) (env0 : Env) (us : List Out) (D : Array Bool) (t : Nat) : V :=
  match wrI ops.toList 0 t with
  | some k => if D.getD k false = true then ((us[k]?).map Out.val).getD (.tup []) else env0.get t
  | none => env0.get t
def blkAt (σ : List Blk) (us : List Out) (D : Array Bool) (x : Nat) : Blk := blkS us 0 D x (σ.getD x .gone)
def sigD (σ : List Blk) (us : List Out) (D : Array Bool) : List Blk := (List.range (tauP us σ).length).map (blkAt σ us D)
theorem sigD_get (D : Array Bool) (x : Nat) : (sigD σ us D)[x]? = if x < (tauP us σ).length then some (blkAt σ us D x) else none := by
  unfold sigD
  by_cases h : x < (tauP us σ).length
  · rw [if_pos h]; simp [h]
  · rw [if_neg h]; exact List.getElem?_eq_none (by simp; omega)
theorem sigD_length (D : Array Bool) : (sigD σ us D).length = (tauP us σ).length := by simp [sigD]

structure Ready (ops : Array Oper) (D : Array Bool) (i : Nat) (o : Oper) : Prop where
  at_ : ops.toList[i]? = some o
  off : D.getD i false = false
  all : ∀ e ∈ o.after, Region.binds .any e = true → D.getD e.on false = true
theorem ready_of {D : Array Bool} {i : Nat} (h : i ∈ Region.ready .any ops D) (hsz : D.size = ops.size) : ∃ o, Ready ops D i o ∧ i < D.size ∧ D.getD i true = false := by
  obtain ⟨h1, o, h2, h3⟩ := mem_ready.1 h
  have hi : i < D.size := by rw [hsz]; exact (Array.getElem?_eq_some_iff.1 h2).1
  exact ⟨o, ⟨by simpa using h2, by simp [hi] at h1 ⊢; exact h1, h3⟩, hi, h1⟩

/-- what an operation that may come up looks at stands as in the text's order -/
theorem look_order (hS : Shape ops) {D : Array Bool} (hc : Closed ops D) {i k t : Nat} {o x : Oper} (hr : Ready ops D i o) (hx : ops.toList[k]? = some x) (hd : x.dst = some t) (ht : t ∈ o.looksAt ops) : D.getD k false = decide (k < i) := by
  rcases Nat.lt_trichotomy k i with h | h | h
  · rw [decide_eq_true h]
    rcases hS.pair k i x o h hx hr.at_ with ⟨e, he, hb, hon⟩ | hap
    · rw [← hon]; exact hr.all e he hb
    · exact absurd ht ((Oper.apart_spec hap).1 t hd)
  · subst h
    rw [hr.off]; simp
  · rw [show decide (k < i) = false by simp; omega]
    rcases hS.pair i k o x h hr.at_ hx with ⟨e, he, hb, hon⟩ | hap
    · cases hD : D.getD k false with
      | false => rfl
      | true =>
        have := hc k x hx hD e he hb
        rw [hon, hr.off] at this; cases this
    · exact absurd ht ((Oper.apart_spec hap).2.2 t hd)
theorem agree (W : Walk P nt ops st env0 σ us) {D : Array Bool} (hc : Closed ops D) {i t : Nat} {o : Oper} (hr : Ready ops D i o) (ht : t ∈ o.looksAt ops) (hn : isNewT (newsP (ops.toList.take i) (us.take i) []) t = false) :
    valD ops env0 us D t = (envP (ops.toList.take i) (us.take i) env0).get t := by
  have hi : i < us.length := by rw [W.len]; exact (List.getElem?_eq_some_iff.1 hr.at_).1
  rw [env_at W t i (Nat.le_of_lt hi)]
  unfold valD
  cases hw : wrI ops.toList 0 t with
  | none => rfl
  | some k =>
    obtain ⟨x, _, h2, h3⟩ := wrI_some _ _ _ _ hw
    rw [Nat.sub_zero] at h2
    simp only
    rw [look_order W.shape hc hr h2 h3 ht]
    by_cases hk : k < i
    · rw [decide_eq_true hk, if_pos rfl, if_pos hk]
      obtain ⟨u, hu⟩ := W.both h2
      rw [hu]
      cases u with
      | q v => rfl
      | put y b => rfl
      | new m b =>
        exfalso
        have : (t, m) ∈ newsP (ops.toList.take i) (us.take i) [] := (mem_news W i (Nat.le_of_lt hi) t m).2 ⟨k, x, b, hk, h2, h3, hu⟩
        have h4 : isNewT (newsP (ops.toList.take i) (us.take i) []) t = true := List.any_eq_true.2 ⟨(t, m), this, by simp⟩
        rw [h4] at hn; cases hn
    · rw [decide_eq_false hk, if_neg (by simp), if_neg hk]

theorem evTgt_spec {tg : Tgt} {news : List (Nat × Nat)} {env : Env} {o : Oper} {a x : Operand} {b off : Nat} (h : evTgt ops (some tg) news env o a x = some (b, off)) :
    (tg = .new ∧ newX news x = false ∧ off = 0 ∧ ∃ s, a = .tmp s ∧ (s, b) ∈ news) ∨ ((tg = .old b ∨ tg = .any) ∧ looksNew ops news o = false ∧ opr env a = some (.ptr b off)) := by
  have look : ∀ (l : List (Nat × Nat)) (t m : Nat), lookN l t = some m → (t, m) ∈ l := by
    intro l
    induction l with
    | nil => intro t m h; simp [lookN] at h
    | cons p r ih =>
      intro t m h
      obtain ⟨d, m'⟩ := p
      simp only [lookN] at h
      cases hb : Nat.beq d t with
      | true => rw [hb, cond_true] at h; injection h with h; subst h; rw [Nat.eq_of_beq_eq_true hb]; simp
      | false => rw [hb, cond_false] at h; exact List.mem_cons_of_mem _ (ih t m h)
  cases tg with
  | new =>
    left
    simp only [evTgt] at h
    split at h
    · rename_i t
      cases hn : newX news x with
      | true => rw [hn] at h; cases h
      | false =>
        rw [hn, cond_false] at h
        split at h
        · rename_i m hm
          simp only [Option.some.injEq, Prod.mk.injEq] at h
          obtain ⟨rfl, rfl⟩ := h
          exact ⟨rfl, rfl, rfl, t, rfl, look _ _ _ hm⟩
        · cases h
    · cases h
  | old b0 =>
    right
    simp only [evTgt] at h
    cases hn : looksNew ops news o with
    | true => rw [hn] at h; cases h
    | false =>
      rw [hn, cond_false] at h
      split at h
      · rename_i b' off' ha
        cases hb : Nat.beq b' b0 with
        | false => rw [hb] at h; cases h
        | true =>
          rw [hb, cond_true] at h
          simp only [Option.some.injEq, Prod.mk.injEq] at h
          obtain ⟨rfl, rfl⟩ := h
          exact ⟨.inl (by rw [Nat.eq_of_beq_eq_true hb]), rfl, ha⟩
      · cases h
  | any =>
    right
    simp only [evTgt] at h
    cases hn : looksNew ops news o with
    | true => rw [hn] at h; cases h
    | false =>
      rw [hn, cond_false] at h
      split at h
      · rename_i b' off' ha
        simp only [Option.some.injEq, Prod.mk.injEq] at h
        obtain ⟨rfl, rfl⟩ := h
        exact ⟨.inr rfl, rfl, ha⟩
      · cases h

/-- the start: what the frame and the memory are there -/
structure Start (nt : Nat) (env0 : Env) (σ : List Blk) (ρ0 : Rho) (a0 : Act) : Prop where
  env : EnvOK ρ0 σ.length nt env0 a0
  sc : ∀ (x : Nat) (b : Blk), σ[x]? = some b → b.sc σ.length = true

theorem env_sc (W : Walk P nt ops st env0 σ us) {ρ0 : Rho} {a0 : Act} (h0 : Start nt env0 σ ρ0 a0) {i : Nat} (hi : i ≤ us.length) (t : Nat) : ((envP (ops.toList.take i) (us.take i) env0).get t).sc σ.length = true ∧
    (nt ≤ t → ∀ ρ : Rho, (∀ x, x < σ.length → ρ x = ρ0 x) → ((envP (ops.toList.take i) (us.take i) env0).get t).real ρ = undef) := by
  have base : (env0.get t).sc σ.length = true ∧ (nt ≤ t → ∀ ρ : Rho, (∀ x, x < σ.length → ρ x = ρ0 x) → (env0.get t).real ρ = undef) := by
    refine ⟨h0.env.sc t, fun ht ρ hρ => ?_⟩
    have h1 := h0.env.val t
    rw [V.real_ext hρ _ (h0.env.sc t), ← h1]
    have : a0.tmps.size = nt := h0.env.size
    simp [Array.getD, show ¬ t < a0.tmps.size by omega]
  rw [env_at W t i hi]
  cases hw : wrI ops.toList 0 t with
  | none => exact base
  | some k =>
    simp only
    by_cases hk : k < i
    · rw [if_pos hk]
      obtain ⟨x, _, h2, h3⟩ := wrI_some _ _ _ _ hw
      rw [Nat.sub_zero] at h2
      obtain ⟨u, hu⟩ := W.both h2
      rw [hu]
      have hs := W.step k x u h2 hu
      cases u with
      | q v => exact ⟨hs.1, fun ht => absurd ht (Nat.not_le_of_lt (hs.2.2.1 t h3))⟩
      | new m b => exact ⟨by simp [Out.qv, V.sc, scs], fun ht => absurd ht (Nat.not_le_of_lt (hs.2.2.2.1 t h3))⟩
      | put y b => rw [hs.2.1] at h3; cases h3
    · rw [if_neg hk]; exact base
theorem env_act (W : Walk P nt ops st env0 σ us) {ρ ρ0 : Rho} {a0 : Act} (h0 : Start nt env0 σ ρ0 a0) (hρ : ∀ x, x < σ.length → ρ x = ρ0 x) {i : Nat} (hi : i ≤ us.length) : ∃ a, EnvOK ρ σ.length nt (envP (ops.toList.take i) (us.take i) env0) a := by
  refine ⟨{ tmps := (Array.range nt).map fun t => ((envP (ops.toList.take i) (us.take i) env0).get t).real ρ, defers := [] }, by simp, fun t => ?_, fun t => (env_sc W h0 hi t).1, rfl⟩
  by_cases ht : t < nt
  · simp [Array.getD, ht]
  · rw [(env_sc W h0 hi t).2 (by omega) ρ hρ]
    simp [Array.getD, ht]

theorem same_act {a b : Act} {o : Oper} (hs : Region.noSelect ops = true) {i : Nat} (ho : ops.toList[i]? = some o) (hsz : a.tmps.size = b.tmps.size) (h : ∀ t ∈ o.looksAt ops, a.tmps.getD t undef = b.tmps.getD t undef) :
    execOp a.eval o = execOp b.eval o ∧ Region.wanted o (yielded ops a.tmps) = Region.wanted o (yielded ops b.tmps) := by
  refine ⟨execOp_congr o (fun cs bb => Region.noSelect_spec hs i o cs bb (by simpa using ho)) fun x hx => ?_, ?_⟩
  · cases x with
    | tmp t => exact h t (List.mem_append_left _ (List.mem_filterMap.2 ⟨.tmp t, by simpa using hx, rfl⟩))
    | _ => rfl
  · unfold Region.wanted
    cases hg : o.guard with
    | none => rfl
    | some gw =>
      obtain ⟨g, want⟩ := gw
      have : yielded ops a.tmps g = yielded ops b.tmps g := by
        unfold yielded
        cases ht : (ops[g]?).bind (·.dst) with
        | none => rfl
        | some t =>
          have hv := h t (by simp [Oper.looksAt, hg, ht])
          simp only [Option.bind_some]
          by_cases hta : t < a.tmps.size
          · have htb : t < b.tmps.size := hsz ▸ hta
            simp only [Array.getD, hta, htb, dite_true] at hv
            rw [Array.getElem?_eq_getElem hta, Array.getElem?_eq_getElem htb]
            simp only [Array.getInternal_eq_getElem] at hv
            rw [hv]
          · have htb : ¬ t < b.tmps.size := hsz ▸ hta
            rw [Array.getElem?_eq_none (Nat.le_of_not_lt hta), Array.getElem?_eq_none (Nat.le_of_not_lt htb)]
      simp only [this]
end
end Go.R

namespace Go.R
open Go

section
variable {R : Type} {P : Program} {ops : Array Oper} {nt : Nat} {st : List (Nat × Tgt)} {env0 : Env} {σ : List Blk} {us : List Out}

theorem Rel.allocAt {B : Base} {ρ : Rho} {τ : List Blk} {w w' : World} (h : Rel B ρ τ w) {m n0 : Nat} (hm : τ[m]? = some .gone) (hn : n0 ≤ m) (hsc : ∀ (x : Nat) (b : Blk), τ[x]? = some b → b.sc n0 = true) (o : Obj) (b : Blk) (hb : b.sc n0 = true)
    (hw : w'.heap = w.heap.push o) (ho : w'.os = w.os) (ht : w'.tape = w.tape) (hp : w'.output = w.output) (ρ' : Rho) (hold : ∀ j, j ≠ m → ρ' j = ρ j) (hnew : ρ' m = (w.heap.size, 0)) (hat : b.At ρ' m w') : Rel B ρ' (τ.set m b) w' := by
  have hlt : m < τ.length := (List.getElem?_eq_some_iff.1 hm).1
  have hcase : ∀ (i : Nat) (x : Blk), (τ.set m b)[i]? = some x → (i ≠ m ∧ τ[i]? = some x) ∨ (i = m ∧ x = b) := by
    intro i x hx
    by_cases hi : m = i
    · subst hi; rw [List.getElem?_set_self hlt] at hx; exact .inr ⟨rfl, (Option.some.inj hx).symm⟩
    · rw [List.getElem?_set_ne hi] at hx; exact .inl ⟨fun h => hi h.symm, hx⟩
  have hheap : ∀ k, k < w.heap.size → w'.heap[k]? = w.heap[k]? := fun k hk => by rw [hw, Array.getElem?_push, if_neg (by omega)]
  have hsz : w'.heap.size = w.heap.size + 1 := by rw [hw]; simp
  refine ⟨fun i x hx => ?_, fun i x hx hl => ?_, fun i j bi bj hi hj h1 h2 hq he => ?_, fun i x hx => ?_, fun i x hx hr => ?_, ?_⟩
  · rcases hcase i x hx with ⟨hi, hx⟩ | ⟨hi, hx0⟩
    · exact (h.at_ i x hx).congr (hsc i x hx) (fun j hj => hold j (by omega)) (hold i hi) (fun hl => hheap _ (h.lt i x hx hl))
    · subst hi; rw [hx0]; exact hat
  · rcases hcase i x hx with ⟨hi, hx⟩ | ⟨hi, hx⟩
    · have := h.lt i x hx hl
      rw [hold i hi]; omega
    · subst hi; rw [hnew]; omega
  · rcases hcase i bi hi with ⟨hi', hi2⟩ | ⟨hi2, hi3⟩ <;> rcases hcase j bj hj with ⟨hj', hj2⟩ | ⟨hj2, hj3⟩
    · rw [hold i hi', hold j hj'] at he
      exact h.inj i j bi bj hi2 hj2 h1 h2 hq he
    · have := h.lt i bi hi2 h1
      rw [hold i hi', hj2, hnew] at he
      simp only at he; omega
    · have := h.lt j bj hj2 h2
      rw [hold j hj', hi2, hnew] at he
      simp only at he; omega
    · omega
  · rw [List.length_set]
    have hle : n0 ≤ τ.length := by omega
    rcases hcase i x hx with ⟨hi, hx⟩ | ⟨hi, hx⟩
    · exact h.sc i x hx
    · subst hx
      exact Blk.sc_mono hle hb
  · rcases hcase i x hx with ⟨hi, hx⟩ | ⟨hi, hx⟩
    · rw [hold i hi]; exact h.wr i x hx hr
    · subst hi
      rw [hnew]
      exact .inr h.keeps.size
  · exact ⟨ho.trans h.keeps.os, ht.trans h.keeps.tape, hp.trans h.keeps.output, by have := h.keeps.size; omega,
      fun k hk hs => (hheap k (Nat.lt_of_lt_of_le hk h.keeps.size)).trans (h.keeps.block k hk hs)⟩

theorem wp_of_quietAt {o : Oper} {a : Act} {w : World} {v : Value} {K : Act → World → Prop} {Q : Exit → Act → World → Prop} (h : o.quietAt P a (Grown w) w v) (hK : ∀ w', Grown w w' → K (a.put o.dst v) w') : o.wp P a w K Q := by
  have hself : Grown w w := ⟨rfl, rfl, rfl, Nat.le_refl _, fun _ _ => rfl⟩
  unfold Oper.quietAt at h
  unfold Oper.wp
  generalize (execOp a.eval o).run P w = r at *
  cases r with
  | ok n w' =>
    cases n <;> simp only [Oper.quietUpon] at h <;> simp only [Oper.upon]
    case value u => obtain ⟨e1, e2⟩ := h; rw [e1, e2]; exact hK _ hself
    case skip => obtain ⟨e1, e2⟩ := h; rw [e1, ← e2]; exact hK _ hself
    case enter f args =>
      obtain ⟨e1, hc⟩ := h
      rw [e1]
      exact hc.mono fun e w'' ⟨he, hw''⟩ => by subst he; exact hK _ hw''
  | halt x w' => simp only [Oper.quietUpon] at h

theorem eff_q {v : V} {x : Nat} : (Out.q v).eff x = none := rfl
theorem eff_some {u : Out} {x : Nat} (h : u.eff x ≠ none) : (∃ b, u = .new x b ∧ u.eff x = some b) ∨ ∃ b, u = .put x b ∧ u.eff x = some b := by
  cases u with
  | q v => exact absurd rfl h
  | new m b =>
    by_cases hm : m = x
    · subst hm; exact .inl ⟨b, rfl, by simp [Out.eff]⟩
    · simp [Out.eff, hm] at h
  | put m b =>
    by_cases hm : m = x
    · subst hm; exact .inr ⟨b, rfl, by simp [Out.eff]⟩
    · simp [Out.eff, hm] at h

/-- a store goes to a block that was there, or to one that its operand made -/
theorem Walk.put_at (W : Walk P nt ops st env0 σ us) {ρ0 : Rho} {a0 : Act} (h0 : Start nt env0 σ ρ0 a0) {k x : Nat} {b : Blk} (h : us[k]? = some (.put x b)) :
    ∃ o t a y v off blk inf tg, ops.toList[k]? = some o ∧ o.op = .store t a y ∧ tgtOf ops.toList env0 o.op = some tg ∧ o.guard = none ∧ o.dst = none ∧ opr (envP (ops.toList.take k) (us.take k) env0) y = some v ∧
      (tauP (us.take k) σ)[x]? = some blk ∧ storeB v off blk = some (true, b) ∧ b.sc σ.length = true ∧ P.info? t = some inf ∧ inf.size = v.size ∧
      ((tg = .new ∧ σ.length ≤ x ∧ newX (newsP (ops.toList.take k) (us.take k) []) y = false ∧ off = 0 ∧ ∃ s i oi c, a = .tmp s ∧ s ∈ o.looksAt ops ∧ i < k ∧ ops.toList[i]? = some oi ∧ oi.dst = some s ∧ us[i]? = some (.new x c)) ∨
       ((tg = .old x ∨ tg = .any) ∧ x < σ.length ∧ looksNew ops (newsP (ops.toList.take k) (us.take k) []) o = false ∧ opr (envP (ops.toList.take k) (us.take k) env0) a = some (.ptr x off))) := by
  obtain ⟨o, ho⟩ := W.both' h
  have hk : k < us.length := (List.getElem?_eq_some_iff.1 h).1
  obtain ⟨hg, hd, _, t, a, y, v, off, blk, inf, tg, e1, e2, e3, e4, e5, e6, e7, e8, e9⟩ := W.step k o _ ho h
  refine ⟨o, t, a, y, v, off, blk, inf, tg, ho, e1, e2, hg, hd, e4, e5, e6, e7, e8, e9, ?_⟩
  rcases evTgt_spec e3 with ⟨h1, h2, h3, s, h4, h5⟩ | ⟨h1, h2, h3⟩
  · left
    obtain ⟨i, oi, c, g1, g2, g3, g4⟩ := (mem_news W k (Nat.le_of_lt hk) s x).1 h5
    refine ⟨h1, (W.new_at g4).2.1, h2, h3, s, i, oi, c, h4, ?_, g1, g2, g3, g4⟩
    subst h4
    exact List.mem_append_left _ (List.mem_filterMap.2 ⟨.tmp s, by rw [e1]; simp [Op.operands], rfl⟩)
  · right
    refine ⟨h1, ?_, h2, h3⟩
    obtain ⟨a', he⟩ := env_act W h0 (fun _ _ => rfl) (Nat.le_of_lt hk)
    have := (opr_spec he h3).2
    simp only [V.sc, Nat.ble_eq] at this
    omega

theorem blk_sc (W : Walk P nt ops st env0 σ us) {ρ0 : Rho} {a0 : Act} (h0 : Start nt env0 σ ρ0 a0) (D : Array Bool) (x : Nat) : (blkAt σ us D x).sc σ.length = true := by
  have key : ∀ (l : List Out) (j : Nat) (c : Blk), (∀ (k : Nat) (u : Out) (b : Blk), l[k]? = some u → u.eff x = some b → b.sc σ.length = true) → c.sc σ.length = true → (blkS l j D x c).sc σ.length = true := by
    intro l
    induction l with
    | nil => intro j c _ hc; exact hc
    | cons u l ih =>
      intro j c h hc
      simp only [blkS]
      refine ih _ _ (fun k v b hv he => h (k + 1) v b (by simpa using hv) he) ?_
      split
      · cases he : u.eff x with
        | none => exact hc
        | some b => exact h 0 u b rfl he
      · exact hc
  refine key us 0 _ (fun k u b hu he => ?_) ?_
  · rcases eff_some (u := u) (x := x) (by rw [he]; simp) with ⟨c, rfl, hc⟩ | ⟨c, rfl, hc⟩
    · rw [hc] at he; injection he with he; subst he
      obtain ⟨o, ho⟩ := W.both' hu
      obtain ⟨_, _, _, _, d, e, y, _, _, rfl, hys⟩ := W.step k o _ ho hu
      exact newBlk_sc hys
    · rw [hc] at he; injection he with he; subst he
      obtain ⟨_, _, _, _, _, _, _, _, _, _, _, _, _, _, _, _, _, hs, _⟩ := W.put_at h0 hu
      exact hs
  · rw [List.getD_eq_getElem?_getD]
    cases hx : σ[x]? with
    | none => rfl
    | some b => exact h0.sc x b hx

theorem getD_set {D : Array Bool} {i k : Nat} (hi : i < D.size) : (D.setIfInBounds i true).getD k false = if i = k then true else D.getD k false := by
  by_cases h : i = k
  · subst h; simp [hi]
  · rw [if_neg h, getD_set_ne false h]
theorem closed_set {D : Array Bool} {i : Nat} {o : Oper} (hc : Closed ops D) (hr : Ready ops D i o) (hi : i < D.size) : Closed ops (D.setIfInBounds i true) := by
  intro j x hx hD e he hb
  rw [getD_set hi] at hD ⊢
  by_cases hij : i = j
  · subst hij
    rw [hr.at_] at hx; injection hx with hx; subst hx
    have := hr.all e he hb
    split
    · rfl
    · exact this
  · rw [if_neg hij] at hD
    have := hc j x hx hD e he hb
    split
    · rfl
    · exact this
theorem valD_set (hS : Shape ops) {D : Array Bool} {i t : Nat} {o : Oper} {u : Out} (ho : ops.toList[i]? = some o) (hu : us[i]? = some u) (hi : i < D.size) :
    valD ops env0 us (D.setIfInBounds i true) t = if o.dst = some t then u.val else valD ops env0 us D t := by
  unfold valD
  by_cases hd : o.dst = some t
  · rw [if_pos hd, wrI_of hS ho hd]
    simp only [getD_set hi, if_true, hu, Option.map_some, Option.getD_some]
  · rw [if_neg hd]
    cases hw : wrI ops.toList 0 t with
    | none => rfl
    | some k =>
      obtain ⟨x, _, h2, h3⟩ := wrI_some _ _ _ _ hw
      rw [Nat.sub_zero] at h2
      have : i ≠ k := fun e => by subst e; rw [ho] at h2; injection h2 with h2; subst h2; exact hd h3
      simp only [getD_set hi, if_neg this]
theorem blk_same {D : Array Bool} {i x : Nat} {u : Out} (hu : us[i]? = some u) (he : u.eff x = none) (hi : i < D.size) : blkAt σ us (D.setIfInBounds i true) x = blkAt σ us D x := by
  refine blkS_congr _ _ _ _ _ _ (fun k v hk hne => ?_)
  rw [Nat.zero_add, getD_set hi]
  have : i ≠ k := fun e => by subst e; rw [hu] at hk; injection hk with hk; subst hk; exact hne he
  rw [if_neg this]
theorem put_getD {a : Act} {d : Option Nat} {v : Value} (hd : ∀ t, d = some t → t < a.tmps.size) (t : Nat) : (a.put d v).tmps.getD t undef = if d = some t then v else a.tmps.getD t undef := by
  cases d with
  | none => rfl
  | some d =>
    have hd' := hd d rfl
    by_cases h : d = t
    · subst h; simp [Act.put, Array.getD, hd']
    · rw [if_neg (fun e => h (Option.some.inj e))]
      simp only [Act.put, Array.getD_eq_getD_getElem?, Array.getElem?_setIfInBounds_ne h]

/-- what stands, when so much came up -/
def InvD (nt : Nat) (ops : Array Oper) (env0 : Env) (σ : List Blk) (us : List Out) (B : Base) (ρ0 : Rho) (D : Array Bool) (a : Act) (w : World) : Prop :=
  D.size = ops.size ∧ Closed ops D ∧ a.tmps.size = nt ∧ a.defers = [] ∧ ∃ ρ : Rho, (∀ x, x < σ.length → ρ x = ρ0 x) ∧ (∀ t, a.tmps.getD t undef = (valD ops env0 us D t).real ρ) ∧ Rel B ρ (sigD σ us D) w

/-- what an operation may read is as in the text's order -/
theorem mask_rel (W : Walk P nt ops (storesOf ops.toList env0 ops.toList (ancM ops.toList [])) env0 σ us) {ρ0 : Rho} {a0 : Act} (h0 : Start nt env0 σ ρ0 a0) {B : Base} {ρ : Rho} {w : World} {D : Array Bool} (hc : Closed ops D) {i : Nat} {o : Oper} (hr : Ready ops D i o)
    (h : Rel B ρ (sigD σ us D) w) : Rel B ρ (maskB (storesOf ops.toList env0 ops.toList (ancM ops.toList [])) i σ) w := by
  refine h.weaken fun x b hb => ?_
  by_cases hgone : b = .gone
  · exact .inl hgone
  · right
    rcases maskB_get _ _ _ _ _ hb with hb' | hb'
    · exact absurd hb' hgone
    · have hx : x < σ.length := (List.getElem?_eq_some_iff.1 hb').1
      have hlen : σ.length ≤ (tauP us σ).length := by
        have := tau_mono us σ (Nat.zero_le us.length) (Nat.le_refl _)
        simpa [tauP] using this
      refine ⟨?_, by rw [maskB_length]; exact h0.sc x b hb'⟩
      rw [sigD_get, if_pos (by omega)]
      unfold blkAt
      rw [blkS_none]
      · rw [List.getD_eq_getElem?_getD, hb']; rfl
      · intro k u hu hne
        rw [Nat.zero_add]
        cases hD : D.getD k false with
        | false => rfl
        | true =>
          exfalso
          rcases eff_some hne with ⟨c, rfl, _⟩ | ⟨c, rfl, _⟩
          · have := (W.new_at hu).2.1; omega
          · obtain ⟨ok, t, ad, y, v, off, blk, inf, tg, ho, _, htg, _, _, _, _, _, _, _, _, hor⟩ := W.put_at h0 hu
            rcases hor with ⟨_, hge, _⟩ | ⟨htg', _, _, _⟩
            · omega
            · have hkl : k < ops.toList.length := (List.getElem?_eq_some_iff.1 ho).1
              obtain ⟨m, hm⟩ : ∃ m, (ancM ops.toList [])[k]? = some m := ⟨_, List.getElem?_eq_getElem (by rw [ancM_length]; simpa using hkl)⟩
              have hmem := mem_storesOf (all := ops.toList) (env := env0) ops.toList (ancM ops.toList []) k ok m tg ho hm htg
              cases htb : Nat.testBit m i with
              | true =>
                have := ancM_spec (D := D) ops.toList [] [] rfl (fun j o hj => hc j o (by simpa using hj)) (fun k m i hk => by simp at hk) k m i hm htb hD
                rw [hr.off] at this; cases this
              | false => exact hgone (maskB_hides _ _ _ _ _ _ _ hmem htb htg' hb)

theorem newOf_run {op : Op} {o : Oper} (hop : o.op = op) {env : Env} {e : TypeId} {y : V} (h : newOf P op env = some (e, y)) {ρ : Rho} {n : Nat} {a : Act} (he : EnvOK ρ n nt env a) (w : World) :
    (execOp a.eval o).run P w = .ok (.value (.pointer (some ⟨w.heap.size, 0, none⟩))) { w with heap := w.heap.push (.cells (reals ρ y.cellsL).toArray e) } := by
  unfold newOf at h
  split at h
  · rename_i e'
    split at h
    · rename_i i hi
      split at h
      · rename_i z hz
        split at h
        · rename_i zv hzv
          simp only [Option.some.injEq, Prod.mk.injEq] at h
          obtain ⟨rfl, rfl⟩ := h
          have hcs : z.cells = (reals ρ (compact zv).cellsL).toArray := by
            rw [compact_cells, ← V.cellsL_real, (V.of_spec hzv ρ 0).1]
          simp only [execOp, hop]
          refine run_val ?_
          unfold Instr.alloc
          rw [run_bind_ok (run_zeroValue' hi hz w)]
          simp [newVar, newRow, newObj, bind, Sem.bind, Sem.run, pure, hcs]
        · cases h
      · cases h
    · cases h
  · rename_i e' x
    split at h
    · rename_i v hx
      simp only [Option.some.injEq, Prod.mk.injEq] at h
      obtain ⟨rfl, rfl⟩ := h
      obtain ⟨g1, g2⟩ := opr_spec he hx
      simp only [execOp, hop, g1]
      refine run_val ?_
      unfold Instr.box
      simp [newVar, newRow, newObj, bind, Sem.bind, Sem.run, pure, V.cellsL_real]
    · cases h
  · cases h

/-- one more that comes up -/
theorem inv_step (W : Walk P nt ops (storesOf ops.toList env0 ops.toList (ancM ops.toList [])) env0 σ us) {B : Base} {ρ0 : Rho} {a0 : Act} (h0 : Start nt env0 σ ρ0 a0) {D : Array Bool} {a : Act} {w : World} {i : Nat} {Q : Exit → Act → World → Prop}
    (hI : InvD nt ops env0 σ us B ρ0 D a w) (hi : i ∈ Region.ready .any ops D) : wpOp P ops Q i (InvD nt ops env0 σ us B ρ0 (D.setIfInBounds i true)) a w := by
  obtain ⟨hsz, hc, hnt, hdf, ρ, hρ, hval, hrel⟩ := hI
  obtain ⟨o, hr, hiD, _⟩ := ready_of hi hsz
  obtain ⟨u, hu⟩ := W.both hr.at_
  have hil : i < us.length := (List.getElem?_eq_some_iff.1 hu).1
  obtain ⟨ai, he⟩ := env_act W h0 hρ (Nat.le_of_lt hil)
  have hstep := W.step i o u hr.at_ hu
  have hop : ops[i]? = some o := by simpa using hr.at_
  have hsz' : (D.setIfInBounds i true).size = ops.size := by simp [hsz]
  have hcl := closed_set hc hr hiD
  have hlook : looksNew ops (newsP (ops.toList.take i) (us.take i) []) o = false → execOp a.eval o = execOp ai.eval o ∧ Region.wanted o (yielded ops a.tmps) = Region.wanted o (yielded ops ai.tmps) := by
    intro hn
    refine same_act W.shape.sel hr.at_ (by rw [hnt, he.size]) fun t ht => ?_
    have hnt' : isNewT (newsP (ops.toList.take i) (us.take i) []) t = false := by
      cases hb : isNewT (newsP (ops.toList.take i) (us.take i) []) t with
      | false => rfl
      | true => rw [show looksNew ops (newsP (ops.toList.take i) (us.take i) []) o = true from List.any_eq_true.2 ⟨t, ht, hb⟩] at hn; cases hn
    rw [hval t, agree W hc hr ht hnt', ← he.val t]
  unfold wpOp
  simp only [hop]
  cases u with
  | q v =>
    obtain ⟨hv, hn, hd, hW⟩ := hstep
    obtain ⟨e1, e2⟩ := hlook hn
    have next : ∀ w', Grown w w' → InvD nt ops env0 σ us B ρ0 (D.setIfInBounds i true) (a.put o.dst (v.real ρ)) w' := by
      intro w' hg
      refine ⟨hsz', hcl, ?_, ?_, ρ, hρ, fun t => ?_, ?_⟩
      · cases o.dst <;> simp [Act.put, hnt]
      · cases o.dst <;> exact hdf
      · rw [put_getD (fun t ht => by rw [hnt]; exact hd t ht), valD_set W.shape hr.at_ hu hiD]
        split
        · rfl
        · exact hval t
      · have : sigD σ us (D.setIfInBounds i true) = sigD σ us D := by
          unfold sigD
          exact List.map_congr_left fun x _ => blk_same hu rfl hiD
        rw [this]
        exact hrel.grown hg
    rcases hW B ρ ai w he (mask_rel W h0 hc hr hrel) with ⟨h1, h2⟩ | ⟨h1, h2⟩
    · rw [if_pos (by rw [e2]; exact h1)]
      left
      refine wp_of_quietAt ?_ next
      unfold Oper.quietAt at h2 ⊢
      rw [e1]; exact h2
    · rw [if_neg (by rw [e2, h1]; exact Bool.false_ne_true)]
      have := next w ⟨rfl, rfl, rfl, Nat.le_refl _, fun _ _ => rfl⟩
      rw [h2] at this
      simpa [V.real, reals, undef] using this
  | new m b =>
    obtain ⟨hm, hg, hn, hd, d, e, y, hdd, hnew, rfl, hys⟩ := hstep
    obtain ⟨e1, e2⟩ := hlook hn
    obtain ⟨hm1, hm2, hm3⟩ := W.new_at hu
    have hmN : m < (tauP us σ).length := by
      have := tau_mono us σ (show i + 1 ≤ us.length by omega) (Nat.le_refl _)
      simp at this; omega
    rw [if_pos (by unfold Region.wanted; rw [hg])]
    left
    have hrun := newOf_run (P := P) (o := o) rfl hnew he w
    rw [← e1] at hrun
    unfold Oper.wp
    rw [hrun]
    simp only [Oper.upon]
    have heff : ∀ (k : Nat) (v : Out), us[k]? = some v → v.eff m ≠ none → D.getD k false = false := by
      intro k v hv hne
      rcases eff_some hne with ⟨c, rfl, _⟩ | ⟨c, rfl, _⟩
      · rw [W.new_uniq hv hu]; exact hr.off
      · obtain ⟨ok, t, ad, y', v', off, blk, inf, tg, hok, hopk, _, _, _, _, _, _, _, _, _, hor⟩ := W.put_at h0 hv
        rcases hor with ⟨_, _, _, _, s, i', oi, c', hs1, hs2, hs3, hs4, hs5, hs6⟩ | ⟨_, hlt, _⟩
        · have hii := W.new_uniq hs6 hu
          subst hii
          rw [hr.at_] at hs4; injection hs4 with hs4; subst hs4
          cases hD : D.getD k false with
          | false => rfl
          | true =>
            rcases W.shape.pair i' k o ok hs3 hr.at_ hok with ⟨e', he', hb', hon⟩ | hap
            · have := hc k ok hok hD e' he' hb'
              rw [hon, hr.off] at this; cases this
            · exact absurd hs2 ((Oper.apart_spec hap).1 s hs5)
        · omega
    have hgone : (sigD σ us D)[m]? = some .gone := by
      rw [sigD_get, if_pos hmN]
      unfold blkAt
      rw [blkS_none _ _ _ _ _ (fun k v hv hne => by rw [Nat.zero_add]; exact heff k v hv hne)]
      rw [List.getD_eq_getElem?_getD, List.getElem?_eq_none hm2]; rfl
    have hold : ∀ j, j ≠ m → (fun x => if x = m then (w.heap.size, 0) else ρ x : Rho) j = ρ j := fun j hj => by simp [hj]
    have hnewρ : (fun x => if x = m then (w.heap.size, 0) else ρ x : Rho) m = (w.heap.size, 0) := by simp
    generalize hρ' : (fun x => if x = m then (w.heap.size, 0) else ρ x : Rho) = ρ' at hold hnewρ
    clear hρ'
    have hscx : ∀ (v : V), v.sc σ.length = true → v.real ρ' = v.real ρ := fun v hv => V.real_ext (fun j hj => hold j (by omega)) v hv
    refine ⟨hsz', hcl, by rw [hdd]; simp [Act.put, hnt], by rw [hdd]; exact hdf, ρ', fun x hx => by rw [hold x (by omega)]; exact hρ x hx, fun t => ?_, ?_⟩
    · rw [put_getD (fun t ht => by rw [hnt]; exact hd t ht), valD_set W.shape hr.at_ hu hiD]
      split
      · simp only [Out.val, V.real, hnewρ]
      · rw [hval t]
        symm
        unfold valD
        cases hw : wrI ops.toList 0 t with
        | none => exact hscx _ (h0.env.sc t)
        | some k =>
          simp only
          split
          · rename_i hDk
            obtain ⟨x, _, h2, _⟩ := wrI_some _ _ _ _ hw
            rw [Nat.sub_zero] at h2
            obtain ⟨v, hv⟩ := W.both h2
            rw [hv]
            have hs := W.step k x v h2 hv
            cases v with
            | q v => exact hscx _ hs.1
            | put y b => simp [Out.val, V.real, reals]
            | new m' c =>
              have hne : m' ≠ m := by
                intro e; subst e
                have := W.new_uniq hv hu
                subst this
                rw [hr.off] at hDk; cases hDk
              simp only [Option.map_some, Option.getD_some, Out.val, V.real, hold m' hne]
          · exact hscx _ (h0.env.sc t)
    · have hσ : sigD σ us (D.setIfInBounds i true) = (sigD σ us D).set m (newBlk e y) := by
        refine List.ext_getElem? fun x => ?_
        rw [sigD_get]
        by_cases hx : m = x
        · subst hx
          rw [if_pos hmN, List.getElem?_set_self (by rw [sigD_length]; exact hmN)]
          congr 1
          exact blkS_last us 0 _ m _ _ i _ hu (by simp [Out.eff]) (by rw [Nat.zero_add, getD_set hiD]; simp) (fun k v hk hv hne => by
            rw [Nat.zero_add, getD_set hiD, if_neg (by omega)]; exact heff k v hv hne)
        · rw [List.getElem?_set_ne hx, sigD_get]
          split
          · congr 1
            exact blk_same hu (by simp [Out.eff, hx]) hiD
          · rfl
      rw [hσ]
      refine Rel.allocAt (w' := { w with heap := w.heap.push (.cells (reals ρ y.cellsL).toArray e) }) hrel hgone hm2 (fun x b hb => ?_) (.cells (reals ρ y.cellsL).toArray e) (newBlk e y) (newBlk_sc hys) rfl rfl rfl rfl ρ' hold hnewρ ?_
      · rw [sigD_get] at hb
        split at hb
        · injection hb with hb; rw [← hb]; exact blk_sc W h0 D x
        · cases hb
      · refine newBlk_At ?_
        rw [hnewρ]
        simp only [Array.getElem?_push_size]
        rw [reals_eq, reals_eq]
        congr 3
        refine List.map_congr_left fun v hv => ?_
        exact (hscx v ((scs_iff _ _).1 (V.cellsL_sc hys) v hv)).symm
  | put x b =>
    obtain ⟨ok, t, ad, y, v, off, blk, inf, tg, hok, hop', htg, hg, hdst, hy, htau, hst, hbsc, hinf, hisz, hor⟩ := W.put_at h0 hu
    rw [hr.at_] at hok; injection hok with hok; subst hok
    rw [if_pos (by unfold Region.wanted; rw [hg])]
    left
    have hxN : x < (tauP us σ).length := by
      have h1 := (List.getElem?_eq_some_iff.1 htau).1
      have := tau_mono us σ (show i ≤ us.length by omega) (Nat.le_refl _)
      simp at this; omega
    have hsn : (tauP us σ).length = (sigD σ us D).length := (sigD_length D).symm
    have hle : σ.length ≤ (tauP us σ).length := by
      have := tau_mono us σ (Nat.zero_le us.length) (Nat.le_refl _)
      simpa [tauP] using this
    -- the operands
    have hey : a.eval y = v.real ρ ∧ v.sc σ.length = true := by
      obtain ⟨g1, g2⟩ := opr_spec he hy
      refine ⟨?_, g2⟩
      rw [← g1]
      cases y with
      | tmp s =>
        have hs : s ∈ o.looksAt ops := List.mem_append_left _ (List.mem_filterMap.2 ⟨.tmp s, by rw [hop']; simp [Op.operands], rfl⟩)
        have hns : isNewT (newsP (ops.toList.take i) (us.take i) []) s = false := by
          rcases hor with ⟨_, _, h3, _⟩ | ⟨_, _, h3, _⟩
          · exact h3
          · cases hb : isNewT (newsP (ops.toList.take i) (us.take i) []) s with
            | false => rfl
            | true => rw [show looksNew ops (newsP (ops.toList.take i) (us.take i) []) o = true from List.any_eq_true.2 ⟨s, hs, hb⟩] at h3; cases h3
        show a.tmps.getD s undef = ai.tmps.getD s undef
        rw [hval s, agree W hc hr hs hns, ← he.val s]
      | _ => rfl
    have hea : a.eval ad = .pointer (some ⟨(ρ x).1, off, none⟩) := by
      rcases hor with ⟨_, _, _, h3, s, k, ok, c, hs1, hs2, hs3, hs4, hs5, hs6⟩ | ⟨_, _, h3, h4⟩
      · subst hs1; subst h3
        show a.tmps.getD s undef = _
        rw [hval s]
        unfold valD
        rw [wrI_of W.shape hs4 hs5]
        simp only
        rw [look_order W.shape hc hr hs4 hs5 hs2, decide_eq_true hs3, if_pos rfl, hs6]
        simp [Out.val, V.real]
      · obtain ⟨g1, _⟩ := opr_spec he h4
        rw [show a.eval ad = ai.eval ad from ?_, g1]; rfl
        cases ad with
        | tmp s =>
          have hs : s ∈ o.looksAt ops := List.mem_append_left _ (List.mem_filterMap.2 ⟨.tmp s, by rw [hop']; simp [Op.operands], rfl⟩)
          have hns : isNewT (newsP (ops.toList.take i) (us.take i) []) s = false := by
            cases hb : isNewT (newsP (ops.toList.take i) (us.take i) []) s with
            | false => rfl
            | true => rw [show looksNew ops (newsP (ops.toList.take i) (us.take i) []) o = true from List.any_eq_true.2 ⟨s, hs, hb⟩] at h3; cases h3
          show a.tmps.getD s undef = ai.tmps.getD s undef
          rw [hval s, agree W hc hr hs hns, ← he.val s]
        | _ => rfl
    -- the block
    have hblk : (sigD σ us D)[x]? = some blk := by
      rw [sigD_get, if_pos hxN]
      rw [tau_at W i (Nat.le_of_lt hil) x] at htau
      split at htau
      · rw [← htau]
        congr 1
        refine blkS_congr _ _ _ _ _ _ (fun k v' hv' hne => ?_)
        rw [Nat.zero_add, firstD_get (List.getElem?_eq_some_iff.1 hv').1]
        rcases eff_some hne with ⟨c, rfl, _⟩ | ⟨c, rfl, _⟩
        · rcases hor with ⟨_, _, _, _, s, k', ok, c', hs1, hs2, hs3, hs4, hs5, hs6⟩ | ⟨_, hlt, _⟩
          · have := W.new_uniq hv' hs6
            subst this
            exact look_order W.shape hc hr hs4 hs5 hs2
          · have := (W.new_at hv').2.1; omega
        · rw [W.put_uniq hv' hu, hr.off]; simp
      · cases htau
    obtain ⟨w', h1, h2⟩ := storeB_sound (P := P) (t := t) hrel hblk hst (V.sc_mono (by rw [← hsn]; exact hle) _ hey.2) hinf hisz
    have hrun : (execOp a.eval o).run P w = .ok .skip w' := by
      simp only [execOp, hop', hea, hey.1]
      rw [run_bind_ok (show (Instr.storeAt t (.pointer (some ⟨(ρ x).1, off, none⟩)) (v.real ρ)).run P w = .ok () w' by
        unfold Instr.storeAt
        rw [run_bind_ok (show (Instr.sureAddr (.pointer (some ⟨(ρ x).1, off, none⟩))).run P w = .ok ⟨(ρ x).1, off, none⟩ w from rfl)]
        exact h1)]
      rfl
    unfold Oper.wp
    rw [hrun]
    simp only [Oper.upon]
    refine ⟨hsz', hcl, by rw [hdst]; exact hnt, by rw [hdst]; exact hdf, ρ, hρ, fun t => ?_, ?_⟩
    · rw [put_getD (fun t ht => by rw [hdst] at ht; cases ht), valD_set W.shape hr.at_ hu hiD, if_neg (by rw [hdst]; simp), if_neg (by rw [hdst]; simp)]
      exact hval t
    · have hσ : sigD σ us (D.setIfInBounds i true) = (sigD σ us D).set x b := by
        refine List.ext_getElem? fun z => ?_
        rw [sigD_get]
        by_cases hz : x = z
        · subst hz
          rw [if_pos hxN, List.getElem?_set_self (by rw [sigD_length]; exact hxN)]
          congr 1
          refine blkS_last us 0 _ x _ _ i _ hu (by simp [Out.eff]) (by rw [Nat.zero_add, getD_set hiD]; simp) (fun k v' hk hv' hne => ?_)
          rw [Nat.zero_add, getD_set hiD, if_neg (by omega)]
          rcases eff_some hne with ⟨c, rfl, _⟩ | ⟨c, rfl, _⟩
          · rcases hor with ⟨_, _, _, _, s, k', ok, c', hs1, hs2, hs3, hs4, hs5, hs6⟩ | ⟨_, hlt, _⟩
            · have := W.new_uniq hv' hs6; omega
            · have := (W.new_at hv').2.1; omega
          · have := W.put_uniq hv' hu; omega
        · rw [List.getElem?_set_ne hz, sigD_get]
          split
          · congr 1
            exact blk_same hu (by simp [Out.eff, hz]) hiD
          · rfl
      rw [hσ]; exact h2

theorem newsE_get : ∀ (ns : List (Nat × Nat)) (env : Env) (t : Nat), ((newsE ns env).get t = env.get t ∧ ∀ m, (t, m) ∉ ns) ∨ ∃ m, (t, m) ∈ ns ∧ (newsE ns env).get t = .ptr m 0
  | [], env, t => .inl ⟨rfl, by simp⟩
  | (d, m) :: r, env, t => by
    simp only [newsE, Env.get]
    cases hb : Nat.beq d t with
    | true => rw [cond_true, Nat.eq_of_beq_eq_true hb]; exact .inr ⟨m, by simp, rfl⟩
    | false =>
      rw [cond_false]
      have hne : d ≠ t := fun e => by subst e; simp at hb
      rcases newsE_get r env t with ⟨h1, h2⟩ | ⟨m', h1, h2⟩
      · refine .inl ⟨h1, fun m' h => ?_⟩
        rcases List.mem_cons.1 h with h | h
        · injection h with e1 _; exact hne e1.symm
        · exact h2 m' h
      · exact .inr ⟨m', by simp [h1], h2⟩

/-- **EVERY ORDER**: a region that makes or writes memory. -/
theorem evRegE_sound {Γ : List (Summ P)} (hN : NamesOK P) (hM : P.follows .mixedOrders = true) {H : List (Nat × V)} {B : Base} {ρ0 : Rho} {w : World} {a0 : Act} {K : Env → List Blk → Option R} {r : R} {Q : Exit → Act → World → Prop} {id : Nat}
    (h : evRegE P Γ H nt ops env0 σ K = some r) (hrel : Rel B ρ0 σ w) (he : EnvOK ρ0 σ.length nt env0 a0) (hQ : ∀ a' w', AfterR B nt ρ0 σ K r a' w' → Q .normal a' w') : (Code.region id ops true).wp P Q a0 w := by
  unfold evRegE at h
  cases hB : regOK ops with
  | false => rw [hB] at h; cases h
  | true =>
  rw [hB, cond_true] at h
  have hrel' : Rel B ρ0 σ { w with drawn := w.drawn + 1 } := hrel.congr (fun _ _ => rfl) rfl rfl rfl rfl
  obtain ⟨us, hlen, htr, hK⟩ := evE_trace hN ops.toList 0 env0 [] σ [] h ⟨ρ0, a0, w, B, he, hrel⟩
  have W : Walk P nt ops (storesOf ops.toList env0 ops.toList (ancM ops.toList [])) env0 σ us := ⟨shape_of hB, hlen, fun k o u ho hu => by
    have := Tr_get ops.toList us 0 env0 [] σ [] htr k o u ho hu
    rwa [Nat.zero_add] at this⟩
  have h0 : Start nt env0 σ ρ0 a0 := ⟨he, hrel.sc⟩
  have hsize : us.length = ops.size := by rw [hlen]; simp
  have htake : us.take us.length = us := List.take_length
  have htakeL : ops.toList.take us.length = ops.toList := by rw [hlen]; exact List.take_length
  have hle : σ.length ≤ (tauP us σ).length := by
    have := tau_mono us σ (Nat.zero_le us.length) (Nat.le_refl _)
    simpa [tauP] using this
  have hfalse : ∀ k, (Array.replicate ops.size false).getD k false = false := fun k => by
    rcases Nat.lt_or_ge k ops.size with h | h
    · simp [h]
    · simp [h]
  refine wp_region_any hM (any_inv (InvD nt ops env0 σ us B ρ0) (fun D a w i hI hi => inv_step W h0 hI hi) (fun D a w hI hready => ?_) _ _ _ _ ?_ ?_)
  · obtain ⟨hsz, hc, hnt, hdf, ρ, hρ, hval, hr⟩ := hI
    have hfull : ∀ k, k < us.length → D.getD k false = true := by
      intro k
      induction k using Nat.strongRecOn with
      | _ k ih =>
        intro hk
        cases hD : D.getD k false with
        | true => rfl
        | false =>
          exfalso
          have hkD : k < D.size := by omega
          have hko : k < ops.toList.length := by omega
          have hmem : k ∈ Region.ready .any ops D := mem_ready.2 ⟨by simp [hkD] at hD ⊢; exact hD, ops.toList[k], by
            have := List.getElem?_eq_getElem hko
            rw [Array.getElem?_toList] at this; exact this, fun e he hb => by
            have := W.shape.edge k _ (List.getElem?_eq_getElem hko) e he hb
            exact ih e.on this (by omega)⟩
          rw [hready] at hmem; cases hmem
    refine hQ a w ⟨_, _, ρ, ?_, hρ, ?_, ?_, hK⟩
    · exact hle
    · have : sigD σ us D = tauP us σ := by
        refine List.ext_getElem? fun x => ?_
        rw [sigD_get]
        have := tau_at W us.length (Nat.le_refl _) x
        rw [htake] at this
        rw [this]
        split
        · congr 1
          refine blkS_congr _ _ _ _ _ _ (fun k v hv _ => ?_)
          have hk := (List.getElem?_eq_some_iff.1 hv).1
          rw [Nat.zero_add, hfull k hk, firstD_get hk, decide_eq_true hk]
        · rfl
      rw [← this]; exact hr
    · have hget : ∀ t, (newsE (newsP ops.toList us []) (envP ops.toList us env0)).get t = valD ops env0 us D t := by
        intro t
        have henv := env_at W t us.length (Nat.le_refl _)
        rw [htake, htakeL] at henv
        have hnews := mem_news W us.length (Nat.le_refl _)
        rw [htake, htakeL] at hnews
        unfold valD
        rcases newsE_get (newsP ops.toList us []) (envP ops.toList us env0) t with ⟨g1, g2⟩ | ⟨m, g1, g2⟩
        · rw [g1, henv]
          cases hw : wrI ops.toList 0 t with
          | none => rfl
          | some k =>
            obtain ⟨x, _, h2, h3⟩ := wrI_some _ _ _ _ hw
            rw [Nat.sub_zero] at h2
            obtain ⟨u, hu⟩ := W.both h2
            have hk := (List.getElem?_eq_some_iff.1 hu).1
            simp only [if_pos hk, hfull k hk, if_true, hu, Option.map_some, Option.getD_some]
            cases u with
            | q v => rfl
            | put y b => rfl
            | new m b => exact absurd ((hnews t m).2 ⟨k, x, b, hk, h2, h3, hu⟩) (g2 m)
        · obtain ⟨k, x, b, hk, h2, h3, hu⟩ := (hnews t m).1 g1
          rw [g2, wrI_of W.shape h2 h3]
          simp only [hfull k hk, if_true, hu, Option.map_some, Option.getD_some]
          rfl
      refine ⟨hnt, fun t => by rw [hget]; exact hval t, fun t => ?_, hdf⟩
      rw [hget]
      unfold valD
      cases hw : wrI ops.toList 0 t with
      | none => exact V.sc_mono hle _ (he.sc t)
      | some k =>
        simp only
        split
        · obtain ⟨x, _, h2, _⟩ := wrI_some _ _ _ _ hw
          rw [Nat.sub_zero] at h2
          obtain ⟨u, hu⟩ := W.both h2
          rw [hu]
          have hs := W.step k x u h2 hu
          cases u with
          | q v => exact V.sc_mono hle _ hs.1
          | put y b => simp [Out.val, V.sc, scs]
          | new m b =>
            obtain ⟨_, _, hm3⟩ := W.new_at hu
            have hk := (List.getElem?_eq_some_iff.1 hu).1
            have := tau_mono us σ (show k + 1 ≤ us.length by omega) (Nat.le_refl _)
            rw [htake] at this
            simp only [Option.map_some, Option.getD_some, Out.val, V.sc, Nat.ble_eq]
            omega
        · exact V.sc_mono hle _ (he.sc t)
  · refine ⟨by simp, fun j o _ hD => (by rw [hfalse] at hD; cases hD), he.size, he.def_, ρ0, fun _ _ => rfl, fun t => ?_, ?_⟩
    · rw [he.val t]
      unfold valD
      cases hw : wrI ops.toList 0 t with
      | none => rfl
      | some k => simp only [hfalse]; rfl
    · refine hrel'.weaken fun x b hb => ?_
      rw [sigD_get] at hb
      split at hb
      · injection hb with hb
        unfold blkAt at hb
        rw [blkS_none _ _ _ _ _ (fun k _ _ _ => hfalse _), List.getD_eq_getElem?_getD] at hb
        cases hx : σ[x]? with
        | none => rw [hx] at hb; exact .inl hb.symm
        | some c =>
          rw [hx, Option.getD_some] at hb; subst hb
          exact .inr ⟨rfl, by rw [sigD_length]; have := hrel.sc x c hx; exact Blk.sc_mono hle this⟩
      · cases hb
  · simp [List.count_replicate]
end
end Go.R

namespace Go.R
open Go

/-! ### what an operation that makes or writes leaves alone -/
theorem keep_set {σ : List Blk} {b b0 : Nat} {x : Blk} (ht : ([b0] : List Nat).any (Nat.beq b) = false) : (σ.set b0 x)[b]? = σ[b]? := by
  have : b0 ≠ b := fun e => by subst e; simp at ht
  rw [List.getElem?_set_ne this]
theorem keep_app {σ τ : List Blk} {b : Nat} (hb : b < σ.length) : (σ ++ τ)[b]? = σ[b]? := by rw [List.getElem?_append_left hb]
theorem args_head {env : Env} {l : List Operand} {x : V} {xs : List V} (h : oprs env l = some (x :: xs)) : ∃ a r, l = a :: r ∧ opr env a = some x := by
  cases l with
  | nil => simp [oprs] at h
  | cons a r =>
    simp only [oprs] at h
    split at h
    · rename_i v hv
      simp only [Option.map_eq_some_iff, List.cons.injEq] at h
      obtain ⟨y, _, rfl, _⟩ := h
      exact ⟨a, r, rfl, hv⟩
    · cases h
theorem touch_call {env : Env} {c : Call} {x : V} {xs : List V} (h : oprs env c.args.toList = some (x :: xs)) : touchE (.call c) env = blkOf x := by
  obtain ⟨a, r, h1, h2⟩ := args_head h
  simp only [touchE, h1, h2]
theorem evAppend_keep {P : Program} {ts : Array TypeId} {xs : List V} {σ σ' : List Blk} {v : V} {ok : Bool} (h : evAppend P ts xs σ = some (ok, v, σ')) : ∃ x r, xs = x :: r ∧ ∀ b, b < σ.length → (blkOf x).any (Nat.beq b) = false → σ'[b]? = σ[b]? := by
  unfold evAppend at h
  split at h
  · split at h
    · split at h
      · rename_i inf blk blk2 hi hb hb2
        cases hc : Nat.ble _ _ with
        | false => rw [hc] at h; cases h
        | true =>
          rw [hc, cond_true] at h
          split at h
          · split at h
            · simp only [Option.some.injEq, Prod.mk.injEq] at h
              obtain ⟨_, _, rfl⟩ := h
              exact ⟨_, _, rfl, fun b hb ht => keep_set ht⟩
            · cases h
          · cases h
      · cases h
    · cases h
  · cases h
theorem evAppendG_keep {P : Program} {ts : Array TypeId} {xs : List V} {σ σ' : List Blk} {v : V} {ok : Bool} (h : evAppendG P ts xs σ = some (ok, v, σ')) : ∃ x r, xs = x :: r ∧ ∀ b, b < σ.length → (blkOf x).any (Nat.beq b) = false → σ'[b]? = σ[b]? := by
  unfold evAppendG at h
  split at h
  · rename_i s x t t2 hts
    refine ⟨s, [x], rfl, fun b hb ht => ?_⟩
    split at h
    · split at h
      · rename_i inf hinf
        split at h
        · split at h
          · rename_i zv hzv
            cases hc : (decide (t2 = t) && (Nat.beq zv.size inf.size && Nat.ble 1 inf.size)) with
            | false => rw [hc] at h; cases h
            | true =>
              rw [hc, cond_true] at h
              split at h
              · split at h
                · split at h
                  · simp only [Option.some.injEq, Prod.mk.injEq] at h; obtain ⟨_, _, rfl⟩ := h; exact keep_app hb
                  · cases h
                · cases h
              · simp only [Option.some.injEq, Prod.mk.injEq] at h; obtain ⟨_, _, rfl⟩ := h; rfl
              · split at h
                · rename_i b0 len cap m ok new hbase hsrc
                  split at h
                  · rename_i blk hb0
                    cases ho : ownOk _ inf.size cap blk with
                    | false => rw [ho] at h; cases h
                    | true =>
                      rw [ho, cond_true] at h
                      split at h
                      · split at h
                        · simp only [Option.some.injEq, Prod.mk.injEq] at h
                          obtain ⟨_, _, rfl⟩ := h
                          rw [keep_app (by simpa using hb)]
                          have : blkOf s = [b0] := by
                            unfold baseOf at hbase
                            split at hbase
                            · simp only [Option.some.injEq, Prod.mk.injEq] at hbase; obtain ⟨rfl, _⟩ := hbase; rfl
                            · simp only [Option.some.injEq, Prod.mk.injEq] at hbase; obtain ⟨rfl, _⟩ := hbase; rfl
                            · cases hbase
                          rw [this] at ht
                          exact keep_set ht
                        · cases h
                      · cases h
                  · cases h
                · cases h
          · cases h
        · cases h
      · cases h
    · cases h
  · cases h
theorem evEffA_keep {P : Program} {op : Op} {env : Env} {σ σ' : List Blk} {v : V} {ok : Bool} (h : evEffA P op env σ = some (ok, v, σ')) (b : Nat) (hb : b < σ.length) (ht : (touchE op env).any (Nat.beq b) = false) : σ'[b]? = σ[b]? := by
  unfold evEffA at h
  split at h
  · split at h
    · split at h
      · split at h
        · simp only [Option.some.injEq, Prod.mk.injEq] at h; obtain ⟨_, _, rfl⟩ := h; exact keep_app hb
        · cases h
      · cases h
    · cases h
  · split at h
    · simp only [Option.some.injEq, Prod.mk.injEq] at h; obtain ⟨_, _, rfl⟩ := h; exact keep_app hb
    · cases h
  · split at h
    · rename_i b0 off y ha hx
      split at h
      · rename_i blk i hblk hi
        cases hs : Nat.beq i.size y.size with
        | false => rw [hs] at h; cases h
        | true =>
          rw [hs, cond_true] at h
          split at h
          · simp only [Option.some.injEq, Prod.mk.injEq] at h
            obtain ⟨_, _, rfl⟩ := h
            simp only [touchE, ha, blkOf] at ht
            exact keep_set ht
          · cases h
      · cases h
    · cases h
  · split at h
    · split at h
      · simp only [Option.some.injEq, Prod.mk.injEq] at h; obtain ⟨_, _, rfl⟩ := h; exact keep_app hb
      · cases h
    · cases h
  · split at h
    · split at h
      · simp only [Option.some.injEq, Prod.mk.injEq] at h; obtain ⟨_, _, rfl⟩ := h; exact keep_app hb
      · cases h
    · cases h
  · split at h
    · split at h
      · rename_i xs hxs
        obtain ⟨x, r, rfl, hk⟩ := evAppend_keep h
        rw [touch_call hxs] at ht
        exact hk b hb ht
      · cases h
    · cases h
  · cases h
theorem evEff_keep {P : Program} {op : Op} {env : Env} {σ σ' : List Blk} {v : V} {ok : Bool} (h : evEff P op env σ = some (ok, v, σ')) (b : Nat) (hb : b < σ.length) (ht : (touchE op env).any (Nat.beq b) = false) : σ'[b]? = σ[b]? := by
  unfold evEff at h
  split at h
  · split at h
    · simp only [Option.some.injEq, Prod.mk.injEq] at h; obtain ⟨_, _, rfl⟩ := h; exact keep_app hb
    · cases h
  · rename_i t m k x
    split at h
    · rename_i m' k' x' hm hk hx
      split at h
      · rename_i ok2 σ2 hi
        simp only [Option.some.injEq, Prod.mk.injEq] at h
        obtain ⟨_, _, rfl⟩ := h
        simp only [touchE, hm] at ht
        unfold evInsert at hi
        split at hi
        · split at hi
          · rename_i k1 n k2 y _ _ _ _ kk vk l _ _
            cases hc : (decide (k1 = kk) && decide (k2 = vk)) with
            | false => rw [hc] at hi; cases hi
            | true =>
              rw [hc, cond_true] at hi
              simp only [Option.some.injEq, Prod.mk.injEq] at hi
              obtain ⟨_, rfl⟩ := hi
              exact keep_set ht
          · cases hi
        · cases hi
      · cases h
    · cases h
  · split at h
    · split at h
      · simp only [Option.some.injEq, Prod.mk.injEq] at h; obtain ⟨_, _, rfl⟩ := h; exact keep_app hb
      · cases h
    · cases h
  · rename_i c
    split at h
    · split at h
      · rename_i r hA
        simp only [Option.some.injEq] at h; subst h
        exact evEffA_keep hA b hb ht
      · split at h
        · rename_i xs hxs
          obtain ⟨x, r, rfl, hk⟩ := evAppendG_keep h
          rw [touch_call hxs] at ht
          exact hk b hb ht
        · cases h
    · cases h
  · exact evEffA_keep h b hb ht
end Go.R

namespace Go.R
open Go

/-! ### every order of a region whose makers come up one behind the other -/
section
variable {R : Type} {P : Program} {ops : Array Oper} {nt : Nat} {env0 : Env} {σ : List Blk}

/-- what an operation runs to -/
def RunTo (P : Program) (s : Sem Next) (w : World) (post : Value → World → Prop) : Prop :=
  match s.run P w with
  | .ok (.value v) w' => post v w'
  | .ok .skip w' => post undef w'
  | .ok (.enter f args) w' => Calls P f args w' fun e w'' => ∃ v, e = .returned v ∧ post v w''
  | _ => False
theorem wp_of_runTo {o : Oper} {a : Act} {w : World} {post : Value → World → Prop} {K : Act → World → Prop} {Q : Exit → Act → World → Prop} (h : RunTo P (execOp a.eval o) w post) (hK : ∀ v w', post v w' → K (a.put o.dst v) w') : o.wp P a w K Q := by
  unfold RunTo at h
  unfold Oper.wp
  generalize (execOp a.eval o).run P w = r at *
  cases r with
  | ok n w' =>
    cases n <;> simp only at h <;> simp only [Oper.upon]
    case value u => exact hK _ _ h
    case skip => exact hK _ _ h
    case enter f args =>
      refine h.mono ?_
      rintro e w'' ⟨v, rfl, hv⟩
      exact hK _ _ hv
  | halt x w' => simp only at h

inductive OutC where
  | dry (b : Option Nat) (v : V)
  | wet (v : V) (σ' : List Blk) (T : List Nat)
def OutC.val : OutC → V
  | .dry _ v => v
  | .wet v _ _ => v
def OutC.mem (σ : List Blk) : OutC → List Blk
  | .dry _ _ => σ
  | .wet _ σ' _ => σ'
def OutC.isWet : OutC → Bool
  | .dry _ _ => false
  | .wet _ _ _ => true
def OutC.lw (j : Nat) (lw : Option Nat) : OutC → Option Nat
  | .dry _ _ => lw
  | .wet _ _ _ => some j
def OutC.reads : OutC → List Nat
  | .dry (some b) _ => [b]
  | _ => []
def OutC.tou : OutC → List Nat
  | .wet _ _ T => T
  | _ => []
/-- what a step tells, in whatever memory it comes up -/
def StepC (P : Program) (nt : Nat) (ops : Array Oper) (σ0 : List Blk) (anc : List Nat) (o : Oper) (j : Nat) (env : Env) (σ : List Blk) (lw : Option Nat) : OutC → Prop
  | .dry b v => (∀ x, b = some x → x < σ0.length) ∧ ∀ (B : Base) (ρ : Rho) (w : World) (a : Act) (τ : List Blk), Rel B ρ τ w → EnvOK ρ τ.length nt (lookE ops o env) a → (∀ x, b = some x → τ[x]? = σ0[x]?) →
      (Region.wanted o (yielded ops a.tmps) = true ∧ RunTo P (execOp a.eval o) w fun x w' => x = v.real ρ ∧ v.sc τ.length = true ∧ Grown w w') ∨ (Region.wanted o (yielded ops a.tmps) = false ∧ v = .tup [])
  | .wet v σ' T => (∀ l, lw = some l → Nat.testBit (anc.getD j 0) l = true) ∧ (∀ b, b < σ.length → T.any (Nat.beq b) = false → σ'[b]? = σ[b]?) ∧
      ∀ (B : Base) (ρ : Rho) (w : World) (a : Act), Rel B ρ σ w → EnvOK ρ σ.length nt (lookE ops o env) a →
        Region.wanted o (yielded ops a.tmps) = true ∧ RunTo P (execOp a.eval o) w fun x w' => σ.length ≤ σ'.length ∧ ∃ ρ' : Rho, (∀ i, i < σ.length → ρ' i = ρ i) ∧ x = v.real ρ' ∧ v.sc σ'.length = true ∧ Rel B ρ' σ' w'
def TrC (P : Program) (nt : Nat) (ops : Array Oper) (σ0 : List Blk) (anc : List Nat) : List Oper → List OutC → Nat → Env → List Blk → Option Nat → Prop
  | [], [], _, _, _, _ => True
  | o :: l, u :: us, j, env, σ, lw => (∀ t, o.dst = some t → t < nt) ∧ StepC P nt ops σ0 anc o j env σ lw u ∧ TrC P nt ops σ0 anc l us (j + 1) (env.put o.dst u.val) (u.mem σ) (u.lw j lw)
  | _, _, _, _, _, _ => False
def envC : List Oper → List OutC → Env → Env
  | o :: l, u :: us, e => envC l us (e.put o.dst u.val)
  | _, _, e => e
def memC : List OutC → List Blk → List Blk
  | [], σ => σ
  | u :: us, σ => memC us (u.mem σ)
def lwC : List OutC → Nat → Option Nat → Option Nat
  | [], _, lw => lw
  | u :: us, j, lw => lwC us (j + 1) (u.lw j lw)
def readsC (us : List OutC) : List Nat := us.flatMap OutC.reads
def touC (us : List OutC) : List Nat := us.flatMap OutC.tou

/-- an operation that writes, or calls, tells its end -/
theorem runTo_eff {B : Base} {ρ : Rho} {σ σ' : List Blk} {w : World} {o : Oper} {a : Act} {v : V} (h : Eff P B ρ σ w o a v σ') :
    RunTo P (execOp a.eval o) w fun x w' => σ.length ≤ σ'.length ∧ ∃ ρ' : Rho, (∀ i, i < σ.length → ρ' i = ρ i) ∧ x = v.real ρ' ∧ v.sc σ'.length = true ∧ Rel B ρ' σ' w' := by
  obtain ⟨h1, h2, ρ', w', h3, h4, h5⟩ := h
  unfold RunTo
  rcases h5 with h5 | ⟨h5, h6⟩
  · rw [h5]; exact ⟨h1, ρ', h3, rfl, h2, h4⟩
  · rw [h5]; exact ⟨h1, ρ', h3, h6.symm, h2, h4⟩
theorem runTo_pure {B : Base} {ρ : Rho} {σ : List Blk} {w : World} {env : Env} {o : Oper} {a : Act} {v : V} (h : evPure2 P o.op env σ = some (true, v)) (hr : Rel B ρ σ w) (he : EnvOK ρ σ.length nt env a) :
    RunTo P (execOp a.eval o) w fun x w' => x = v.real ρ ∧ v.sc σ.length = true ∧ w' = w := by
  obtain ⟨h1, h2⟩ := pure2_sound h hr he
  unfold RunTo
  rw [h1]
  exact ⟨rfl, h2, rfl⟩
theorem RunTo.mono {s : Sem Next} {w : World} {p q : Value → World → Prop} (h : RunTo P s w p) (hq : ∀ v w', p v w' → q v w') : RunTo P s w q := by
  unfold RunTo at *
  generalize s.run P w = r at *
  cases r with
  | ok n w' =>
    cases n <;> simp only at h ⊢
    case value u => exact hq _ _ h
    case skip => exact hq _ _ h
    case enter f args =>
      refine h.mono ?_
      rintro e w'' ⟨v, rfl, hv⟩
      exact ⟨v, rfl, hq _ _ hv⟩
  | halt x w' => simp only at h

/-- what needs no memory is the same in all -/
theorem evLookup_nil {t : TypeId} {m k : V} {ok : Bool} : evLookup P t m k ok [] = none := by
  unfold evLookup
  split
  · simp
  · rfl
theorem evToStr_nil {s d : TypeId} {x : V} {r : Bool × V} (h : evToStr P s d x [] = some r) (σ : List Blk) : evToStr P s d x σ = some r := by
  unfold evToStr at h ⊢
  split at h
  · split at h
    · split at h
      · exact h
      · simp at h
      · simp at h
      · cases h
    · cases h
  · cases h
theorem evPure_nil {op : Op} {env : Env} {r : Bool × V} (h : evPure P op env [] = some r) (σ : List Blk) : evPure P op env σ = some r := by
  unfold evPure at h ⊢
  cases op <;> simp only at h ⊢ <;> first | exact h | skip
  case load t x =>
    split at h
    · simp at h
    · cases h
  case makeFunc fn f c => cases fn <;> exact h
theorem evPureA_nil {op : Op} {env : Env} {r : Bool × V} (h : evPureA P op env [] = some r) (σ : List Blk) : evPureA P op env σ = some r := by
  unfold evPureA at h ⊢
  split at h
  · exact h
  · exact h
  · exact evPure_nil h σ
theorem evSliceO_nil {t : TypeId} {x : V} {lo hi : Option Int} : evSliceO P t x lo hi [] = none := by
  unfold evSliceO
  split
  · split
    · rename_i h; simp at h
    · rfl
  · rfl
theorem evPure2_nil {op : Op} {env : Env} {r : Bool × V} (h : evPure2 P op env [] = some r) (σ : List Blk) : evPure2 P op env σ = some r := by
  unfold evPure2 at h
  split at h
  · split at h
    · rw [evLookup_nil] at h; cases h
    · cases h
  · rename_i t x lo hi
    unfold evPure2
    simp only
    split at h
    · rename_i r' hA
      rw [evPureA_nil hA σ]; exact h
    · rename_i hA
      have : evPureA P (.slice t x lo hi none) env σ = none := by
        have e : evPureA P (.slice t x lo hi none) env σ = evPureA P (.slice t x lo hi none) env [] := by
          unfold evPureA
          split <;> rfl
        rw [e]; exact hA
      rw [this]
      simp only
      split at h
      · split at h
        · exact h
        · rw [evSliceO_nil] at h; cases h
      · cases h
  · rename_i s d x
    unfold evPure2
    simp only
    split at h
    · rename_i r' hA
      rw [evPureA_nil hA σ]; exact h
    · rename_i hA
      have : evPureA P (.convert s d x) env σ = none := by
        have e : evPureA P (.convert s d x) env σ = evPureA P (.convert s d x) env [] := rfl
        rw [e]; exact hA
      rw [this]
      split at h
      · rename_i y hy
        exact evToStr_nil h σ
      · cases h
  · rename_i h1 h2 h3
    unfold evPure2
    split
    · exact absurd rfl (h1 _ _ _ _)
    · exact absurd rfl (h2 _ _ _ _)
    · exact absurd rfl (h3 _ _ _)
    · exact evPureA_nil h σ
end
end Go.R

namespace Go.R
open Go

section
variable {R : Type} {P : Program} {ops : Array Oper} {nt : Nat} {env0 : Env} {σ : List Blk}

theorem guardE_all {nt : Nat} {env : Env} {o : Oper} {yes no : Unit → Option R} {r : R} (h : guardE ops.toList o.guard env yes no = some r) :
    (yes () = some r ∧ ∀ n ρ a, EnvOK ρ n nt env a → Region.wanted o (yielded ops a.tmps) = true) ∨ (no () = some r ∧ ∀ n ρ a, EnvOK ρ n nt env a → Region.wanted o (yielded ops a.tmps) = false) := by
  unfold guardE at h
  unfold Region.wanted
  split at h
  · rename_i hg; exact .inl ⟨h, fun _ _ _ _ => by rw [hg]⟩
  · rename_i j want hg
    rw [hg]
    simp only
    split at h
    · cases h
    · rename_i d hd
      have hd' : (ops[j]?).bind (·.dst) = some d := by simpa using hd
      split at h
      · rename_i b hb
        cases b <;> cases want <;> simp only [cond_true, cond_false] at h
        · exact .inl ⟨h, fun n ρ a he => by rw [yielded_of he hd' hb]; rfl⟩
        · exact .inr ⟨h, fun n ρ a he => by rw [yielded_of he hd' hb]; rfl⟩
        · exact .inr ⟨h, fun n ρ a he => by rw [yielded_of he hd' hb]; rfl⟩
        · exact .inl ⟨h, fun n ρ a he => by rw [yielded_of he hd' hb]; rfl⟩
      · cases h
      · rename_i hb hx
        exact .inr ⟨h, fun n ρ a he => by rw [yielded_not he hd' (fun b h => hb b h) (fun x h => hx x h)]; rfl⟩

theorem run_call_fn (hN : NamesOK P) {ρ : Rho} {n : Nat} {w : World} {env : Env} {a : Act} {o : Oper} {c : Call} {f : Operand} {fid : FuncId} {cap as : List V} (he : EnvOK ρ n nt env a) (hop : o.op = .call c) (hc : c.callee = .value f) (h1 : opr env f = some (.fn fid cap)) (h2 : oprs env c.args.toList = some as) (hb : hasBody P fid = true) :
    (execOp a.eval o).run P w = .ok (.enter fid (reals ρ (as ++ cap)).toArray) w ∧ scs n (as ++ cap) = true := by
  obtain ⟨fn, hf, hfb⟩ := hasBody_spec hb
  obtain ⟨e1, s1⟩ := opr_spec he h1
  obtain ⟨e2, s2⟩ := oprs_spec he h2
  have hsc : scs n (as ++ cap) = true := by
    rw [scs_iff]
    intro v hv
    rcases List.mem_append.1 hv with hv | hv
    · exact (scs_iff _ _).1 s2 v hv
    · exact (scs_iff _ _).1 (by simpa [V.sc] using s1) v hv
  have hargs : c.args.map a.eval ++ (reals ρ cap).toArray = (reals ρ (as ++ cap)).toArray := by
    apply Array.ext'
    simp only [Array.toList_append, Array.toList_map, e2, reals_eq, List.map_append]
  refine ⟨?_, hsc⟩
  simp only [execOp, hop, resolve, hc, e1, V.real, Deferred.ofValue]
  simp only [bind, Sem.bind, pure, invoke, Array.empty_append]
  rw [hargs]
  exact run_callFunc hf hfb (hN fid fn hf) _ w

theorem grown_refl (w : World) : Grown w w := ⟨rfl, rfl, rfl, Nat.le_refl _, fun _ _ => rfl⟩

theorem evWet_step {σ0 : List Blk} {anc : List Nat} {o : Oper} {j : Nat} {env : Env} {lw : Option Nat} {v : V} {st : StC} (h : evWet P o.op (lookE ops o env) σ = some (true, v, st))
    (hg : ∀ n ρ a, EnvOK ρ n nt (lookE ops o env) a → Region.wanted o (yielded ops a.tmps) = true) (hl : ∀ l, lw = some l → Nat.testBit (anc.getD j 0) l = true) :
    ∃ σ' T, st = .wet σ' T ∧ StepC P nt ops σ0 anc o j env σ lw (.wet v σ' T) := by
  unfold evWet at h
  split at h
  · rename_i ok v' hp
    simp only [Option.some.injEq, Prod.mk.injEq] at h
    obtain ⟨rfl, rfl, rfl⟩ := h
    refine ⟨σ, [], rfl, hl, fun _ _ _ => rfl, fun B ρ w a hr he => ⟨hg _ ρ a he, ?_⟩⟩
    refine (runTo_pure hp hr he).mono ?_
    rintro x w' ⟨rfl, hv, rfl⟩
    exact ⟨Nat.le_refl _, ρ, fun _ _ => rfl, rfl, hv, hr⟩
  · split at h
    · rename_i ok v' σ' hp
      simp only [Option.some.injEq, Prod.mk.injEq] at h
      obtain ⟨rfl, rfl, rfl⟩ := h
      exact ⟨σ', _, rfl, hl, fun b hb ht => evEff_keep hp b hb ht, fun B ρ w a hr he => ⟨hg _ ρ a he, runTo_eff (eff_sound hp hr he)⟩⟩
    · cases h

theorem evOneC_step {Γ : List (Summ P)} (hN : NamesOK P) {σ0 : List Blk} {anc : List Nat} {o : Oper} {j : Nat} {env : Env} {lw : Option Nat} {v : V} {st : StC} (h : evOneC P Γ σ0.length σ0 o.op (lookE ops o env) σ = some (true, v, st))
    (hg : ∀ n ρ a, EnvOK ρ n nt (lookE ops o env) a → Region.wanted o (yielded ops a.tmps) = true) :
    (∃ b, st = .dry b ∧ StepC P nt ops σ0 anc o j env σ lw (.dry b v)) ∨ ∃ σ' T, st = .wet σ' T ∧ ((∀ l, lw = some l → Nat.testBit (anc.getD j 0) l = true) → StepC P nt ops σ0 anc o j env σ lw (.wet v σ' T)) := by
  have wet : evWet P o.op (lookE ops o env) σ = some (true, v, st) → ∃ σ' T, st = .wet σ' T ∧ ((∀ l, lw = some l → Nat.testBit (anc.getD j 0) l = true) → StepC P nt ops σ0 anc o j env σ lw (.wet v σ' T)) := by
    intro hw
    cases st with
    | dry b =>
      exfalso
      unfold evWet at hw
      split at hw
      · simp at hw
      · split at hw
        · simp at hw
        · cases hw
    | wet σ' T =>
      refine ⟨σ', T, rfl, fun hl => ?_⟩
      obtain ⟨σ2, T2, h1, h2⟩ := evWet_step (σ0 := σ0) hw hg hl
      injection h1 with e1 e2
      subst e1; subst e2
      exact h2
  unfold evOneC at h
  split at h
  · rename_i ok v' hp
    simp only [Option.some.injEq, Prod.mk.injEq] at h
    obtain ⟨rfl, rfl, rfl⟩ := h
    refine .inl ⟨none, rfl, fun _ hx => (by cases hx), fun B ρ w a τ hr he _ => .inl ⟨hg _ ρ a he, ?_⟩⟩
    refine (runTo_pure (evPure2_nil hp τ) hr he).mono ?_
    rintro x w' ⟨rfl, hv, rfl⟩
    exact ⟨rfl, hv, grown_refl _⟩
  · split at h
    · rename_i t x hop
      split at h
      · rename_i b off hx
        cases hb : Nat.ble (b + 1) σ0.length with
        | false =>
          rw [hb, cond_false] at h
          exact .inr (wet (by rw [hop]; exact h))
        | true =>
          rw [hb, cond_true] at h
          split at h
          · rename_i blk hblk
            split at h
            · rename_i ok v' hl
              simp only [Option.some.injEq, Prod.mk.injEq] at h
              obtain ⟨rfl, rfl, rfl⟩ := h
              refine .inl ⟨some b, rfl, fun y hy => (by simp only [Option.some.injEq] at hy; subst hy; exact Nat.le_of_ble_eq_true hb), fun B ρ w a τ hr he hτ => .inl ⟨hg _ ρ a he, ?_⟩⟩
              have hp : evPure2 P o.op (lookE ops o env) τ = some (true, v') := by
                rw [hop]
                simp only [evPure2, evPureA, evPure, hx, hτ b rfl, hblk]
                exact hl
              refine (runTo_pure hp hr he).mono ?_
              rintro x w' ⟨rfl, hv, rfl⟩
              exact ⟨rfl, hv, grown_refl _⟩
            · cases h
          · cases h
      · cases h
    · rename_i c hop
      split at h
      · rename_i f hc
        split at h
        · rename_i fid cap as h1 h2
          split at h
          · rename_i s hs
            cases hb : hasBody P fid with
            | false => rw [hb] at h; cases h
            | true =>
              rw [hb, cond_true] at h
              have hk := findS_spec hs
              cases hpu : (s.pure && scs 0 (as ++ cap)) with
              | true =>
                rw [hpu, cond_true] at h
                simp only [Bool.and_eq_true] at hpu
                split at h
                · rename_i ok v' σ2 hf
                  simp only [Option.some.injEq, Prod.mk.injEq] at h
                  obtain ⟨rfl, rfl, rfl⟩ := h
                  obtain ⟨_, k2, k3, k4⟩ := s.ok _ _ _ _ hf hpu.2
                  have hσ2 := k3 hpu.1
                  subst hσ2
                  refine .inl ⟨none, rfl, fun _ hx => (by cases hx), fun B ρ w a τ hr he _ => .inl ⟨hg _ ρ a he, ?_⟩⟩
                  obtain ⟨hrun, _⟩ := run_call_fn hN (w := w) he hop hc h1 h2 hb
                  unfold RunTo
                  rw [hrun]
                  simp only
                  rw [hk] at k4
                  refine (k4 ⟨w, noSt⟩ ρ w (Rel.empty' ρ w) hpu.2).mono ?_
                  rintro e w' ⟨ρ', _, rfl, hr'⟩
                  exact ⟨_, rfl, V.real_ext (n := 0) (fun i hi => by omega) v' k2, V.sc_mono (Nat.zero_le _) _ k2, keepsNo_grown hr'.keeps⟩
                · cases h
              | false =>
                rw [hpu, cond_false] at h
                split at h
                · rename_i ok v' σ2 hf
                  simp only [Option.some.injEq, Prod.mk.injEq] at h
                  obtain ⟨rfl, rfl, rfl⟩ := h
                  refine .inr ⟨σ2, _, rfl, fun hl => ⟨hl, fun b hb ht => s.keep _ _ _ _ hf b hb ht, fun B ρ w a hr he => ⟨hg _ ρ a he, ?_⟩⟩⟩
                  obtain ⟨hrun, hsc⟩ := run_call_fn hN (w := w) he hop hc h1 h2 hb
                  obtain ⟨k1, k2, _, k4⟩ := s.ok _ _ _ _ hf hsc
                  unfold RunTo
                  rw [hrun]
                  simp only
                  rw [hk] at k4
                  refine (k4 B ρ w hr hsc).mono ?_
                  rintro e w' ⟨ρ', hρ', rfl, hr'⟩
                  exact ⟨_, rfl, k1, ρ', hρ', rfl, k2, hr'⟩
                · cases h
          · cases h
        · cases h
      · exact .inr (wet (by rw [hop]; exact h))
    · exact .inr (wet h)

theorem evC_trace {Γ : List (Summ P)} (hN : NamesOK P) {H : List (Nat × V)} {σ0 : List Blk} {anc : List Nat} {K : Env → List Blk → Option R} {r : R} : ∀ (l : List Oper) (j : Nat) (env : Env) (σ : List Blk) (lw : Option Nat) (rd tc : List Nat),
    evC P Γ H nt ops σ0.length σ0 anc l j env σ lw rd tc K = some r →
    ∃ us : List OutC, us.length = l.length ∧ TrC P nt ops σ0 anc l us j env σ lw ∧ K (envC l us env) (memC us σ) = some r ∧ ∀ b, (b ∈ rd ∨ b ∈ readsC us) → tc.any (Nat.beq b) = false ∧ (touC us).any (Nat.beq b) = false
  | [], j, env, σ, lw, rd, tc, h => by
    simp only [evC] at h
    cases hd : rd.any (fun b => tc.any (Nat.beq b)) with
    | true => rw [hd] at h; cases h
    | false =>
      rw [hd, cond_false] at h
      refine ⟨[], rfl, trivial, h, fun b hb => ?_⟩
      rcases hb with hb | hb
      · refine ⟨?_, rfl⟩
        cases ht : tc.any (Nat.beq b) with
        | false => rfl
        | true =>
          have := (List.any_eq_true (l := rd) (p := fun b => tc.any (Nat.beq b))).2 ⟨b, hb, ht⟩
          rw [hd] at this; cases this
      · simp [readsC] at hb
  | o :: l, j, env, σ, lw, rd, tc, h => by
    simp only [evC] at h
    cases hdst : dstOk nt o.dst with
    | false => rw [hdst] at h; cases h
    | true =>
      rw [hdst, cond_true] at h
      have hd := dstOk_spec hdst
      have dry : ∀ (b : Option Nat) (v : V) (rd' : List Nat), StepC P nt ops σ0 anc o j env σ lw (.dry b v) → (rd' = match b with | some b => b :: rd | none => rd) → evC P Γ H nt ops σ0.length σ0 anc l (j + 1) (env.put o.dst v) σ lw rd' tc K = some r →
          ∃ us : List OutC, us.length = (o :: l).length ∧ TrC P nt ops σ0 anc (o :: l) us j env σ lw ∧ K (envC (o :: l) us env) (memC us σ) = some r ∧ ∀ b, (b ∈ rd ∨ b ∈ readsC us) → tc.any (Nat.beq b) = false ∧ (touC us).any (Nat.beq b) = false := by
        intro b v rd' hs hrd hrest
        obtain ⟨us, h1, h2, h3, h4⟩ := evC_trace hN l (j + 1) _ σ lw rd' tc hrest
        refine ⟨.dry b v :: us, by simp [h1], ⟨hd, hs, h2⟩, h3, fun x hx => ?_⟩
        have : x ∈ rd' ∨ x ∈ readsC us := by
          rcases hx with hx | hx
          · left; rw [hrd]; cases b <;> simp [hx]
          · simp only [readsC, List.flatMap_cons, List.mem_append] at hx
            rcases hx with hx | hx
            · left; rw [hrd]; cases b <;> simp [OutC.reads] at hx ⊢; exact .inl hx
            · exact .inr hx
        obtain ⟨g1, g2⟩ := h4 x this
        refine ⟨g1, ?_⟩
        simpa [touC, OutC.tou] using g2
      rcases guardE_all (nt := nt) h with ⟨h, hg⟩ | ⟨h, hg⟩
      · split at h
        · rename_i c x y hop
          split at h
          · rename_i g va vb h1 h2 h3
            have hs : StepC P nt ops σ0 anc o j env σ lw (.dry none (if g then va else vb)) := by
              refine ⟨fun _ hx => (by cases hx), fun B ρ w a τ hr he _ => .inl ⟨hg _ ρ a he, ?_⟩⟩
              obtain ⟨e1, _⟩ := opr_spec he h1
              obtain ⟨e2, s2⟩ := opr_spec he h2
              obtain ⟨e3, s3⟩ := opr_spec he h3
              have hrun : (execOp a.eval o).run P w = .ok (.value (if g then va.real ρ else vb.real ρ)) w := by
                simp only [execOp, hop, e1, e2, e3, V.real]
                rfl
              unfold RunTo
              rw [hrun]
              cases g
              · exact ⟨rfl, s3, grown_refl _⟩
              · exact ⟨rfl, s2, grown_refl _⟩
            cases g with
            | true => rw [cond_true] at h; exact dry none va rd hs rfl (hintK_sound h)
            | false => rw [cond_false] at h; exact dry none vb rd hs rfl (hintK_sound h)
          · cases h
        · split at h
          · rename_i ok v b hone
            cases ok with
            | false => cases h
            | true =>
              rw [cond_true] at h
              rcases evOneC_step (nt := nt) (anc := anc) (j := j) (lw := lw) hN hone hg with ⟨b', hb', hs⟩ | ⟨σ', T, hw, _⟩
              · injection hb' with hb'; subst hb'
                exact dry b v _ hs rfl (hintK_sound h)
              · cases hw
          · rename_i ok v σ' T hone
            cases hc : (ok && lwOk anc j lw) with
            | false => rw [hc] at h; cases h
            | true =>
              rw [hc, cond_true] at h
              simp only [Bool.and_eq_true] at hc
              obtain ⟨rfl, hlw⟩ := hc
              rcases evOneC_step (nt := nt) (anc := anc) (j := j) (lw := lw) hN hone hg with ⟨b', hb', _⟩ | ⟨σ2, T2, hw, hs⟩
              · cases hb'
              · injection hw with e1 e2; subst e1; subst e2
                have hs' := hs (fun l hl => by subst hl; exact hlw)
                obtain ⟨us, h1, h2, h3, h4⟩ := evC_trace hN l (j + 1) _ σ' (some j) rd (T ++ tc) (hintK_sound h)
                refine ⟨.wet v σ' T :: us, by simp [h1], ⟨hd, hs', h2⟩, h3, fun x hx => ?_⟩
                have : x ∈ rd ∨ x ∈ readsC us := by
                  rcases hx with hx | hx
                  · exact .inl hx
                  · simp only [readsC, List.flatMap_cons, List.mem_append, OutC.reads] at hx
                    rcases hx with hx | hx
                    · cases hx
                    · exact .inr hx
                obtain ⟨g1, g2⟩ := h4 x this
                rw [List.any_append, Bool.or_eq_false_iff] at g1
                refine ⟨g1.2, ?_⟩
                simp only [touC, List.flatMap_cons, OutC.tou, List.any_append, Bool.or_eq_false_iff]
                exact ⟨g1.1, g2⟩
          · cases h
      · refine dry none (.tup []) rd ⟨fun _ hx => (by cases hx), fun B ρ w a τ hr he _ => .inr ⟨hg _ ρ a he, rfl⟩⟩ rfl h
end
end Go.R

namespace Go.R
open Go

section
variable {R : Type} {P : Program} {ops : Array Oper} {nt : Nat} {env0 : Env} {σ : List Blk} {us : List OutC} {anc : List Nat}

theorem TrC_get {σ0 : List Blk} : ∀ (l : List Oper) (us : List OutC) (j : Nat) (env : Env) (σ : List Blk) (lw : Option Nat), TrC P nt ops σ0 anc l us j env σ lw → ∀ (k : Nat) (o : Oper) (u : OutC), l[k]? = some o → us[k]? = some u →
    (∀ t, o.dst = some t → t < nt) ∧ StepC P nt ops σ0 anc o (j + k) (envC (l.take k) (us.take k) env) (memC (us.take k) σ) (lwC (us.take k) j lw) u
  | [], us, _, _, _, _, _, k, o, u, ho, _ => by simp at ho
  | o' :: l, [], _, _, _, _, h, k, o, u, _, hu => by simp at hu
  | o' :: l, u' :: us, j, env, σ, lw, h, k, o, u, ho, hu => by
    obtain ⟨h1, h2, h3⟩ := h
    cases k with
    | zero =>
      simp at ho hu
      subst ho; subst hu
      exact ⟨h1, h2⟩
    | succ k =>
      have := TrC_get l us (j + 1) _ _ _ h3 k o u (by simpa using ho) (by simpa using hu)
      rw [show j + 1 + k = j + (k + 1) by omega] at this
      exact this
theorem envC_snoc : ∀ (l : List Oper) (us : List OutC) (e : Env) (o : Oper) (u : OutC), l.length = us.length → envC (l ++ [o]) (us ++ [u]) e = (envC l us e).put o.dst u.val
  | [], [], e, o, u, _ => rfl
  | [], _ :: _, _, _, _, h => by simp at h
  | _ :: _, [], _, _, _, h => by simp at h
  | o' :: l, u' :: us, e, o, u, h => by simp only [List.cons_append, envC]; exact envC_snoc l us _ o u (by simpa using h)
theorem memC_snoc : ∀ (us : List OutC) (σ : List Blk) (u : OutC), memC (us ++ [u]) σ = u.mem (memC us σ)
  | [], _, _ => rfl
  | u' :: us, σ, u => by simp only [List.cons_append, memC]; exact memC_snoc us _ u
theorem lwC_snoc : ∀ (us : List OutC) (j : Nat) (lw : Option Nat) (u : OutC), lwC (us ++ [u]) j lw = u.lw (j + us.length) (lwC us j lw)
  | [], _, _, _ => rfl
  | u' :: us, j, lw, u => by
    simp only [List.cons_append, lwC, List.length_cons]
    rw [lwC_snoc us (j + 1) _ u, show j + 1 + us.length = j + (us.length + 1) by omega]

/-- the walk, with what it tells -/
structure WalkC (P : Program) (nt : Nat) (ops : Array Oper) (env0 : Env) (σ : List Blk) (us : List OutC) : Prop where
  shape : Shape ops
  len : us.length = ops.toList.length
  tr : TrC P nt ops σ (ancM ops.toList []) ops.toList us 0 env0 σ none
  apart : ∀ b ∈ readsC us, (touC us).any (Nat.beq b) = false
theorem WalkC.both (W : WalkC P nt ops env0 σ us) {k : Nat} {o : Oper} (ho : ops.toList[k]? = some o) : ∃ u, us[k]? = some u :=
  ⟨_, List.getElem?_eq_getElem (by rw [W.len]; exact (List.getElem?_eq_some_iff.1 ho).1)⟩
theorem WalkC.both' (W : WalkC P nt ops env0 σ us) {k : Nat} {u : OutC} (hu : us[k]? = some u) : ∃ o, ops.toList[k]? = some o :=
  ⟨_, List.getElem?_eq_getElem (by rw [← W.len]; exact (List.getElem?_eq_some_iff.1 hu).1)⟩
theorem WalkC.step (W : WalkC P nt ops env0 σ us) {k : Nat} {o : Oper} {u : OutC} (ho : ops.toList[k]? = some o) (hu : us[k]? = some u) :
    (∀ t, o.dst = some t → t < nt) ∧ StepC P nt ops σ (ancM ops.toList []) o k (envC (ops.toList.take k) (us.take k) env0) (memC (us.take k) σ) (lwC (us.take k) 0 none) u := by
  have := TrC_get ops.toList us 0 env0 σ none W.tr k o u ho hu
  rwa [Nat.zero_add] at this

theorem env_atC (W : WalkC P nt ops env0 σ us) (t : Nat) : ∀ (i : Nat), i ≤ us.length → (envC (ops.toList.take i) (us.take i) env0).get t =
    match wrI ops.toList 0 t with
    | some k => if k < i then ((us[k]?).map OutC.val).getD (.tup []) else env0.get t
    | none => env0.get t := by
  intro i
  induction i with
  | zero => intro _; simp [envC]; split <;> rfl
  | succ i ih =>
    intro hi
    have hu := List.getElem?_eq_getElem (show i < us.length by omega)
    obtain ⟨o, ho⟩ := W.both' hu
    rw [take_snoc hu, take_snoc ho, envC_snoc _ _ _ _ _ (by simp [W.len])]
    have hrec := ih (by omega)
    by_cases hd : o.dst = some t
    · rw [wrI_of W.shape ho hd]
      simp only [hd, Env.put, Env.get]
      rw [show Nat.beq t t = true by simp, cond_true, if_pos (by omega), hu]
      rfl
    · have hput : ((envC (ops.toList.take i) (us.take i) env0).put o.dst us[i].val).get t = (envC (ops.toList.take i) (us.take i) env0).get t := by
        cases hdd : o.dst with
        | none => rfl
        | some d =>
          simp only [Env.put, Env.get]
          have : Nat.beq d t = false := by
            cases hb : Nat.beq d t with
            | false => rfl
            | true => exact absurd (by rw [hdd, Nat.eq_of_beq_eq_true hb]) hd
          rw [this, cond_false]
      rw [hput, hrec]
      cases hw : wrI ops.toList 0 t with
      | none => rfl
      | some k =>
        obtain ⟨x, _, h2, h3⟩ := wrI_some _ _ _ _ hw
        rw [Nat.sub_zero] at h2
        have hne : k ≠ i := fun e => by subst e; rw [ho] at h2; injection h2 with h2; subst h2; exact hd h3
        simp only
        by_cases hk : k < i
        · rw [if_pos hk, if_pos (by omega)]
        · rw [if_neg hk, if_neg (by omega)]

/-! #### the makers, one behind the other -/
theorem lw_spec (us : List OutC) : ∀ i, i ≤ us.length → (∀ l, lwC (us.take i) 0 none = some l → l < i ∧ (∃ u, us[l]? = some u ∧ u.isWet = true) ∧ ∀ k u, l < k → k < i → us[k]? = some u → u.isWet = false) ∧
    (lwC (us.take i) 0 none = none → ∀ k u, k < i → us[k]? = some u → u.isWet = false)
  | 0, _ => ⟨fun l h => by simp [lwC] at h, fun _ k u hk _ => by omega⟩
  | i + 1, hi => by
    obtain ⟨h1, h2⟩ := lw_spec us i (by omega)
    have hu := List.getElem?_eq_getElem (show i < us.length by omega)
    rw [take_snoc hu, lwC_snoc, List.length_take, Nat.min_eq_left (by omega), Nat.zero_add]
    cases hc : us[i] with
    | dry b v =>
      simp only [OutC.lw]
      have hi' : ∀ u, us[i]? = some u → u.isWet = false := fun u h => by rw [hu, hc] at h; injection h with h; subst h; rfl
      refine ⟨fun l hl => ?_, fun hn k u hk hu' => ?_⟩
      · obtain ⟨a, b, c⟩ := h1 l hl
        refine ⟨by omega, b, fun k u hlk hki hu' => ?_⟩
        by_cases e : k = i
        · subst e; exact hi' u hu'
        · exact c k u hlk (by omega) hu'
      · by_cases e : k = i
        · subst e; exact hi' u hu'
        · exact h2 hn k u (by omega) hu'
    | wet v σ' T =>
      simp only [OutC.lw]
      refine ⟨fun l hl => ?_, fun hn => by cases hn⟩
      injection hl with hl; subst hl
      exact ⟨by omega, ⟨_, hu, by rw [hc]; rfl⟩, fun k u h3 h4 _ => by omega⟩
theorem chainC (W : WalkC P nt ops env0 σ us) {D : Array Bool} (hc : Closed ops D) : ∀ (i : Nat) (u : OutC), us[i]? = some u → u.isWet = true → D.getD i false = true → ∀ (k : Nat) (u' : OutC), k < i → us[k]? = some u' → u'.isWet = true → D.getD k false = true := by
  intro i
  induction i using Nat.strongRecOn with
  | _ i ih =>
    intro u hu hw hD k u' hk hu' hw'
    obtain ⟨o, ho⟩ := W.both' hu
    have hil : i < us.length := (List.getElem?_eq_some_iff.1 hu).1
    obtain ⟨l1, l2⟩ := lw_spec us i (Nat.le_of_lt hil)
    cases hl : lwC (us.take i) 0 none with
    | none =>
      have := l2 hl k u' hk hu'
      rw [hw'] at this; cases this
    | some l =>
      obtain ⟨g1, ⟨ul, g2, g3⟩, g4⟩ := l1 l hl
      have hlD : D.getD l false = true := by
        have hs := (W.step ho hu).2
        cases u with
        | dry b v => cases hw
        | wet v σ' T =>
          have hb := hs.1 l hl
          have hanc : i < (ancM ops.toList []).length := by rw [ancM_length]; simp; have := (List.getElem?_eq_some_iff.1 ho).1; simpa using this
          have hm : (ancM ops.toList [])[i]? = some ((ancM ops.toList []).getD i 0) := by
            rw [List.getD_eq_getElem?_getD, List.getElem?_eq_getElem hanc]; rfl
          exact ancM_spec (D := D) ops.toList [] [] rfl (fun j o ho hD e he hb => hc j o (by simpa using ho) hD e he hb) (fun k m i hk => by simp at hk) i _ l hm hb hD
      have hkl : k ≤ l := by
        rcases Nat.lt_or_ge l k with h | h
        · have := g4 k u' h hk hu'
          rw [hw'] at this; cases this
        · exact h
      rcases Nat.lt_or_ge k l with h | h
      · exact ih l g1 ul g2 g3 hlD k u' h hu' hw'
      · have : k = l := by omega
        subst this; exact hlD

/-! #### memory, when so much came up -/
def memS : List OutC → Nat → Array Bool → List Blk → List Blk
  | [], _, _, σ => σ
  | u :: us, j, D, σ => memS us (j + 1) D (if D.getD j false = true then u.mem σ else σ)
theorem memS_take : ∀ (us : List OutC) (i j : Nat) (D : Array Bool) (σ : List Blk), (∀ k u, us[k]? = some u → u.isWet = true → D.getD (j + k) false = decide (k < i)) → memS us j D σ = memC (us.take i) σ
  | [], i, j, D, σ, h => by simp [memS, memC]
  | u :: us, i, j, D, σ, h => by
    have hrest : ∀ i', (∀ k, decide (k + 1 < i) = decide (k < i')) → ∀ k u, us[k]? = some u → u.isWet = true → D.getD (j + 1 + k) false = decide (k < i') := fun i' hi' k u hu hw => by
      have := h (k + 1) u (by simpa using hu) hw
      rw [show j + 1 + k = j + (k + 1) by omega, this, hi']
    simp only [memS]
    cases i with
    | zero =>
      rw [memS_take us 0 (j + 1) D _ (hrest 0 (fun k => by simp))]
      simp only [List.take_zero, memC]
      cases u with
      | dry b v => simp [OutC.mem]
      | wet v σ' T =>
        have := h 0 (.wet v σ' T) rfl rfl
        rw [Nat.add_zero] at this
        rw [this]; simp
    | succ i =>
      rw [memS_take us i (j + 1) D _ (hrest i (fun k => by simp))]
      simp only [List.take_succ_cons, memC]
      cases u with
      | dry b v => simp [OutC.mem]
      | wet v σ' T =>
        have := h 0 (.wet v σ' T) rfl rfl
        rw [Nat.add_zero] at this
        rw [this]; simp
theorem memS_congr : ∀ (us : List OutC) (j : Nat) (D E : Array Bool) (σ : List Blk), (∀ k u, us[k]? = some u → u.isWet = true → D.getD (j + k) false = E.getD (j + k) false) → memS us j D σ = memS us j E σ
  | [], _, _, _, _, _ => rfl
  | u :: us, j, D, E, σ, h => by
    simp only [memS]
    have h0 : (if D.getD j false = true then u.mem σ else σ) = (if E.getD j false = true then u.mem σ else σ) := by
      cases u with
      | dry b v => simp [OutC.mem]
      | wet v σ' T =>
        have := h 0 (.wet v σ' T) rfl rfl
        rw [Nat.add_zero] at this
        rw [this]
    rw [h0]
    exact memS_congr us (j + 1) D E _ (fun k u hu hw => by
      have := h (k + 1) u (by simpa using hu) hw
      rwa [show j + (k + 1) = j + 1 + k by omega] at this)
theorem wets_keep {σ0 : List Blk} {x : Nat} {c : Blk} : ∀ (l : List Oper) (us : List OutC) (j : Nat) (env : Env) (σ : List Blk) (lw : Option Nat), TrC P nt ops σ0 anc l us j env σ lw → σ[x]? = some c → (touC us).any (Nat.beq x) = false →
    ∀ u ∈ us, ∀ v σ' T, u = .wet v σ' T → σ'[x]? = some c
  | [], [], _, _, _, _, _, _, _, u, hu, _, _, _, _ => by simp at hu
  | [], _ :: _, _, _, _, _, h, _, _, _, _, _, _, _, _ => by cases h
  | _ :: _, [], _, _, _, _, _, _, _, u, hu, _, _, _, _ => by simp at hu
  | o :: l, u' :: us, j, env, σ, lw, h, hx, ht, u, hu, v, σ', T, he => by
    obtain ⟨_, h2, h3⟩ := h
    simp only [touC, List.flatMap_cons, List.any_append, Bool.or_eq_false_iff] at ht
    have hx' : (u'.mem σ)[x]? = some c := by
      cases u' with
      | dry b v => exact hx
      | wet v2 σ2 T2 =>
        have := h2.2.1 x (List.getElem?_eq_some_iff.1 hx).1 ht.1
        simp only [OutC.mem]
        rw [this]; exact hx
    rcases List.mem_cons.1 hu with e | hm
    · subst e; subst he; exact hx'
    · exact wets_keep l us (j + 1) _ _ _ h3 hx' ht.2 u hm v σ' T he
theorem memS_keep {x : Nat} {c : Blk} : ∀ (us : List OutC) (j : Nat) (D : Array Bool) (σ : List Blk), (∀ u ∈ us, ∀ v σ' T, u = .wet v σ' T → σ'[x]? = some c) → σ[x]? = some c → (memS us j D σ)[x]? = some c
  | [], _, _, _, _, h => h
  | u :: us, j, D, σ, hw, h => by
    simp only [memS]
    refine memS_keep us (j + 1) D _ (fun u' hu' => hw u' (by simp [hu'])) ?_
    split
    · cases u with
      | dry b v => exact h
      | wet v σ' T => exact hw _ (by simp) v σ' T rfl
    · exact h

/-! #### the frame -/
def valC (ops : Array Oper) (env0 : Env) (us : List OutC) (D : Array Bool) (t : Nat) : V :=
  match wrI ops.toList 0 t with
  | some k => if D.getD k false = true then ((us[k]?).map OutC.val).getD (.tup []) else env0.get t
  | none => env0.get t
theorem valC_set (hS : Shape ops) {D : Array Bool} {i t : Nat} {o : Oper} {u : OutC} (ho : ops.toList[i]? = some o) (hu : us[i]? = some u) (hi : i < D.size) :
    valC ops env0 us (D.setIfInBounds i true) t = if o.dst = some t then u.val else valC ops env0 us D t := by
  unfold valC
  by_cases hd : o.dst = some t
  · rw [if_pos hd, wrI_of hS ho hd]
    simp only [getD_set hi, if_true, hu, Option.map_some, Option.getD_some]
  · rw [if_neg hd]
    cases hw : wrI ops.toList 0 t with
    | none => rfl
    | some k =>
      obtain ⟨x, _, h2, h3⟩ := wrI_some _ _ _ _ hw
      rw [Nat.sub_zero] at h2
      have : i ≠ k := fun e => by subst e; rw [ho] at h2; injection h2 with h2; subst h2; exact hd h3
      simp only [getD_set hi, if_neg this]
theorem agreeC (W : WalkC P nt ops env0 σ us) {D : Array Bool} (hc : Closed ops D) {i t : Nat} {o : Oper} (hr : Ready ops D i o) (ht : t ∈ o.looksAt ops) :
    valC ops env0 us D t = (envC (ops.toList.take i) (us.take i) env0).get t := by
  have hi : i < us.length := by rw [W.len]; exact (List.getElem?_eq_some_iff.1 hr.at_).1
  rw [env_atC W t i (Nat.le_of_lt hi)]
  unfold valC
  cases hw : wrI ops.toList 0 t with
  | none => rfl
  | some k =>
    obtain ⟨x, _, h2, h3⟩ := wrI_some _ _ _ _ hw
    rw [Nat.sub_zero] at h2
    simp only
    rw [look_order W.shape hc hr h2 h3 ht]
    by_cases hk : k < i
    · rw [decide_eq_true hk, if_pos rfl, if_pos hk]
    · rw [decide_eq_false hk, if_neg (by simp), if_neg hk]
theorem get_look (l : List Nat) (e : Env) (t : Nat) : Env.get (l.map fun t => (t, e.get t)) t = if t ∈ l then e.get t else .tup [] := by
  induction l with
  | nil => simp [Env.get]
  | cons x l ih =>
    simp only [List.map_cons, Env.get]
    cases hb : Nat.beq x t with
    | true => have := Nat.eq_of_beq_eq_true hb; subst this; simp
    | false =>
      have hne : t ≠ x := fun e => by subst e; simp at hb
      rw [cond_false, ih]
      simp [hne]

/-- what stands, when so much came up -/
def InvC (nt : Nat) (ops : Array Oper) (env0 : Env) (σ : List Blk) (us : List OutC) (B : Base) (ρ0 : Rho) (D : Array Bool) (a : Act) (w : World) : Prop :=
  D.size = ops.size ∧ Closed ops D ∧ a.tmps.size = nt ∧ a.defers = [] ∧ σ.length ≤ (memS us 0 D σ).length ∧ ∃ ρ : Rho, (∀ x, x < σ.length → ρ x = ρ0 x) ∧
    (∀ t, a.tmps.getD t undef = (valC ops env0 us D t).real ρ ∧ (valC ops env0 us D t).sc (memS us 0 D σ).length = true) ∧ Rel B ρ (memS us 0 D σ) w

theorem inv_stepC (W : WalkC P nt ops env0 σ us) {B : Base} {ρ0 : Rho} {D : Array Bool} {a : Act} {w : World} {i : Nat} {Q : Exit → Act → World → Prop}
    (hI : InvC nt ops env0 σ us B ρ0 D a w) (hi : i ∈ Region.ready .any ops D) : wpOp P ops Q i (InvC nt ops env0 σ us B ρ0 (D.setIfInBounds i true)) a w := by
  obtain ⟨hsz, hc, hnt, hdf, hle, ρ, hρ, hval, hrel⟩ := hI
  obtain ⟨o, hr, hiD, _⟩ := ready_of hi hsz
  obtain ⟨u, hu⟩ := W.both hr.at_
  have hil : i < us.length := (List.getElem?_eq_some_iff.1 hu).1
  obtain ⟨hd, hstep⟩ := W.step hr.at_ hu
  have hop : ops[i]? = some o := by simpa using hr.at_
  have hsz' : (D.setIfInBounds i true).size = ops.size := by simp [hsz]
  have hcl := closed_set hc hr hiD
  -- the frame that the operation looks at
  let a' : Act := { tmps := (Array.range nt).map fun t => if t ∈ o.looksAt ops then a.tmps.getD t undef else undef, defers := [] }
  have ha' : ∀ t, a'.tmps.getD t undef = if t < nt ∧ t ∈ o.looksAt ops then a.tmps.getD t undef else undef := by
    intro t
    by_cases ht : t < nt
    · simp [a', Array.getD, ht]
    · simp [a', Array.getD, ht]
  have hout : ∀ t, ¬ t < nt → a.tmps.getD t undef = undef := fun t ht => by simp [Array.getD, hnt, ht]
  have he : EnvOK ρ (memS us 0 D σ).length nt (lookE ops o (envC (ops.toList.take i) (us.take i) env0)) a' := by
    refine ⟨by simp [a'], fun t => ?_, fun t => ?_, rfl⟩
    · unfold lookE
      rw [get_look, ha']
      by_cases ht : t ∈ o.looksAt ops
      · rw [if_pos ht, ← agreeC W hc hr ht, ← (hval t).1]
        by_cases htn : t < nt
        · rw [if_pos ⟨htn, ht⟩]
        · rw [if_neg (fun h => htn h.1), hout t htn]
      · rw [if_neg ht, if_neg (fun h => ht h.2)]
        simp [V.real, undef, reals]
    · unfold lookE
      rw [get_look]
      by_cases ht : t ∈ o.looksAt ops
      · rw [if_pos ht, ← agreeC W hc hr ht]; exact (hval t).2
      · rw [if_neg ht]; rfl
  obtain ⟨e1, e2⟩ := same_act (a := a) (b := a') (o := o) W.shape.sel hr.at_ (by rw [hnt, he.size]) fun t ht => by
    rw [ha']
    by_cases htn : t < nt
    · rw [if_pos ⟨htn, ht⟩]
    · rw [if_neg (fun h => htn h.1), hout t htn]
  unfold wpOp
  simp only [hop]
  cases u with
  | dry b v =>
    obtain ⟨hb, hS⟩ := hstep
    have hmem : memS us 0 (D.setIfInBounds i true) σ = memS us 0 D σ := memS_congr us 0 _ _ σ (fun k u' hu' hw => by
      rw [Nat.zero_add, getD_set hiD]
      have : i ≠ k := fun e => by subst e; rw [hu] at hu'; injection hu' with hu'; subst hu'; cases hw
      rw [if_neg this])
    have next : ∀ x w', x = v.real ρ → v.sc (memS us 0 D σ).length = true → Grown w w' → InvC nt ops env0 σ us B ρ0 (D.setIfInBounds i true) (a.put o.dst x) w' := by
      intro x w' hx hv hg
      refine ⟨hsz', hcl, by cases o.dst <;> simp [Act.put, hnt], by cases o.dst <;> exact hdf, by rw [hmem]; exact hle, ρ, hρ, fun t => ?_, by rw [hmem]; exact hrel.grown hg⟩
      rw [put_getD (fun t ht => by rw [hnt]; exact hd t ht), valC_set W.shape hr.at_ hu hiD, hmem]
      by_cases ht : o.dst = some t
      · rw [if_pos ht, if_pos ht]; exact ⟨hx, hv⟩
      · rw [if_neg ht, if_neg ht]; exact hval t
    have hread : ∀ x, b = some x → (memS us 0 D σ)[x]? = σ[x]? := by
      intro x hx
      have hlt := hb x hx
      have hc' := List.getElem?_eq_getElem hlt
      have hin : x ∈ readsC us := by
        subst hx
        exact List.mem_flatMap.2 ⟨_, List.mem_of_getElem? hu, by simp [OutC.reads]⟩
      rw [hc']
      exact memS_keep us 0 D σ (wets_keep ops.toList us 0 env0 σ none W.tr hc' (W.apart x hin)) hc'
    rcases hS B ρ w a' _ hrel he hread with ⟨h1, h2⟩ | ⟨h1, h2⟩
    · rw [if_pos (by rw [e2]; exact h1)]
      left
      refine wp_of_runTo (by rw [e1]; exact h2) ?_
      rintro x w' ⟨rfl, hv, hg⟩
      exact next _ _ rfl hv hg
    · rw [if_neg (by rw [e2, h1]; exact Bool.false_ne_true)]
      exact next undef w (by rw [h2]; simp [V.real, undef, reals]) (by rw [h2]; rfl) (grown_refl w)
  | wet v σ' T =>
    obtain ⟨_, _, hS⟩ := hstep
    have hwets : ∀ k u', us[k]? = some u' → u'.isWet = true → k ≠ i → D.getD k false = decide (k < i) := by
      intro k u' hu' hw hne
      rcases Nat.lt_trichotomy k i with h | h | h
      · rw [decide_eq_true h]
        have := chainC W hcl i _ hu rfl (by rw [getD_set hiD, if_pos rfl]) k u' h hu' hw
        rw [getD_set hiD, if_neg (fun e => hne e.symm)] at this
        exact this
      · exact absurd h hne
      · rw [show decide (k < i) = false by simp; omega]
        cases hD : D.getD k false with
        | false => rfl
        | true =>
          have := chainC W hc k _ hu' hw hD i _ h hu rfl
          rw [hr.off] at this; cases this
    have hm0 : memS us 0 D σ = memC (us.take i) σ := memS_take us i 0 D σ (fun k u' hu' hw => by
      rw [Nat.zero_add]
      by_cases e : k = i
      · subst e; rw [hr.off]; simp
      · exact hwets k u' hu' hw e)
    have hm1 : memS us 0 (D.setIfInBounds i true) σ = σ' := by
      rw [memS_take us (i + 1) 0 _ σ (fun k u' hu' hw => by
        rw [Nat.zero_add, getD_set hiD]
        by_cases e : i = k
        · subst e; rw [if_pos rfl, decide_eq_true (by omega)]
        · rw [if_neg e, hwets k u' hu' hw (fun h => e h.symm)]
          congr 1; apply propext; constructor <;> intro h <;> omega), take_snoc hu, memC_snoc]
      rfl
    rw [hm0] at hrel he hle
    obtain ⟨h1, h2⟩ := hS B ρ w a' hrel he
    rw [if_pos (by rw [e2]; exact h1)]
    left
    refine wp_of_runTo (by rw [e1]; exact h2) ?_
    rintro x w' ⟨hlen, ρ', hρ', rfl, hv, hrel'⟩
    refine ⟨hsz', hcl, by cases o.dst <;> simp [Act.put, hnt], by cases o.dst <;> exact hdf, by rw [hm1]; omega, ρ', fun x hx => by rw [hρ' x (by omega), hρ x hx], fun t => ?_, by rw [hm1]; exact hrel'⟩
    rw [put_getD (fun t ht => by rw [hnt]; exact hd t ht), valC_set W.shape hr.at_ hu hiD, hm1]
    by_cases ht : o.dst = some t
    · rw [if_pos ht, if_pos ht]; exact ⟨rfl, hv⟩
    · rw [if_neg ht, if_neg ht]
      have h3 := hval t
      rw [hm0] at h3
      exact ⟨by rw [h3.1, V.real_ext hρ' _ h3.2], V.sc_mono hlen _ h3.2⟩

theorem evRegC_sound {Γ : List (Summ P)} (hN : NamesOK P) (hM : P.follows .mixedOrders = true) {H : List (Nat × V)} {B : Base} {ρ0 : Rho} {w : World} {a0 : Act} {K : Env → List Blk → Option R} {r : R} {Q : Exit → Act → World → Prop} {id : Nat}
    (h : evRegC P Γ H nt ops env0 σ K = some r) (hrel : Rel B ρ0 σ w) (he : EnvOK ρ0 σ.length nt env0 a0) (hQ : ∀ a' w', AfterR B nt ρ0 σ K r a' w' → Q .normal a' w') : (Code.region id ops true).wp P Q a0 w := by
  unfold evRegC at h
  cases hB : regOK ops with
  | false => rw [hB] at h; cases h
  | true =>
  rw [hB, cond_true] at h
  have hrel' : Rel B ρ0 σ { w with drawn := w.drawn + 1 } := hrel.congr (fun _ _ => rfl) rfl rfl rfl rfl
  obtain ⟨us, hlen, htr, hK, hap⟩ := evC_trace hN ops.toList 0 env0 σ none [] [] h
  have W : WalkC P nt ops env0 σ us := ⟨shape_of hB, hlen, htr, fun b hb => (hap b (.inr hb)).2⟩
  have hsize : us.length = ops.size := by rw [hlen]; simp
  have htake : us.take us.length = us := List.take_length
  have htakeL : ops.toList.take us.length = ops.toList := by rw [hlen]; exact List.take_length
  have hfalse : ∀ k, (Array.replicate ops.size false).getD k false = false := fun k => by
    rcases Nat.lt_or_ge k ops.size with h | h
    · simp [h]
    · simp [h]
  refine wp_region_any hM (any_inv (InvC nt ops env0 σ us B ρ0) (fun D a w i hI hi => inv_stepC W hI hi) (fun D a w hI hready => ?_) _ _ _ _ ?_ ?_)
  · obtain ⟨hsz, hc, hnt, hdf, hle, ρ, hρ, hval, hr⟩ := hI
    have hfull : ∀ k, k < us.length → D.getD k false = true := by
      intro k
      induction k using Nat.strongRecOn with
      | _ k ih =>
        intro hk
        cases hD : D.getD k false with
        | true => rfl
        | false =>
          exfalso
          have hkD : k < D.size := by omega
          have hko : k < ops.toList.length := by omega
          have hmem : k ∈ Region.ready .any ops D := mem_ready.2 ⟨by simp [hkD] at hD ⊢; exact hD, ops.toList[k], by
            have := List.getElem?_eq_getElem hko
            rw [Array.getElem?_toList] at this; exact this, fun e he hb => by
            have := W.shape.edge k _ (List.getElem?_eq_getElem hko) e he hb
            exact ih e.on this (by omega)⟩
          rw [hready] at hmem; cases hmem
    have hmem : memS us 0 D σ = memC us σ := by
      rw [memS_take us us.length 0 D σ (fun k u hu _ => by
        have hk := (List.getElem?_eq_some_iff.1 hu).1
        rw [Nat.zero_add, hfull k hk, decide_eq_true hk]), htake]
    have hget : ∀ t, (envC ops.toList us env0).get t = valC ops env0 us D t := by
      intro t
      have henv := env_atC W t us.length (Nat.le_refl _)
      rw [htake, htakeL] at henv
      rw [henv]
      unfold valC
      cases hw : wrI ops.toList 0 t with
      | none => rfl
      | some k =>
        obtain ⟨x, _, h2, h3⟩ := wrI_some _ _ _ _ hw
        rw [Nat.sub_zero] at h2
        have hk : k < us.length := by rw [hlen]; exact (List.getElem?_eq_some_iff.1 h2).1
        simp only [if_pos hk, hfull k hk, if_true]
    rw [hmem] at hle hr
    refine hQ a w ⟨_, _, ρ, hle, hρ, hr, ⟨hnt, fun t => by rw [hget]; exact (hval t).1, fun t => by rw [hget]; have := (hval t).2; rw [hmem] at this; exact this, hdf⟩, hK⟩
  · have h0 : memS us 0 (Array.replicate ops.size false) σ = σ := by
      rw [memS_take us 0 0 _ σ (fun k u _ _ => by rw [hfalse]; simp)]; simp [memC]
    have hv : ∀ t, valC ops env0 us (Array.replicate ops.size false) t = env0.get t := fun t => by
      unfold valC
      cases hw : wrI ops.toList 0 t with
      | none => rfl
      | some k => simp only [hfalse]; rfl
    refine ⟨by simp, fun j o _ hD => (by rw [hfalse] at hD; cases hD), he.size, he.def_, by rw [h0]; exact Nat.le_refl _, ρ0, fun _ _ => rfl, fun t => ?_, by rw [h0]; exact hrel'⟩
    rw [hv, h0]
    exact ⟨he.val t, he.sc t⟩
  · simp [List.count_replicate]
end
end Go.R

namespace Go.R
open Go

section
variable {R : Type} {P : Program}

theorem envOf_get : ∀ (l : List V) (i t : Nat), (envOf l i).get t = if i ≤ t then l.getD (t - i) (.tup []) else .tup []
  | [], i, t => by simp [envOf, Env.get]
  | v :: r, i, t => by
    simp only [envOf, Env.get]
    by_cases h : i = t
    · subst h
      have : Nat.beq i i = true := by simp
      rw [this]; simp
    · have : Nat.beq i t = false := by
        cases hb : Nat.beq i t with
        | false => rfl
        | true => exact absurd (Nat.eq_of_beq_eq_true hb) h
      rw [this, cond_false, envOf_get r (i + 1) t]
      by_cases h2 : i ≤ t
      · rw [if_pos h2, if_pos (by omega), show t - i = (t - (i + 1)) + 1 by omega]
        simp
      · rw [if_neg h2, if_neg (by omega)]

theorem envOf_ok {ρ : Rho} {n m : Nat} {l : List V} (h : scs n l = true) : EnvOK ρ n (l.length + (m - l.length)) (envOf l 0) { tmps := (reals ρ l).toArray ++ Array.replicate (m - (reals ρ l).toArray.size) undef, defers := [] } := by
  refine ⟨by simp [reals_eq], fun t => ?_, fun t => ?_, rfl⟩
  · rw [envOf_get, if_pos (Nat.zero_le _), Nat.sub_zero]
    rw [Array.getD_eq_getD_getElem?, Array.getElem?_append]
    by_cases ht : t < l.length
    · rw [if_pos (by simpa [reals_eq] using ht)]
      simp [reals_eq, ht]
    · rw [if_neg (by simpa [reals_eq] using ht)]
      rw [List.getD_eq_getElem?_getD, List.getElem?_eq_none (by omega)]
      rw [Array.getElem?_replicate]
      split <;> simp [V.real, reals, undef]
  · rw [envOf_get, if_pos (Nat.zero_le _), Nat.sub_zero, List.getD_eq_getElem?_getD]
    cases hg : l[t]? with
    | none => simp [V.sc, scs]
    | some v => exact (scs_iff _ _).1 h v (List.mem_of_getElem? hg)

def resOf (tmps : Array Value) : ResultVar → Sem Value
  | .tmp t => pure (tmps.getD t undef)
  | .cell a t => do loadVar t (← asAddr (tmps.getD a undef))
theorem results_eq (fn : Func) (tmps : Array Value) : results fn tmps = (do
    let vs ← fn.results.mapM (resOf tmps)
    pure (if h : vs.size = 1 then vs[0] else .tuple vs)) := by
  unfold results
  congr 1

theorem evRes_sound {B : Base} {ρ : Rho} {σ : List Blk} {w : World} {nt : Nat} {env : Env} {a : Act} (hr : Rel B ρ σ w) (he : EnvOK ρ σ.length nt env a) : ∀ (l : List ResultVar) (vs : List V), evRes P env σ l = some vs →
    (l.mapM (resOf a.tmps)).run P w = .ok (reals ρ vs) w ∧ scs σ.length vs = true
  | [], vs, h => by simp only [evRes, Option.some.injEq] at h; subst h; exact ⟨rfl, rfl⟩
  | .tmp t :: r, vs, h => by
    simp only [evRes, Option.map_eq_some_iff] at h
    obtain ⟨us, hu, rfl⟩ := h
    obtain ⟨h1, h2⟩ := evRes_sound hr he r us hu
    refine ⟨?_, by simp [scs, he.sc t, h2]⟩
    rw [List.mapM_cons, run_bind_ok (show (resOf a.tmps (.tmp t)).run P w = .ok ((env.get t).real ρ) w by simp only [resOf]; rw [he.val t]; rfl), run_bind_ok h1]
    rfl
  | .cell x t :: r, vs, h => by
    simp only [evRes] at h
    split at h
    · rename_i b off hx
      split at h
      · rename_i blk hb
        split at h
        · rename_i ok v hl
          cases ok with
          | false => cases h
          | true =>
            simp only [cond_true, Option.map_eq_some_iff] at h
            obtain ⟨us, hu, rfl⟩ := h
            obtain ⟨h1, h2⟩ := evRes_sound hr he r us hu
            obtain ⟨h3, h4⟩ := run_loadVar' (hr.at_ b blk hb) hl
            refine ⟨?_, by simp [scs, h4 _ (hr.sc b blk hb), h2]⟩
            have hval := he.val x
            rw [hx] at hval
            rw [List.mapM_cons, run_bind_ok (show (resOf a.tmps (.cell x t)).run P w = .ok (v.real ρ) w by
              simp only [resOf, hval]
              rw [run_bind_ok (show (asAddr ((V.ptr b off).real ρ)).run P w = .ok ⟨(ρ b).1, off, none⟩ w from rfl)]
              exact h3), run_bind_ok h1]
            rfl
        · cases h
      · cases h
    · cases h

theorem evResults_sound {B : Base} {ρ : Rho} {σ : List Blk} {w : World} {nt : Nat} {env : Env} {a : Act} (hr : Rel B ρ σ w) (he : EnvOK ρ σ.length nt env a) {fn : Func} {v : V} (h : evResults P fn env σ = some v) :
    (results fn a.tmps).run P w = .ok (v.real ρ) w ∧ v.sc σ.length = true := by
  unfold evResults at h
  rw [results_eq, Array.mapM_eq_mapM_toList]
  split at h
  · rename_i u hu
    simp only [Option.some.injEq] at h; subst h
    obtain ⟨h1, h2⟩ := evRes_sound hr he _ _ hu
    refine ⟨?_, by simpa [scs] using h2⟩
    rw [map_eq_pure_bind, Sem.run_bind, Sem.run_bind, h1]
    simp [Result.andThen, Sem.run, pure, reals]
  · rename_i l hl hu
    simp only [Option.some.injEq] at h; subst h
    obtain ⟨h1, h2⟩ := evRes_sound hr he _ _ hu
    refine ⟨?_, by simpa [V.sc] using h2⟩
    have hne : (reals ρ l).toArray.size ≠ 1 := by
      simp only [List.size_toArray, reals_eq, List.length_map]
      intro h1
      match l, h1, hu with
      | [v], _, hu => exact hl v rfl
    rw [map_eq_pure_bind, Sem.run_bind, Sem.run_bind, h1]
    simp only [Result.andThen, Sem.run, pure]
    rw [dif_neg hne]
    simp [V.real]
  · cases h

def ExM : Ex → Exit → Prop
  | .normal, .normal => True
  | .exit i, .exit j => i = j
  | .ret, .ret => True
  | _, _ => False
def PostE (B : Base) (nt : Nat) (ρ : Rho) (σ : List Blk) (K : Ex → Env → List Blk → Option R) (r : R) (e : Exit) (a' : Act) (w' : World) : Prop :=
  ∃ x, ExM x e ∧ AfterR B nt ρ σ (K x) r a' w'

/-- an evaluator of code that is right -/
def RecOK (P : Program) (rec : Nat → Code → Env → List Blk → (Ex → Env → List Blk → Option R) → Option R) : Prop :=
  ∀ nt c env σ K r, rec nt c env σ K = some r → ∀ B ρ a w, Rel B ρ σ w → EnvOK ρ σ.length nt env a → c.wp P (PostE B nt ρ σ K r) a w

theorem enter_sound {rec : Nat → Code → Env → List Blk → (Ex → Env → List Blk → Option R) → Option R} (hrec : RecOK P rec) : CallsOK P (enterWith P rec) := by
  intro k args σ kk r h B ρ w hr hs
  unfold enterWith at h
  split at h
  · rename_i fn hf
    split at h
    · rename_i c hb
      refine calls_of_wp hf hb ?_
      have hwp := hrec _ _ _ _ _ _ h B ρ _ w hr (envOf_ok hs)
      refine wp_mono hwp ?_
      rintro e a' w' ⟨x, hx, env', σ', ρ', h1, h2, h3, h4, h5⟩
      have fin : x ≠ .normal → x ≠ .ret → False := by
        intro n1 n2
        cases x with
        | normal => exact n1 rfl
        | ret => exact n2 rfl
        | exit i => cases h5
      have good : (x = .normal ∨ x = .ret) → a'.defers = [] ∧ ∃ v, (results fn a'.tmps).run P w' = .ok v w' ∧ ∃ u, (Ending.returned v) = .returned u ∧ After B ρ σ kk r u w' := by
        intro hx'
        have h6 : (match evResults P fn env' σ' with | some v => kk v σ' | none => none) = some r := by
          rcases hx' with rfl | rfl <;> exact h5
        split at h6
        · rename_i v hv
          obtain ⟨g1, g2⟩ := evResults_sound h3 h4 hv
          exact ⟨h4.def_, _, g1, _, rfl, v, σ', ρ', rfl, h1, h2, h3, g2, h6⟩
        · cases h6
      cases e with
      | normal => exact good (by cases x <;> simp_all [ExM])
      | ret => exact good (by cases x <;> simp_all [ExM])
      | exit i => cases x <;> simp_all [ExM]
      | goto l => cases x <;> simp_all [ExM]
      | panic ch => cases x <;> simp_all [ExM]
      | outgrown => cases x <;> simp_all [ExM]
    · cases h
  · cases h

theorem callWith_sound {Γ : List (Summ P)} {rec : Nat → Code → Env → List Blk → (Ex → Env → List Blk → Option R) → Option R} (hrec : RecOK P rec) : CallsOK P (callWith P Γ rec) := by
  intro k args σ kk r h B ρ w hr hs
  unfold callWith at h
  split at h
  · rename_i s hf
    split at h
    · rename_i ok v σ' hv
      cases ok with
      | false => cases h
      | true =>
      rw [cond_true] at h
      obtain ⟨g1, g2, g3, g4⟩ := s.ok _ _ _ _ hv hs
      have hk := findS_spec hf
      rw [hk] at g4
      refine (g4 B ρ w hr hs).mono ?_
      rintro e w' ⟨ρ', h1, rfl, h2⟩
      exact ⟨_, rfl, v, σ', ρ', rfl, g1, h1, h2, g2, h⟩
    · cases h
  · exact enter_sound hrec _ _ _ _ _ h B ρ w hr hs

theorem AfterR.trans {B : Base} {nt : Nat} {ρ ρ1 : Rho} {σ σ1 : List Blk} {K : Env → List Blk → Option R} {r : R} {a' : Act} {w' : World} (h1 : σ.length ≤ σ1.length) (h2 : ∀ i, i < σ.length → ρ1 i = ρ i)
    (h : AfterR B nt ρ1 σ1 K r a' w') : AfterR B nt ρ σ K r a' w' := by
  obtain ⟨env', σ', ρ', g1, g2, g3⟩ := h
  exact ⟨env', σ', ρ', Nat.le_trans h1 g1, fun i hi => by rw [g2 i (Nat.lt_of_lt_of_le hi h1), h2 i hi], g3⟩

theorem onceE_get : ∀ (e : Env) (m t : Nat), Nat.testBit m t = false → (onceE e m).get t = e.get t
  | [], _, _, _ => rfl
  | (s, v) :: r, m, t, h => by
    simp only [onceE]
    cases hb : Nat.testBit m s with
    | true =>
      rw [cond_true, onceE_get r m t h]
      simp only [Env.get]
      have : Nat.beq s t = false := by
        cases hs : Nat.beq s t with
        | false => rfl
        | true => have := Nat.eq_of_beq_eq_true hs; subst this; rw [hb] at h; cases h
      rw [this, cond_false]
    | false =>
      rw [cond_false]
      simp only [Env.get]
      cases hs : Nat.beq s t with
      | true => rfl
      | false =>
        rw [cond_false, cond_false]
        refine onceE_get r _ t ?_
        rw [Nat.testBit_or, h, Bool.false_or, Nat.testBit_two_pow, decide_eq_false_iff_not]
        intro e; subst e; simp at hs
theorem EnvOK.once {ρ : Rho} {n nt : Nat} {env : Env} {a : Act} (h : EnvOK ρ n nt env a) : EnvOK ρ n nt (onceE env 0) a :=
  ⟨h.size, fun t => by rw [onceE_get _ _ _ (Nat.zero_testBit t)]; exact h.val t, fun t => by rw [onceE_get _ _ _ (Nat.zero_testBit t)]; exact h.sc t, h.def_⟩
/-- the rounds of a loop -/
theorem loop_rounds {Γ : List (Summ P)} {H : List (Nat × V)} {B : Base} {nt : Nat} {body : Code} {K : Ex → Env → List Blk → Option R} {r : R} {Q : Exit → Act → World → Prop} : ∀ (n : Nat), (∀ m, m < n → ∀ H, RecOK (R := R) P (ev P Γ m H)) →
    ∀ (env : Env) (σ : List Blk) (ρ : Rho) (a : Act) (w : World), ev P Γ n H nt (.loop body) env σ K = some r → Rel B ρ σ w → EnvOK ρ σ.length nt env a →
    (∀ e a' w', PostE B nt ρ σ K r e a' w' → Q e a' w') → Code.rounds P body Q n a w
  | 0, _, _, _, _, _, _, h, _, _, _ => by simp [ev] at h
  | n + 1, all, env, σ, ρ, a, w, h, hr, he, hQ => by
    simp only [ev] at h
    rw [rounds_succ]
    refine wp_mono (all n (Nat.lt_succ_self n) H _ _ _ _ _ _ h B ρ a w hr he) ?_
    rintro e a' w' ⟨ex, hex, env', σ', ρ', h1, h2, h3, h4, h5⟩
    cases ex with
    | normal =>
      cases e <;> simp only [ExM] at hex
      exact loop_rounds n (fun m hm => all m (Nat.lt_succ_of_lt hm)) _ σ' ρ' a' w' h5 h3 h4.once (fun e a'' w'' ⟨x', hx', hA⟩ => hQ e a'' w'' ⟨x', hx', hA.trans h1 h2⟩)
    | exit i =>
      cases e <;> simp only [ExM] at hex
      exact hQ _ _ _ ⟨.exit i, hex, env', σ', ρ', h1, h2, h3, h4, h5⟩
    | ret =>
      cases e <;> simp only [ExM] at hex
      exact hQ _ _ _ ⟨.ret, trivial, env', σ', ρ', h1, h2, h3, h4, h5⟩

/-- what only computes or reads, in one world -/
theorem evHead_sound {H : List (Nat × V)} {B : Base} {nt : Nat} {ops : Array Oper} {K : Env → Option R} {r : R} {σ : List Blk} {ρ : Rho} {w : World} {Q : Act → Prop} (hr : Rel B ρ σ w) : ∀ (l : List Oper) (env : Env) (a : Act),
    evQ P [] H nt ops.toList l env σ K = some r → EnvOK ρ σ.length nt env a → (∀ env' a', EnvOK ρ σ.length nt env' a' → K env' = some r → Q a') → wpStill P ops w Q l a
  | [], env, a, h, he, hQ => hQ env a he h
  | o :: rest, env, a, h, he, hQ => by
    simp only [evQ] at h
    cases hd : dstOk nt o.dst with
    | false => rw [hd] at h; cases h
    | true =>
      rw [hd, cond_true] at h
      unfold wpStill
      rcases guardK_sound h he with ⟨hw, env', he', h'⟩ | ⟨hw, env', he', h'⟩
      · rw [if_pos hw]
        have done : ∀ v : V, v.sc σ.length = true → (execOp a.eval o).run P w = .ok (.value (v.real ρ)) w → (hintK H o.dst v fun v => evQ P [] H nt ops.toList rest (env'.put o.dst v) σ K) = some r → o.still P a w (wpStill P ops w Q rest) := by
          intro v hv hq hk
          unfold Oper.still
          rw [hq]
          exact ⟨rfl, evHead_sound hr rest _ _ (hintK_sound hk) (he'.put (dstOk_spec hd) hv) hQ⟩
        have pure : ∀ (ok : Bool) (v : V), evPure2 P o.op env' σ = some (ok, v) → (bif ok then (hintK H o.dst v fun v => evQ P [] H nt ops.toList rest (env'.put o.dst v) σ K) else none) = some r → o.still P a w (wpStill P ops w Q rest) := by
          intro ok v hp hk
          cases ok with
          | false => cases hk
          | true =>
            rw [cond_true] at hk
            exact done v (pure2_sound hp hr he').2 (pure2_sound hp hr he').1 hk
        unfold evQOper at h'
        split at h'
        · rename_i c x y hop
          split at h'
          · rename_i g va vb h1 h2 h3
            obtain ⟨e1, _⟩ := opr_spec he' h1
            obtain ⟨e2, s2⟩ := opr_spec he' h2
            obtain ⟨e3, s3⟩ := opr_spec he' h3
            have hrun : (execOp a.eval o).run P w = .ok (.value (if g then va.real ρ else vb.real ρ)) w := by
              simp only [execOp, hop, e1, e2, e3, V.real]
              rfl
            cases g with
            | true => exact done va s2 hrun h'
            | false => exact done vb s3 hrun h'
          · cases h'
        · rename_i c hop
          split at h'
          · split at h'
            · simp only [findS] at h'
              cases h'
            · cases h'
          · split at h'
            · rename_i ok v hp
              exact pure ok v hp h'
            · cases h'
        · split at h'
          · rename_i ok v hp
            exact pure ok v hp h'
          · cases h'
      · rw [if_neg (by rw [hw]; exact Bool.false_ne_true)]
        refine evHead_sound hr rest _ _ h' ?_ hQ
        have := he'.put (dstOk_spec hd) (v := .tup []) (by simp [V.sc, scs])
        simpa [V.real, reals, undef] using this

/-- **THE EVALUATOR IS RIGHT.** -/
theorem ev_sound {Γ : List (Summ P)} (hN : NamesOK P) (hM : P.follows .mixedOrders = true) (n : Nat) : ∀ H, RecOK (R := R) P (ev P Γ n H) := by
  induction n using Nat.strongRecOn with
  | _ n all =>
  cases n with
  | zero => intro H nt c env σ K r h; simp [ev] at h
  | succ n =>
    intro H nt c env σ K r h B ρ a w hr he
    have ih := all n (Nat.lt_succ_self n) H
    have ih0 := all n (Nat.lt_succ_self n) []
    cases c with
    | skip => exact wp_skip ⟨.normal, trivial, env, σ, ρ, Nat.le_refl _, fun _ _ => rfl, hr, he, h⟩
    | label l => exact wp_label ⟨.normal, trivial, env, σ, ρ, Nat.le_refl _, fun _ _ => rfl, hr, he, h⟩
    | exit id => exact wp_exit ⟨.exit id, rfl, env, σ, ρ, Nat.le_refl _, fun _ _ => rfl, hr, he, h⟩
    | ret => exact wp_ret ⟨.ret, trivial, env, σ, ρ, Nat.le_refl _, fun _ _ => rfl, hr, he, h⟩
    | region id ops draw =>
      simp only [ev] at h
      cases draw with
      | false =>
        rw [cond_false] at h
        exact wp_region_list (evOps_sound hN (callWith_sound ih0) ops.toList env σ ρ a w h hr he (fun a' w' ha => ⟨.normal, trivial, ha⟩))
      | true =>
        rw [cond_true] at h
        cases hMk : hasMk P Γ ops.toList with
        | true =>
          rw [hMk, cond_true] at h
          exact evRegC_sound hN hM h hr he (fun a' w' ha => ⟨.normal, trivial, ha⟩)
        | false =>
        rw [hMk, cond_false] at h
        cases hE : hasEff ops.toList with
        | true =>
          rw [hE, cond_true] at h
          exact evRegE_sound hN hM h hr he (fun a' w' ha => ⟨.normal, trivial, ha⟩)
        | false =>
        rw [hE, cond_false] at h
        cases hT : (tailCall ops.toList && Region.lexTailB .any ops (ops.toList.length - 1)) with
        | true =>
          rw [hT, cond_true] at h
          simp only [Bool.and_eq_true] at hT
          have hr' : Rel B ρ σ { w with drawn := w.drawn + 1 } := hr.congr (fun _ _ => rfl) rfl rfl rfl rfl
          have := wp_region_still_tail (P := P) (id := id) (Q := PostE B nt ρ σ K r) (a := a) (w := w) (l := ops.toList) (ops.toList.length - 1) hM (by simpa using hT.2)
            (evHead_sound (ops := ops.toList.toArray) hr' (ops.toList.take (ops.toList.length - 1)) env a (by simpa [evTail] using h) he (fun env' a' he' hk =>
              evOps_sound hN (callWith_sound ih0) (ops := ops.toList.toArray) _ env' σ ρ a' _ (by simpa using hk) hr' he' (fun a'' w'' ha => ⟨.normal, trivial, ha⟩)))
          simpa using this
        | false =>
        rw [hT, cond_false] at h
        cases hB : Region.lexB .any ops with
        | false => rw [hB] at h; cases h
        | true =>
          rw [hB, cond_true] at h
          refine wp_region_quiet (C := fun w => Rel B ρ σ w) hM hB (hr.congr (fun _ _ => rfl) rfl rfl rfl rfl) ?_
          exact evQ_sound hN ops.toList env a h ⟨w, hr⟩ he (fun env' a' he' hk w' hw' => ⟨.normal, trivial, env', σ, ρ, Nat.le_refl _, fun _ _ => rfl, hw', he', hk⟩)
    | seq x y =>
      simp only [ev] at h
      refine wp_seq (wp_mono (ih _ _ _ _ _ _ h B ρ a w hr he) ?_)
      rintro e a' w' ⟨ex, hex, env', σ', ρ', h1, h2, h3, h4, h5⟩
      cases ex with
      | normal =>
        cases e <;> simp only [ExM] at hex
        refine wp_mono (ih _ _ _ _ _ _ h5 B ρ' a' w' h3 h4) ?_
        rintro e a'' w'' ⟨x', hx', hA⟩
        exact ⟨x', hx', hA.trans h1 h2⟩
      | exit i =>
        cases e <;> simp only [ExM] at hex
        exact ⟨.exit i, hex, env', σ', ρ', h1, h2, h3, h4, h5⟩
      | ret =>
        cases e <;> simp only [ExM] at hex
        exact ⟨.ret, trivial, env', σ', ρ', h1, h2, h3, h4, h5⟩
    | cond c x y =>
      simp only [ev] at h
      split at h
      · rename_i b hb
        obtain ⟨e1, _⟩ := opr_spec he hb
        refine wp_cond (t := b) (by rw [e1]; rfl) ?_
        cases b with
        | true => exact ih _ _ _ _ _ _ h B ρ a w hr he
        | false => exact ih _ _ _ _ _ _ h B ρ a w hr he
      · cases h
    | block id body =>
      simp only [ev] at h
      refine wp_block (wp_mono (ih _ _ _ _ _ _ h B ρ a w hr he) ?_)
      rintro e a' w' ⟨ex, hex, env', σ', ρ', h1, h2, h3, h4, h5⟩
      cases ex with
      | normal => cases e <;> simp only [ExM] at hex; exact ⟨.normal, trivial, env', σ', ρ', h1, h2, h3, h4, h5⟩
      | ret => cases e <;> simp only [ExM] at hex; exact ⟨.ret, trivial, env', σ', ρ', h1, h2, h3, h4, h5⟩
      | exit i =>
        cases e <;> simp only [ExM] at hex
        subst hex
        simp only at h5
        cases hi : Nat.beq i id with
        | true =>
          rw [hi, cond_true] at h5
          have := Nat.eq_of_beq_eq_true hi
          subst this
          simp only [Exit.inBlock, if_true]
          exact ⟨.normal, trivial, env', σ', ρ', h1, h2, h3, h4, h5⟩
        | false =>
          rw [hi, cond_false] at h5
          have : i ≠ id := fun hh => by subst hh; simp at hi
          simp only [Exit.inBlock, if_neg this]
          exact ⟨.exit i, rfl, env', σ', ρ', h1, h2, h3, h4, h5⟩
    | loop body => exact wp_loop_rounds (n + 1) (loop_rounds (n + 1) all env σ ρ a w h hr he (fun _ _ _ h => h))
    | scope body =>
      simp only [ev] at h
      refine wp_scope_straight (wp_mono (ih _ _ _ _ _ _ h B ρ a w hr he) ?_)
      rintro e a' w' ⟨ex, hex, hA⟩
      cases e <;> first | exact ⟨ex, hex, hA⟩ | (cases ex <;> simp only [ExM] at hex)
    | goto l => simp [ev] at h
    | rangeFunc f ps as b => simp [ev] at h
    | refuse why => simp [ev] at h

/-- a call, evaluated: what it comes to -/
theorem evCallH_sound {Γ : List (Summ P)} {H : List (Nat × V)} (hN : NamesOK P) (hM : P.follows .mixedOrders = true) {n : Nat} {k : FuncId} {args : List V} {σ : List Blk} {kk : V → List Blk → Option R} {r : R}
    (h : evCallH P Γ H n k args σ kk = some r) {B : Base} {ρ : Rho} {w : World} (hr : Rel B ρ σ w) (hs : scs σ.length args = true) :
    Calls P k (reals ρ args).toArray w fun e w' => ∃ v, e = .returned v ∧ After B ρ σ kk r v w' :=
  enter_sound (ev_sound hN hM n H) _ _ _ _ _ h B ρ w hr hs
/-- without values given -/
theorem evCall_of_hints {Γ : List (Summ P)} {n : Nat} {k : FuncId} {args : List V} {σ : List Blk} {kk : V → List Blk → Option R} : evCall P Γ n k args σ kk = evCallH P Γ [] n k args σ kk := rfl
theorem evCall_sound {Γ : List (Summ P)} (hN : NamesOK P) (hM : P.follows .mixedOrders = true) {n : Nat} {k : FuncId} {args : List V} {σ : List Blk} {kk : V → List Blk → Option R} {r : R}
    (h : evCall P Γ n k args σ kk = some r) {B : Base} {ρ : Rho} {w : World} (hr : Rel B ρ σ w) (hs : scs σ.length args = true) :
    Calls P k (reals ρ args).toArray w fun e w' => ∃ v, e = .returned v ∧ After B ρ σ kk r v w' :=
  evCallH_sound hN hM h hr hs
end
end Go.R

namespace Go.R
open Go Go.RowKit

section
variable {P : Program}

def noS : Nat → Prop := fun _ => False
theorem Rel.empty (ρ : Rho) (w : World) (S : Nat → Prop) : Rel ⟨w, S⟩ ρ [] w :=
  ⟨fun i b h => by simp at h, fun i b h => by simp at h, fun i j bi bj h => by simp at h, fun i b h => by simp at h, fun i b h => by simp at h, Keeps.refl _ _⟩

/-- what is listed stays, where nothing that was there is turned -/
theorem Rel.frame {B : Base} {ρ : Rho} {σ : List Blk} {w w' : World} (h : Rel B ρ σ w) (k : Keeps noS w w') : Rel B ρ σ w' := by
  refine ⟨fun i b hb => (h.at_ i b hb).congr (h.sc i b hb) (fun _ _ => rfl) rfl (fun hl => k.block _ (h.lt i b hb hl) (fun hf => hf)), fun i b hb hl => Nat.lt_of_lt_of_le (h.lt i b hb hl) k.size, h.inj, h.sc, h.wr, ?_⟩
  exact ⟨k.os.trans h.keeps.os, k.tape.trans h.keeps.tape, k.output.trans h.keeps.output, Nat.le_trans h.keeps.size k.size,
    fun i hi hs => (k.block i (Nat.lt_of_lt_of_le hi h.keeps.size) (fun hf => hf)).trans (h.keeps.block i hi hs)⟩

/-- an aggregate of whole numbers of 64 bits, as a function -/
def flat : V → V
  | .agg l => bif allI .i64 l then .aggi .i64 l.length (fun j => toI (l.getD j .nil)) else .agg l
  | v => v
theorem flat_real (ρ : Rho) (v : V) : (flat v).real ρ = v.real ρ := by
  cases v <;> try rfl
  rename_i l
  simp only [flat]
  cases h : allI .i64 l with
  | false => rfl
  | true =>
    simp only [cond_true, V.real]
    congr 2
    rw [reals_eq]
    refine List.ext_getElem? (fun j => ?_)
    by_cases hj : j < l.length
    · rw [List.getElem?_map, List.getElem?_map, allI_get h hj]; simp [hj, V.real]
    · rw [List.getElem?_eq_none (by simp; omega), List.getElem?_eq_none (by simp; omega)]
theorem flats_real (ρ : Rho) (l : List V) : reals ρ (l.map flat) = reals ρ l := by
  simp [reals_eq, flat_real]

theorem keep_pure (F : List V → Option (Bool × V)) : ∀ (args : List V) (σ : List Blk) (v : V) (σ' : List Blk), (match F (args.map flat) with | some (ok, v) => some (ok, v, σ) | none => (none : Option (Bool × V × List Blk))) = some (true, v, σ') → ∀ b, b < σ.length → ([] : List Nat).any (Nat.beq b) = false → σ'[b]? = σ[b]? := by
  intro args σ v σ' hf b _ _
  split at hf
  · simp only [Option.some.injEq, Prod.mk.injEq] at hf; obtain ⟨_, _, rfl⟩ := hf; rfl
  · cases hf
/-- a function of values alone -/
def mkPure (Γ : List (Summ P)) (hN : NamesOK P) (hM : P.follows .mixedOrders = true) (k : FuncId) (n : Nat) (F : List V → Option (Bool × V))
    (h : ∀ args v, F args = some (true, v) → scs 0 args = true ∧ v.sc 0 = true ∧ ∃ H, evCallH P Γ H n k args [] (fun v _ => some v) = some v) : Summ P where
  k := k
  pure := true
  f := fun args σ => match F (args.map flat) with | some (ok, v) => some (ok, v, σ) | none => none
  touch := fun _ => []
  keep := keep_pure F
  ok := by
    intro args σ v σ' hf hs
    cases hF : F (args.map flat) with
    | none => rw [hF] at hf; cases hf
    | some u =>
      obtain ⟨ok, u⟩ := u
      rw [hF] at hf
      simp only [Option.some.injEq, Prod.mk.injEq] at hf
      obtain ⟨rfl, rfl, rfl⟩ := hf
      obtain ⟨h1, h2, H, h3⟩ := h _ u hF
      refine ⟨Nat.le_refl _, V.sc_mono (Nat.zero_le _) _ h2, fun _ => rfl, fun B ρ w hr _ => ?_⟩
      rw [← flats_real]
      refine (evCallH_sound hN hM h3 (Rel.empty ρ w noS) (by simpa using h1)).mono ?_
      rintro e w' ⟨x, rfl, y, σ1, ρ1, rfl, _, _, hr1, hy, hk⟩
      simp only [Option.some.injEq] at hk
      subst hk
      exact ⟨ρ, fun _ _ => rfl, by rw [V.real_ext (n := 0) (ρ := ρ) (fun i hi => by omega) y h2], hr.frame hr1.keeps⟩

/-- a truth, out of a value -/
def asB (v : V) (_ : List Blk) : Option Bool :=
  match v with
  | .bool b => some b
  | _ => none
theorem asB_spec {v : V} {σ : List Blk} {b : Bool} (h : asB v σ = some b) : v = .bool b := by
  cases v <;> simp only [asB] at h <;> first | cases h | skip
  rfl
/-- a law: it answers true, and what was there stays -/
theorem law_true {Γ : List (Summ P)} {H : List (Nat × V)} (hN : NamesOK P) (hM : P.follows .mixedOrders = true) {n : Nat} {k : FuncId} {args : List V} {σ : List Blk}
    (h : evCallH P Γ H n k args σ asB = some true) {ρ : Rho} {w : World} (hr : Rel ⟨w, noS⟩ ρ σ w) (hs : scs σ.length args = true) :
    Calls P k (reals ρ args).toArray w fun e w' => e = .returned (.bool true) ∧ Below w.heap.size w w' := by
  refine (evCallH_sound hN hM h hr hs).mono ?_
  rintro e w' ⟨x, rfl, y, σ1, ρ1, rfl, _, _, hr1, hy, hk⟩
  have := asB_spec hk
  subst this
  exact ⟨rfl, hr1.keeps.os, hr1.keeps.tape, hr1.keeps.output, hr1.keeps.size, fun i hi => hr1.keeps.block i hi (fun hf => hf)⟩

def namesOK (P : Program) : Bool := P.funcs.toList.all fun fn => !(fn.name == "runtime.NumGoroutine")
theorem names_of {P : Program} (h : namesOK P = true) : NamesOK P := by
  intro k fn hf
  have := List.all_eq_true.1 h fn (by
    rw [← Array.getElem?_toList] at hf
    exact List.mem_of_getElem? hf)
  simpa using this
end
end Go.R

namespace Go.R
open Go Go.RowKit Go.ChangeShapes Go.WideShapes Go.ChangeAt

section
variable {P : Program} {H : Type} {enc : TypeId × Value → H}

/-- what the arguments read stays, where nothing that was there is turned -/
theorem trodAll_stays (hl : laidOutB P = true) {W W' : World} (hb : Below W.heap.size W W') : ∀ {ts : List TypeId} {vs : List Value} {ds : List (DataW H)} {ps : List MemPlace},
    ts.all (fun t => P.readableRec t && decide (t < P.types.size)) = true → DataW.TrodAll enc P W 0 (fun _ => true) true ts vs ds ps → DataW.TrodAll enc P W' 0 (fun b => decide (b < W.heap.size)) true ts vs ds ps
  | [], vs, ds, ps, _, h => by
    obtain ⟨rfl, rfl, rfl⟩ := trodAll_nil h
    exact trodAll_mk0
  | t :: ts, vs, ds, ps, ht, h => by
    have hlt := h.lt
    obtain ⟨v, vs', d, ds', p, q, rfl, rfl, rfl, h1, h2⟩ := trodAll_cons h
    simp only [List.all_cons, Bool.and_eq_true, decide_eq_true_eq] at ht
    refine trodAll_cons_mk (Below.trod hl ht.1.1 ht.1.2 h1 hb (fun x hx => hlt x (by simp [hx]))) (trodAll_stays hl hb ht.2 h2)

theorem trodAll_length {W : World} {base : Nat} {spare : Nat → Bool} {held : Bool} : ∀ {ts : List TypeId} {vs : List Value} {ds : List (DataW H)} {ps : List MemPlace}, DataW.TrodAll enc P W base spare held ts vs ds ps → ds.length = ts.length
  | [], _, _, _, h => by obtain ⟨_, rfl, _⟩ := trodAll_nil h; rfl
  | t :: ts, _, _, _, h => by
    obtain ⟨v, vs', d, ds', p', q', rfl, rfl, rfl, _, h2⟩ := trodAll_cons h
    simp [trodAll_length h2]

/-- a law's row: from its walk -/
theorem change_true {C : Checked} {os : Os} {f : FuncId} {fn : Func} {s : ChangeSpec} {tb : TypeId} (own : ownKnob C.prog.godebug = none) (started : os.Started) (noInit : C.prog.inits.idxOf? f = none) (hfn : C.prog.funcs[f]? = some fn)
    (witness : ∃ (w : World) (tape : Tape) (i : Input), w.os = os ∧ (w.forCall tape i).Shaped C.prog ∧ i.vars = [] ∧ Input.okWide C.prog (w.forCall tape i) .any w.heap.size f i ∧
      s.pre6 enc C.prog fn [] false (w.forCall tape i).memory i.args ∧ ({} : Assume).holds C.prog (lone (Frame.enter C.prog f i.args .normal) [] (w.forCall tape i)))
    (hres : fn.resultTypes = #[tb]) (hb : C.prog.underlying tb = some .bool) (hv : s.vars = []) (hlaid : laidOutB C.prog = true)
    (hread : fn.params.toList.all (fun t => C.prog.readableRec t && decide (t < C.prog.types.size)) = true)
    (hspec : ∀ ds : List (DataW H), ds.length = fn.params.toList.length → s.fn H (ds ++ []) = { results := [.lit (.bool true)], args := ds })
    (walk : ∀ (W : World) (base : Nat) (args : Array Value) (ds : List (DataW H)) (ps : List MemPlace), (∀ (j : Nat) t v, fn.params[j]? = some t → args[j]? = some v → Value.okWide C.prog W .any base t v) →
      DataW.TrodAll enc C.prog W 0 (fun _ => true) true fn.params.toList args.toList ds ps → (DataW.weightsEach C.prog (fn.params.toList ++ s.plain.varTypes C.prog) (ds ++ [])).all (· ≤ reachBytes) = true →
      Calls C.prog f args W fun e W' => e = .returned (.bool true) ∧ Below W.heap.size W W') :
    ReturnsInHanded {} C os f .any (s.pre6 enc C.prog fn [] false) (s.post enc C.prog fn false true false false) := by
  refine returnsInHanded_of_change_sized (C := C) own started noInit hfn witness ?_
  intro W base args ds gs before hval hW _ hsz _
  have hW' := hW
  obtain ⟨p, q, hA, hV, rfl, _, _⟩ := hW
  rw [hv] at hV
  obtain ⟨rfl, rfl⟩ := trodVars_none hV
  refine (walk W base args ds p hval hA hsz).mono fun e W' ⟨he, bel⟩ => ?_
  subst he
  have hlen : ds.length = fn.params.toList.length := trodAll_length hA
  have hs := hspec ds hlen
  refine ⟨_, rfl, ds, [], p ++ [], [], p, [], hW', ?_, ?_, ?_, bel.frame _, fun h => by cases h⟩
  · rw [hs, hres]; exact trodAll_mk1 (shut_bool hb true)
  · rw [hs]; exact trodAll_stays hlaid bel hread hA
  · rw [hs, hv]; rfl

/-! ### the arguments' shapes -/
theorem okWide_i {W : World} {base : Nat} {t : TypeId} {k : IntKind} {v : Value} (ht : P.underlying t = some (.int k)) (h : Value.okWide P W .any base t v) : ∃ n, v = .int k n ∧ k.has n := by
  unfold Value.okWide at h
  rw [ht] at h
  simp only [Cell.okWide, ht, Cell.ok] at h
  cases v <;> simp_all
theorem okWide_b {W : World} {base : Nat} {t : TypeId} {v : Value} (ht : P.underlying t = some .bool) (h : Value.okWide P W .any base t v) : ∃ b, v = .bool b := by
  unfold Value.okWide at h
  rw [ht] at h
  simp only [Cell.okWide, ht, Cell.ok] at h
  cases v <;> simp_all
/-- an aggregate of whole numbers of one kind, n cells -/
def flatInts (P : Program) (k : IntKind) (n : Nat) (t : TypeId) : Bool :=
  (match P.underlying t with | some (.struct _) | some (.array _ _) => true | _ => false) && Nat.beq (P.cellsOf t) n &&
  match P.cellTypes P.depth t with
  | some ts => Nat.beq ts.length n && Nat.ble 1 n && ts.all fun u => match P.underlying u with | some (.int k') => decide (k' = k) | _ => false
  | none => false
theorem okWide_flat {W : World} {base : Nat} {t : TypeId} {k : IntKind} {n : Nat} {v : Value} (ht : flatInts P k n t = true) (h : Value.okWide P W .any base t v) :
    ∃ f : Nat → Int, (∀ ρ, v = (V.aggi k n f).real ρ) ∧ ∀ i, i < n → k.has (f i) := by
  simp only [flatInts, Bool.and_eq_true] at ht
  obtain ⟨⟨h1, h2⟩, h3⟩ := ht
  have hsz := Nat.eq_of_beq_eq_true h2
  have key : ∃ cs, v = .agg cs ∧ cs.size = P.cellsOf t ∧ Row.okWide P W .any base t cs := by
    unfold Value.okWide at h
    split at h
    · exact h
    · exact h
    · rename_i hx hy
      exfalso
      split at h1
      · rename_i hd; exact hx _ hd
      · rename_i hd; exact hy _ _ hd
      · cases h1
  obtain ⟨cs, rfl, hcs, ts, hts, _, hall⟩ := key
  rw [hts] at h3
  simp only [Bool.and_eq_true] at h3
  have hl := Nat.eq_of_beq_eq_true h3.1.1
  have hcell : ∀ i, i < n → ∃ m, cs[i]? = some (.int k m) ∧ k.has m := by
    intro i hi
    have hi' : i < cs.size := by omega
    obtain ⟨u, hu, hok⟩ := hall i cs[i] (Array.getElem?_eq_getElem hi')
    have := List.all_eq_true.1 h3.2 u (List.mem_of_getElem? hu)
    split at this
    · rename_i k' hk'
      have := of_decide_eq_true this
      subst this
      rw [Array.getElem?_eq_getElem hi']
      simp only [Cell.okWide, hk', Cell.ok] at hok
      generalize cs[i] = c at *
      cases c <;> simp_all
    · cases this
  refine ⟨fun i => match cs[i]? with | some (.int _ m) => m | _ => 0, fun ρ => ?_, fun i hi => ?_⟩
  · simp only [V.real]
    congr 1
    apply Array.ext'
    refine List.ext_getElem? (fun i => ?_)
    by_cases hi : i < n
    · obtain ⟨m, hm, _⟩ := hcell i hi
      simp [hm, hi]
    · rw [List.getElem?_eq_none (by simp; omega), List.getElem?_eq_none (by simp; omega)]
  · obtain ⟨m, hm, hh⟩ := hcell i hi
    simp only [hm]
    exact hh
end
end Go.R

namespace Go.R
open Go

/-! ### whole numbers of 64 bits -/
theorem wrap_eq0 (n : Int) : IntKind.i64.wrap n = (n + 9223372036854775808) % 18446744073709551616 - 9223372036854775808 := by
  have h : IntKind.i64.wrap n = if decide (n % 18446744073709551616 ≥ 9223372036854775808) = true then n % 18446744073709551616 - 18446744073709551616 else n % 18446744073709551616 := rfl
  rw [h]
  split <;> rename_i hd <;> simp only [decide_eq_true_eq] at hd <;> omega
theorem wrap_eq (n : Int) : wr .i64 n = (n + 9223372036854775808) % 18446744073709551616 - 9223372036854775808 := by rw [wr_eq, wrap_eq0]
theorem wrap_id {n : Int} (h1 : -9223372036854775808 ≤ n) (h2 : n < 9223372036854775808) : wr .i64 n = n := by
  rw [wrap_eq]; omega
theorem has64 {n : Int} (h : IntKind.i64.has n) : -9223372036854775808 ≤ n ∧ n ≤ 9223372036854775807 := by
  simpa [IntKind.has, IntKind.min, IntKind.max, IntKind.signed, IntKind.bits] using h

def u64 (n : Int) : Nat := (n % 18446744073709551616).toNat
theorem u64_lt (n : Int) : u64 n < 18446744073709551616 := by unfold u64; omega
theorem ofInt_u64 (n : Int) : (BitVec.ofInt 64 n).toNat = u64 n := by
  simp [u64, BitVec.toNat_ofInt]
theorem bitI_and (x y : Int) : bitI .and .i64 x y = wr .i64 ((u64 x &&& u64 y : Nat) : Int) := by
  rw [bitI_eq, wr_eq]
  show IntKind.i64.wrap (((BitVec.ofInt 64 x &&& BitVec.ofInt 64 y).toNat : Nat) : Int) = _
  rw [BitVec.toNat_and, ofInt_u64, ofInt_u64]
theorem bitI_or (x y : Int) : bitI .or .i64 x y = wr .i64 ((u64 x ||| u64 y : Nat) : Int) := by
  rw [bitI_eq, wr_eq]
  show IntKind.i64.wrap (((BitVec.ofInt 64 x ||| BitVec.ofInt 64 y).toNat : Nat) : Int) = _
  rw [BitVec.toNat_or, ofInt_u64, ofInt_u64]
theorem bitI_xor (x y : Int) : bitI .xor .i64 x y = wr .i64 ((u64 x ^^^ u64 y : Nat) : Int) := by
  rw [bitI_eq, wr_eq]
  show IntKind.i64.wrap (((BitVec.ofInt 64 x ^^^ BitVec.ofInt 64 y).toNat : Nat) : Int) = _
  rw [BitVec.toNat_xor, ofInt_u64, ofInt_u64]
theorem and_not_nat (x y : BitVec 64) : (x &&& ~~~y).toNat = x.toNat ^^^ (x.toNat &&& y.toNat) := by
  rw [← BitVec.toNat_and, ← BitVec.toNat_xor]
  congr 1
  ext i hi
  simp
  cases x[i] <;> cases y[i] <;> rfl
theorem bitI_andNot (x y : Int) : bitI .andNot .i64 x y = wr .i64 ((u64 x ^^^ (u64 x &&& u64 y) : Nat) : Int) := by
  rw [bitI_eq, wr_eq]
  show IntKind.i64.wrap (((BitVec.ofInt 64 x &&& ~~~(BitVec.ofInt 64 y)).toNat : Nat) : Int) = _
  rw [and_not_nat, ofInt_u64, ofInt_u64]

/-- a mask of the lowest bits -/
theorem and_mask (k : Nat) (hk : k ≤ 62) (n m : Int) (hm : m = 2 ^ k - 1) : bitI .and .i64 n m = n % 2 ^ k := by
  subst hm
  rw [bitI_and]
  have hp : (2 : Nat) ^ k ≤ 2 ^ 62 := Nat.pow_le_pow_right (by decide) hk
  have hpos : 0 < (2 : Nat) ^ k := Nat.pow_pos (by decide)
  have h1 : u64 (2 ^ k - 1) = 2 ^ k - 1 := by
    unfold u64
    have : ((2 : Int) ^ k - 1) = ((2 ^ k - 1 : Nat) : Int) := by
      rw [Int.ofNat_sub hpos]; simp
    rw [this]
    omega
  rw [h1, Nat.and_two_pow_sub_one_eq_mod]
  have h2 : ((u64 n % 2 ^ k : Nat) : Int) = n % 2 ^ k := by
    unfold u64
    have hd : ((2 ^ k : Nat) : Int) ∣ 18446744073709551616 := by
      refine ⟨((2 ^ (64 - k) : Nat) : Int), ?_⟩
      rw [← Int.natCast_mul, ← Nat.pow_add, show k + (64 - k) = 64 by omega]
      rfl
    rw [Int.natCast_emod, Int.toNat_of_nonneg (by omega)]
    rw [show ((2 : Int) ^ k) = ((2 ^ k : Nat) : Int) by simp]
    exact Int.emod_emod_of_dvd n hd
  rw [h2]
  have h3 : (0 : Int) ≤ n % 2 ^ k := by rw [← h2]; omega
  have h4 : n % 2 ^ k < 2 ^ 62 := by
    rw [← h2]
    have := Nat.mod_lt (u64 n) hpos
    omega
  exact wrap_id (by omega) (by omega)

theorem and_two_pow (n k : Nat) : n &&& 2 ^ k = 2 ^ k * (n / 2 ^ k % 2) := by
  apply Nat.eq_of_testBit_eq
  intro i
  rw [Nat.testBit_and, Nat.testBit_two_pow]
  have h2 : n / 2 ^ k % 2 = 0 ∨ n / 2 ^ k % 2 = 1 := by omega
  have h3 : n.testBit k = decide (n / 2 ^ k % 2 = 1) := Nat.testBit_eq_decide_div_mod_eq
  by_cases hik : k = i
  · subst hik
    rcases h2 with h2 | h2 <;> simp [h2, h3]
  · rcases h2 with h2 | h2 <;> simp [h2, hik, Nat.testBit_two_pow]
/-- one bit -/
theorem and_bit (k : Nat) (p : Int) (hp : p = ((2 ^ k : Nat) : Int)) (n : Int) (hk : k ≤ 62) (h : ((u64 n / 2 ^ k % 2 : Nat) : Int) = n / p % 2) : bitI .and .i64 n p = p * (n / p % 2) := by
  subst hp
  have hpp : (2 : Nat) ^ k ≤ 2 ^ 62 := Nat.pow_le_pow_right (by decide) hk
  rw [bitI_and]
  have h1 : u64 ((2 ^ k : Nat) : Int) = 2 ^ k := by
    unfold u64
    generalize (2 : Nat) ^ k = q at hpp
    omega
  rw [h1, and_two_pow, ← h, Int.natCast_mul]
  generalize (2 : Nat) ^ k = q at hpp
  have h2 : u64 n / q % 2 = 0 ∨ u64 n / q % 2 = 1 := by omega
  rcases h2 with h2 | h2 <;> rw [h2]
  · rw [wrap_id] <;> omega
  · rw [wrap_id] <;> omega
theorem and_0b (n : Int) : bitI .and .i64 n 1 = n % 2 := by
  have := and_bit 0 1 (by decide) n (by omega) (by unfold u64; omega)
  omega
theorem and_1b (n : Int) : bitI .and .i64 n 2 = 2 * (n / 2 % 2) := and_bit 1 2 (by decide) n (by omega) (by unfold u64; omega)
theorem and_2b (n : Int) : bitI .and .i64 n 4 = 4 * (n / 4 % 2) := and_bit 2 4 (by decide) n (by omega) (by unfold u64; omega)
theorem and_3b (n : Int) : bitI .and .i64 n 8 = 8 * (n / 8 % 2) := and_bit 3 8 (by decide) n (by omega) (by unfold u64; omega)
theorem and_4b (n : Int) : bitI .and .i64 n 16 = 16 * (n / 16 % 2) := and_bit 4 16 (by decide) n (by omega) (by unfold u64; omega)
theorem and_5b (n : Int) : bitI .and .i64 n 32 = 32 * (n / 32 % 2) := and_bit 5 32 (by decide) n (by omega) (by unfold u64; omega)
theorem and_6b (n : Int) : bitI .and .i64 n 64 = 64 * (n / 64 % 2) := and_bit 6 64 (by decide) n (by omega) (by unfold u64; omega)
theorem and_7b (n : Int) : bitI .and .i64 n 128 = 128 * (n / 128 % 2) := and_bit 7 128 (by decide) n (by omega) (by unfold u64; omega)
theorem and_m2 (n : Int) : bitI .and .i64 n 3 = n % 4 := and_mask 2 (by decide) n 3 rfl
theorem and_m3 (n : Int) : bitI .and .i64 n 7 = n % 8 := and_mask 3 (by decide) n 7 rfl
theorem and_m4 (n : Int) : bitI .and .i64 n 15 = n % 16 := and_mask 4 (by decide) n 15 rfl
theorem and_m5 (n : Int) : bitI .and .i64 n 31 = n % 32 := and_mask 5 (by decide) n 31 rfl
theorem and_m6 (n : Int) : bitI .and .i64 n 63 = n % 64 := and_mask 6 (by decide) n 63 rfl
theorem and_m7 (n : Int) : bitI .and .i64 n 127 = n % 128 := and_mask 7 (by decide) n 127 rfl
theorem and_m8 (n : Int) : bitI .and .i64 n 255 = n % 256 := and_mask 8 (by decide) n 255 rfl
theorem and_m10 (n : Int) : bitI .and .i64 n 1023 = n % 1024 := and_mask 10 (by decide) n 1023 rfl
theorem and_m12 (n : Int) : bitI .and .i64 n 4095 = n % 4096 := and_mask 12 (by decide) n 4095 rfl
theorem and_m13 (n : Int) : bitI .and .i64 n 8191 = n % 8192 := and_mask 13 (by decide) n 8191 rfl
theorem and_m14 (n : Int) : bitI .and .i64 n 16383 = n % 16384 := and_mask 14 (by decide) n 16383 rfl
theorem and_m15 (n : Int) : bitI .and .i64 n 32767 = n % 32768 := and_mask 15 (by decide) n 32767 rfl
theorem and_m16 (n : Int) : bitI .and .i64 n 65535 = n % 65536 := and_mask 16 (by decide) n 65535 rfl
theorem and_m17 (n : Int) : bitI .and .i64 n 131071 = n % 131072 := and_mask 17 (by decide) n 131071 rfl
theorem and_m18 (n : Int) : bitI .and .i64 n 262143 = n % 262144 := and_mask 18 (by decide) n 262143 rfl
theorem and_m20 (n : Int) : bitI .and .i64 n 1048575 = n % 1048576 := and_mask 20 (by decide) n 1048575 rfl
theorem and_m61 (n : Int) : bitI .and .i64 n 2305843009213693951 = n % 2305843009213693952 := and_mask 61 (by decide) n 2305843009213693951 rfl

/-- small numbers: the bits of the naturals -/
theorem u64_of {n : Int} (h0 : 0 ≤ n) (h1 : n < 9223372036854775808) : u64 n = n.toNat := by unfold u64; omega
theorem nat_or_lt {a b k : Nat} (ha : a < 2 ^ k) (hb : b < 2 ^ k) : a ||| b < 2 ^ k := Nat.or_lt_two_pow ha hb
theorem or_nat {x y : Int} (hx : 0 ≤ x) (hx' : x < 9223372036854775808) (hy : 0 ≤ y) (hy' : y < 9223372036854775808) : bitI .or .i64 x y = ((x.toNat ||| y.toNat : Nat) : Int) := by
  rw [bitI_or, u64_of hx hx', u64_of hy hy']
  have : x.toNat ||| y.toNat < 2 ^ 63 := Nat.or_lt_two_pow (by omega) (by omega)
  exact wrap_id (by omega) (by omega)
theorem and_nat {x y : Int} (hx : 0 ≤ x) (hx' : x < 9223372036854775808) (hy : 0 ≤ y) (hy' : y < 9223372036854775808) : bitI .and .i64 x y = ((x.toNat &&& y.toNat : Nat) : Int) := by
  rw [bitI_and, u64_of hx hx', u64_of hy hy']
  have : x.toNat &&& y.toNat < 2 ^ 63 := Nat.and_lt_two_pow _ (by omega)
  exact wrap_id (by omega) (by omega)
theorem xor_nat {x y : Int} (hx : 0 ≤ x) (hx' : x < 9223372036854775808) (hy : 0 ≤ y) (hy' : y < 9223372036854775808) : bitI .xor .i64 x y = ((x.toNat ^^^ y.toNat : Nat) : Int) := by
  rw [bitI_xor, u64_of hx hx', u64_of hy hy']
  have : x.toNat ^^^ y.toNat < 2 ^ 63 := Nat.xor_lt_two_pow (by omega) (by omega)
  exact wrap_id (by omega) (by omega)
theorem andNot_nat {x y : Int} (hx : 0 ≤ x) (hx' : x < 9223372036854775808) (hy : 0 ≤ y) (hy' : y < 9223372036854775808) : bitI .andNot .i64 x y = ((x.toNat ^^^ (x.toNat &&& y.toNat) : Nat) : Int) := by
  rw [bitI_andNot, u64_of hx hx', u64_of hy hy']
  have h1 : x.toNat &&& y.toNat < 2 ^ 63 := Nat.and_lt_two_pow _ (by omega)
  have : x.toNat ^^^ (x.toNat &&& y.toNat) < 2 ^ 63 := Nat.xor_lt_two_pow (by omega) h1
  exact wrap_id (by omega) (by omega)
/-! ### modulo a power of two -/
theorem wrap_emod (n : Int) {m : Int} (hm : m ∣ 18446744073709551616) : wr .i64 n % m = n % m := by
  rw [wrap_eq]
  generalize hq : (n + 9223372036854775808) / 18446744073709551616 = q
  have h1 : (n + 9223372036854775808) % 18446744073709551616 - 9223372036854775808 = n - 18446744073709551616 * q := by omega
  rw [h1, Int.sub_emod, Int.emod_eq_zero_of_dvd (Int.dvd_trans hm (Int.dvd_mul_right _ _))]
  simp
theorem u64_emod (n : Int) {m : Int} (hm : m ∣ 18446744073709551616) : (u64 n : Int) % m = n % m := by
  unfold u64
  rw [Int.toNat_of_nonneg (by omega)]
  exact Int.emod_emod_of_dvd n hm
theorem pow_dvd64 {k : Nat} (hk : k ≤ 64) : ((2 ^ k : Nat) : Int) ∣ 18446744073709551616 := by
  refine ⟨((2 ^ (64 - k) : Nat) : Int), ?_⟩
  rw [← Int.natCast_mul, ← Nat.pow_add, show k + (64 - k) = 64 by omega]
  rfl
theorem u64_nmod (n : Int) {k : Nat} (hk : k ≤ 64) : u64 n % 2 ^ k = (n % ((2 ^ k : Nat) : Int)).toNat := by
  have := u64_emod n (pow_dvd64 hk)
  omega
theorem and_mod {k : Nat} (hk : k ≤ 64) (x y : Int) : bitI .and .i64 x y % ((2 ^ k : Nat) : Int) = (((x % ((2 ^ k : Nat) : Int)).toNat &&& (y % ((2 ^ k : Nat) : Int)).toNat : Nat) : Int) := by
  rw [bitI_and, wrap_emod _ (pow_dvd64 hk), ← Int.natCast_emod, Nat.and_mod_two_pow, u64_nmod x hk, u64_nmod y hk]
theorem or_mod {k : Nat} (hk : k ≤ 64) (x y : Int) : bitI .or .i64 x y % ((2 ^ k : Nat) : Int) = (((x % ((2 ^ k : Nat) : Int)).toNat ||| (y % ((2 ^ k : Nat) : Int)).toNat : Nat) : Int) := by
  rw [bitI_or, wrap_emod _ (pow_dvd64 hk), ← Int.natCast_emod, Nat.or_mod_two_pow, u64_nmod x hk, u64_nmod y hk]
theorem xor_mod {k : Nat} (hk : k ≤ 64) (x y : Int) : bitI .xor .i64 x y % ((2 ^ k : Nat) : Int) = (((x % ((2 ^ k : Nat) : Int)).toNat ^^^ (y % ((2 ^ k : Nat) : Int)).toNat : Nat) : Int) := by
  rw [bitI_xor, wrap_emod _ (pow_dvd64 hk), ← Int.natCast_emod, Nat.xor_mod_two_pow, u64_nmod x hk, u64_nmod y hk]
theorem andNot_mod {k : Nat} (hk : k ≤ 64) (x y : Int) : bitI .andNot .i64 x y % ((2 ^ k : Nat) : Int) = (((x % ((2 ^ k : Nat) : Int)).toNat ^^^ ((x % ((2 ^ k : Nat) : Int)).toNat &&& (y % ((2 ^ k : Nat) : Int)).toNat) : Nat) : Int) := by
  rw [bitI_andNot, wrap_emod _ (pow_dvd64 hk), ← Int.natCast_emod, Nat.xor_mod_two_pow, Nat.and_mod_two_pow, u64_nmod x hk, u64_nmod y hk]

/-- is the bit set that counts d? -/
def bt (d n : Int) : Bool := decide (n / d % 2 = 1)
theorem bt_eq (d n c : Int) (hd : 0 < d) (h : bitI .and .i64 n c = d * (n / d % 2)) : (bitI .and .i64 n c == 0) = !(bt d n) ∧ (bitI .and .i64 n c != 0) = bt d n := by
  rw [h]
  unfold bt
  have h2 : n / d % 2 = 0 ∨ n / d % 2 = 1 := by omega
  rcases h2 with h2 | h2 <;> rw [h2]
  · simp
  · have : d ≠ 0 := by omega
    simp [this]
theorem bt1 (n : Int) : (bitI .and .i64 n 1 == 0) = !(bt 1 n) ∧ (bitI .and .i64 n 1 != 0) = bt 1 n := bt_eq 1 n 1 (by omega) (by rw [and_0b]; omega)
theorem bt2 (n : Int) : (bitI .and .i64 n 2 == 0) = !(bt 2 n) ∧ (bitI .and .i64 n 2 != 0) = bt 2 n := bt_eq 2 n 2 (by omega) (and_1b n)
theorem bt4 (n : Int) : (bitI .and .i64 n 4 == 0) = !(bt 4 n) ∧ (bitI .and .i64 n 4 != 0) = bt 4 n := bt_eq 4 n 4 (by omega) (and_2b n)
theorem bt8 (n : Int) : (bitI .and .i64 n 8 == 0) = !(bt 8 n) ∧ (bitI .and .i64 n 8 != 0) = bt 8 n := bt_eq 8 n 8 (by omega) (and_3b n)
theorem bt64 (n : Int) : (bitI .and .i64 n 64 == 0) = !(bt 64 n) ∧ (bitI .and .i64 n 64 != 0) = bt 64 n := bt_eq 64 n 64 (by omega) (and_6b n)
theorem bt128 (n : Int) : (bitI .and .i64 n 128 == 0) = !(bt 128 n) ∧ (bitI .and .i64 n 128 != 0) = bt 128 n := bt_eq 128 n 128 (by omega) (and_7b n)
theorem fdiv_pos (n : Int) {d : Int} (hd : 0 ≤ d) : n.fdiv d = n / d := Int.fdiv_eq_ediv_of_nonneg n hd
/-! ### a law's tree, by cases -/
theorem cdec {α : Type} (p : Prop) [Decidable p] (a b : α) : cond (decide p) a b = if p then a else b := by by_cases h : p <;> simp [h]
theorem ceq {α : Type} (x y : Int) (a b : α) : cond (x == y) a b = if x = y then a else b := by
  by_cases h : x = y
  · subst h; simp
  · rw [beq_eq_false_iff_ne.2 h, if_neg h, cond_false]
theorem cne {α : Type} (x y : Int) (a b : α) : cond (x != y) a b = if x = y then b else a := by
  by_cases h : x = y
  · subst h; simp
  · rw [bne_iff_ne.2 h, if_neg h, cond_true]
theorem tmod_pos {n : Int} (h : 0 ≤ n) (m : Int) : n.tmod m = n % m := Int.tmod_eq_emod_of_nonneg h
theorem tdiv_pos {n : Int} (h : 0 ≤ n) (m : Int) : n.tdiv m = n / m := Int.tdiv_eq_ediv_of_nonneg h
end Go.R

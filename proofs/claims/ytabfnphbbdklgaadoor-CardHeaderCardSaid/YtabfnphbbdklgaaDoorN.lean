/-
  Loops of an open number of turns: so many turns, and the one that leaves ('loop_unit'), and a call with a loop in its body ('loop_call').
-/
import Derived.Test.YtabfnphbbdklgaaDoorR
set_option linter.unusedVariables false
set_option linter.unusedSimpArgs false
namespace Go.R
open Go Go.RowKit

/-! ### loops of an open number of turns -/
section
variable {R : Type} {P : Program}

def exV : Ex → V
  | .normal => .int .i64 (-1)
  | .ret => .int .i64 (-2)
  | .exit i => .int .i64 i
/-- what some slots hold, and how the code ended -/
def Kl (live : List Nat) : Ex → Env → List Blk → Option (V × List Blk) := fun e env σ => some (.tup (exV e :: live.map env.get), σ)
def Kt (live : List Nat) : Env → List Blk → Option (V × List Blk) := fun env σ => some (.tup (live.map env.get), σ)
def zipE : List Nat → List V → Env → Env
  | t :: ts, v :: vs, r => (t, v) :: zipE ts vs r
  | _, _, r => r
theorem zipE_get : ∀ (live : List Nat) (vs : List V) (env : Env), live.map env.get = vs → ∀ t, (zipE live vs env).get t = env.get t
  | [], vs, env, h, t => by subst h; rfl
  | s :: ts, [], env, h, t => by simp at h
  | s :: ts, v :: vs, env, h, t => by
    simp only [List.map_cons, List.cons.injEq] at h
    simp only [zipE, Env.get]
    cases hb : Nat.beq s t with
    | true => have := Nat.eq_of_beq_eq_true hb; subst this; exact h.1.symm
    | false => exact zipE_get ts vs env h.2 t
theorem EnvOK.of_get {ρ : Rho} {n nt : Nat} {env env' : Env} {a : Act} (h : EnvOK ρ n nt env a) (hg : ∀ t, env'.get t = env.get t) : EnvOK ρ n nt env' a :=
  ⟨h.size, fun t => by rw [hg]; exact h.val t, fun t => by rw [hg]; exact h.sc t, h.def_⟩

/-- the frame holds these values in these slots, and this is the memory -/
def St (B : Base) (ρ0 : Rho) (n0 nt : Nat) (live : List Nat) (vs : List V) (σ : List Blk) (a : Act) (w : World) : Prop :=
  ∃ ρ env, (∀ i, i < n0 → ρ i = ρ0 i) ∧ n0 ≤ σ.length ∧ Rel B ρ σ w ∧ EnvOK ρ σ.length nt env a ∧ live.map env.get = vs

theorem exV_inj {x : Ex} {y : Ex} (h : exV x = exV y) : x = y := by
  cases x <;> cases y <;> simp only [exV, V.int.injEq, true_and] at h <;> first | rfl | (exfalso; omega) | (congr 1; omega)

variable {Γ : List (Summ P)} {H : List (Nat × V)} {n nt : Nat} {B : Base} {ρ0 : Rho} {n0 : Nat} {live live' : List Nat} {vs vs' : List V} {σ σ' : List Blk}

theorem chunk (hN : NamesOK P) (hM : P.follows .mixedOrders = true) {code : Code} {x : Ex} (h : ∀ rest, ev P Γ n H nt code (zipE live vs rest) σ (Kl live') = some (.tup (exV x :: vs'), σ')) {a : Act} {w : World} (hs : St B ρ0 n0 nt live vs σ a w) :
    code.wp P (fun e a' w' => ExM x e ∧ St B ρ0 n0 nt live' vs' σ' a' w') a w := by
  obtain ⟨ρ, env, h1, h2, h3, h4, h5⟩ := hs
  have he := h4.of_get (zipE_get live vs env h5)
  refine wp_mono (ev_sound hN hM n H nt code _ σ _ _ (h env) B ρ a w h3 he) ?_
  rintro e a' w' ⟨y, hy, env', σ2, ρ', g1, g2, g3, g4, g5⟩
  simp only [Kl, Option.some.injEq, Prod.mk.injEq, V.tup.injEq, List.cons.injEq] at g5
  obtain ⟨⟨g6, g7⟩, rfl⟩ := g5
  have := exV_inj g6
  subst this
  exact ⟨hy, ρ', env', fun i hi => by rw [g2 i (Nat.lt_of_lt_of_le hi h2), h1 i hi], Nat.le_trans h2 g1, g3, g4, g7⟩

/-- so many turns, and the one that leaves -/
theorem loop_unit (hN : NamesOK P) (hM : P.follows .mixedOrders = true) {id : Nat} {body : Code} (N : Nat) (vs : Nat → List V) (σs : Nat → List Blk)
    (step : ∀ j, j < N → ∀ rest, ev P Γ n H nt body (zipE live (vs j) rest) (σs j) (Kl live) = some (.tup (exV .normal :: vs (j + 1)), σs (j + 1)))
    (last : ∀ rest, ev P Γ n H nt body (zipE live (vs N) rest) (σs N) (Kl live) = some (.tup (exV (.exit id) :: vs'), σ')) {a : Act} {w : World} (hs : St B ρ0 n0 nt live (vs 0) (σs 0) a w) :
    (Code.block id (.loop body)).wp P (fun e a' w' => e = .normal ∧ St B ρ0 n0 nt live vs' σ' a' w') a w := by
  refine wp_block (wp_loop_rounds (N + 1) ?_)
  have key : ∀ (d j : Nat), j + d = N → ∀ a w, St B ρ0 n0 nt live (vs j) (σs j) a w → Code.rounds P body (Exit.inBlock id fun e a' w' => e = .normal ∧ St B ρ0 n0 nt live vs' σ' a' w') (d + 1) a w := by
    intro d
    induction d with
    | zero =>
      intro j hj a w hs
      have : j = N := by omega
      subst this
      rw [rounds_succ]
      refine wp_mono (chunk hN hM last hs) ?_
      rintro e a' w' ⟨he, hs'⟩
      cases e <;> simp only [ExM] at he
      subst he
      simp only [Exit.then, Exit.inBlock, if_true]
      exact ⟨by first | rfl | trivial, hs'⟩
    | succ d ih =>
      intro j hj a w hs
      rw [rounds_succ]
      refine wp_mono (chunk hN hM (step j (by omega)) hs) ?_
      rintro e a' w' ⟨he, hs'⟩
      cases e <;> simp only [ExM] at he
      exact ih (j + 1) (by omega) a' w' hs'
  exact key N 0 (by omega) a w hs

/-- so many turns, and the one that returns -/
theorem loop_unit_ret (hN : NamesOK P) (hM : P.follows .mixedOrders = true) {id : Nat} {body : Code} (N : Nat) (vs : Nat → List V) (σs : Nat → List Blk)
    (step : ∀ j, j < N → ∀ rest, ev P Γ n H nt body (zipE live (vs j) rest) (σs j) (Kl live) = some (.tup (exV .normal :: vs (j + 1)), σs (j + 1)))
    (last : ∀ rest, ev P Γ n H nt body (zipE live (vs N) rest) (σs N) (Kl live) = some (.tup (exV .ret :: vs'), σ')) {a : Act} {w : World} (hs : St B ρ0 n0 nt live (vs 0) (σs 0) a w) :
    (Code.block id (.loop body)).wp P (fun e a' w' => e = .ret ∧ St B ρ0 n0 nt live vs' σ' a' w') a w := by
  refine wp_block (wp_loop_rounds (N + 1) ?_)
  have key : ∀ (d j : Nat), j + d = N → ∀ a w, St B ρ0 n0 nt live (vs j) (σs j) a w → Code.rounds P body (Exit.inBlock id fun e a' w' => e = .ret ∧ St B ρ0 n0 nt live vs' σ' a' w') (d + 1) a w := by
    intro d
    induction d with
    | zero =>
      intro j hj a w hs
      have : j = N := by omega
      subst this
      rw [rounds_succ]
      refine wp_mono (chunk hN hM last hs) ?_
      rintro e a' w' ⟨he, hs'⟩
      cases e <;> simp only [ExM] at he
      simp only [Exit.then, Exit.inBlock]
      exact ⟨by first | rfl | trivial, hs'⟩
    | succ d ih =>
      intro j hj a w hs
      rw [rounds_succ]
      refine wp_mono (chunk hN hM (step j (by omega)) hs) ?_
      rintro e a' w' ⟨he, hs'⟩
      cases e <;> simp only [ExM] at he
      exact ih (j + 1) (by omega) a' w' hs'
  exact key N 0 (by omega) a w hs

/-! #### a place in the code -/
def sub : List Nat → Code → Code
  | [], c => c
  | 0 :: p, .seq a _ => sub p a
  | _ :: p, .seq _ b => sub p b
  | _ :: p, .block _ b => sub p b
  | _ :: p, .loop b => sub p b
  | _ :: p, .scope b => sub p b
  | _ :: _, c => c
def Qat (P : Program) : List Nat → Code → (Exit → Act → World → Prop) → Exit → Act → World → Prop
  | [], _, Q => Q
  | 0 :: p, .seq a b, Q => Qat P p a (Exit.then (b.wp P Q) Q)
  | _ :: p, .seq _ b, Q => Qat P p b Q
  | _ :: p, .block i b, Q => Qat P p b (Exit.inBlock i Q)
  | _ :: _, _, Q => Q
def evTo (P : Program) (Γ : List (Summ P)) (n : Nat) (H : List (Nat × V)) (nt : Nat) : List Nat → Code → Env → List Blk → (Env → List Blk → Option R) → Option R
  | [], _, env, σ, K => K env σ
  | 0 :: p, .seq a _, env, σ, K => evTo P Γ n H nt p a env σ K
  | _ :: p, .seq a b, env, σ, K => ev P Γ n H nt a env σ fun e env σ =>
    match e with
    | .normal => evTo P Γ n H nt p b env σ K
    | _ => none
  | _ :: p, .block _ b, env, σ, K => evTo P Γ n H nt p b env σ K
  | _ :: _, _, _, _, _ => none
def evFrom (P : Program) (Γ : List (Summ P)) (n : Nat) (H : List (Nat × V)) (nt : Nat) : List Nat → Code → Env → List Blk → (Ex → Env → List Blk → Option R) → Option R
  | [], _, env, σ, K => K .normal env σ
  | 0 :: p, .seq a b, env, σ, K => evFrom P Γ n H nt p a env σ fun e env σ =>
    match e with
    | .normal => ev P Γ n H nt b env σ K
    | e => K e env σ
  | _ :: p, .seq _ b, env, σ, K => evFrom P Γ n H nt p b env σ K
  | _ :: p, .block i b, env, σ, K => evFrom P Γ n H nt p b env σ fun e env σ =>
    match e with
    | .exit j => bif Nat.beq j i then K .normal env σ else K (.exit j) env σ
    | e => K e env σ
  | _ :: _, _, _, _, _ => none

theorem evTo_sound (hN : NamesOK P) (hM : P.follows .mixedOrders = true) {K : Env → List Blk → Option R} {r : R} : ∀ (p : List Nat) (c : Code) (env : Env) (σ : List Blk) (ρ : Rho) (a : Act) (w : World) (Q : Exit → Act → World → Prop),
    evTo P Γ n H nt p c env σ K = some r → Rel B ρ σ w → EnvOK ρ σ.length nt env a →
    (∀ a' w', AfterR B nt ρ σ K r a' w' → (sub p c).wp P (Qat P p c Q) a' w') → c.wp P Q a w
  | [], c, env, σ, ρ, a, w, Q, h, hr, he, hQ => hQ a w ⟨env, σ, ρ, Nat.le_refl _, fun _ _ => rfl, hr, he, h⟩
  | 0 :: p, .seq x y, env, σ, ρ, a, w, Q, h, hr, he, hQ => wp_seq (evTo_sound hN hM p x env σ ρ a w _ h hr he hQ)
  | (m + 1) :: p, .seq x y, env, σ, ρ, a, w, Q, h, hr, he, hQ => by
    simp only [evTo] at h
    refine wp_seq (wp_mono (ev_sound hN hM n H nt x env σ _ _ h B ρ a w hr he) ?_)
    rintro e a' w' ⟨ex, hex, env', σ', ρ', h1, h2, h3, h4, h5⟩
    cases ex with
    | normal =>
      cases e <;> simp only [ExM] at hex
      exact evTo_sound hN hM p y env' σ' ρ' a' w' Q h5 h3 h4 (fun a'' w'' hA => hQ a'' w'' (hA.trans h1 h2))
    | exit i => cases h5
    | ret => cases h5
  | m :: p, .block i b, env, σ, ρ, a, w, Q, h, hr, he, hQ => by
    cases m <;> exact wp_block (evTo_sound hN hM p b env σ ρ a w _ h hr he hQ)
  | m :: p, .loop b, env, σ, ρ, a, w, Q, h, hr, he, hQ => by cases m <;> cases h
  | m :: p, .scope b, env, σ, ρ, a, w, Q, h, hr, he, hQ => by cases m <;> cases h
  | m :: p, .skip, env, σ, ρ, a, w, Q, h, hr, he, hQ => by cases m <;> cases h
  | m :: p, .label _, env, σ, ρ, a, w, Q, h, hr, he, hQ => by cases m <;> cases h
  | m :: p, .exit _, env, σ, ρ, a, w, Q, h, hr, he, hQ => by cases m <;> cases h
  | m :: p, .ret, env, σ, ρ, a, w, Q, h, hr, he, hQ => by cases m <;> cases h
  | m :: p, .region _ _ _, env, σ, ρ, a, w, Q, h, hr, he, hQ => by cases m <;> cases h
  | m :: p, .cond _ _ _, env, σ, ρ, a, w, Q, h, hr, he, hQ => by cases m <;> cases h
  | m :: p, .goto _, env, σ, ρ, a, w, Q, h, hr, he, hQ => by cases m <;> cases h
  | m :: p, .rangeFunc _ _ _ _, env, σ, ρ, a, w, Q, h, hr, he, hQ => by cases m <;> cases h
  | m :: p, .refuse _, env, σ, ρ, a, w, Q, h, hr, he, hQ => by cases m <;> cases h

theorem evFrom_sound (hN : NamesOK P) (hM : P.follows .mixedOrders = true) {r : R} : ∀ (p : List Nat) (c : Code) (K : Ex → Env → List Blk → Option R) (env : Env) (σ : List Blk) (ρ : Rho) (a : Act) (w : World) (Q : Exit → Act → World → Prop),
    evFrom P Γ n H nt p c env σ K = some r → Rel B ρ σ w → EnvOK ρ σ.length nt env a →
    (∀ e a' w', PostE B nt ρ σ K r e a' w' → Q e a' w') → Qat P p c Q .normal a w
  | [], c, K, env, σ, ρ, a, w, Q, h, hr, he, hQ => hQ .normal a w ⟨.normal, trivial, env, σ, ρ, Nat.le_refl _, fun _ _ => rfl, hr, he, h⟩
  | 0 :: p, .seq x y, K, env, σ, ρ, a, w, Q, h, hr, he, hQ => by
    refine evFrom_sound hN hM p x _ env σ ρ a w _ h hr he ?_
    rintro e a' w' ⟨ex, hex, env', σ', ρ', h1, h2, h3, h4, h5⟩
    cases ex with
    | normal =>
      cases e <;> simp only [ExM] at hex
      refine wp_mono (ev_sound hN hM n H nt y env' σ' _ _ h5 B ρ' a' w' h3 h4) ?_
      rintro e a'' w'' ⟨x', hx', hA⟩
      exact hQ e a'' w'' ⟨x', hx', hA.trans h1 h2⟩
    | exit i =>
      cases e <;> simp only [ExM] at hex
      exact hQ _ _ _ ⟨.exit i, hex, env', σ', ρ', h1, h2, h3, h4, h5⟩
    | ret =>
      cases e <;> simp only [ExM] at hex
      exact hQ _ _ _ ⟨.ret, trivial, env', σ', ρ', h1, h2, h3, h4, h5⟩
  | (m + 1) :: p, .seq x y, K, env, σ, ρ, a, w, Q, h, hr, he, hQ => evFrom_sound hN hM p y K env σ ρ a w Q h hr he hQ
  | m :: p, .block i b, K, env, σ, ρ, a, w, Q, h, hr, he, hQ => by
    have key : evFrom P Γ n H nt p b env σ (fun e env σ =>
        match e with
        | .exit j => bif Nat.beq j i then K .normal env σ else K (.exit j) env σ
        | e => K e env σ) = some r := by cases m <;> exact h
    have goal : Qat P p b (Exit.inBlock i Q) .normal a w := by
      refine evFrom_sound hN hM p b _ env σ ρ a w _ key hr he ?_
      rintro e a' w' ⟨ex, hex, env', σ', ρ', h1, h2, h3, h4, h5⟩
      cases ex with
      | normal => cases e <;> simp only [ExM] at hex; exact hQ _ _ _ ⟨.normal, trivial, env', σ', ρ', h1, h2, h3, h4, h5⟩
      | ret => cases e <;> simp only [ExM] at hex; exact hQ _ _ _ ⟨.ret, trivial, env', σ', ρ', h1, h2, h3, h4, h5⟩
      | exit j =>
        cases e <;> simp only [ExM] at hex
        subst hex
        simp only at h5
        cases hi : Nat.beq j i with
        | true =>
          rw [hi, cond_true] at h5
          have := Nat.eq_of_beq_eq_true hi
          subst this
          simp only [Exit.inBlock, if_true]
          exact hQ _ _ _ ⟨.normal, trivial, env', σ', ρ', h1, h2, h3, h4, h5⟩
        | false =>
          rw [hi, cond_false] at h5
          have : j ≠ i := fun hh => by subst hh; simp at hi
          simp only [Exit.inBlock, if_neg this]
          exact hQ _ _ _ ⟨.exit j, rfl, env', σ', ρ', h1, h2, h3, h4, h5⟩
    cases m <;> exact goal
  | m :: p, .loop b, K, env, σ, ρ, a, w, Q, h, hr, he, hQ => by cases m <;> cases h
  | m :: p, .scope b, K, env, σ, ρ, a, w, Q, h, hr, he, hQ => by cases m <;> cases h
  | m :: p, .skip, K, env, σ, ρ, a, w, Q, h, hr, he, hQ => by cases m <;> cases h
  | m :: p, .label _, K, env, σ, ρ, a, w, Q, h, hr, he, hQ => by cases m <;> cases h
  | m :: p, .exit _, K, env, σ, ρ, a, w, Q, h, hr, he, hQ => by cases m <;> cases h
  | m :: p, .ret, K, env, σ, ρ, a, w, Q, h, hr, he, hQ => by cases m <;> cases h
  | m :: p, .region _ _ _, K, env, σ, ρ, a, w, Q, h, hr, he, hQ => by cases m <;> cases h
  | m :: p, .cond _ _ _, K, env, σ, ρ, a, w, Q, h, hr, he, hQ => by cases m <;> cases h
  | m :: p, .goto _, K, env, σ, ρ, a, w, Q, h, hr, he, hQ => by cases m <;> cases h
  | m :: p, .rangeFunc _ _ _ _, K, env, σ, ρ, a, w, Q, h, hr, he, hQ => by cases m <;> cases h
  | m :: p, .refuse _, K, env, σ, ρ, a, w, Q, h, hr, he, hQ => by cases m <;> cases h

/-- the body of a function, its frame's size -/
def bodyOf (P : Program) (k : Nat) : Code :=
  match P.funcs[k]? with
  | some fn => match fn.body with | some c => c | none => .skip
  | none => .skip
def ntOf (P : Program) (k : Nat) (args : List V) : Nat :=
  match P.funcs[k]? with
  | some fn => args.length + (fn.ntmps - args.length)
  | none => 0
def leaveOf (P : Program) (k : Nat) (kk : V → List Blk → Option R) : Ex → Env → List Blk → Option R :=
  match P.funcs[k]? with
  | some fn => leave P fn kk
  | none => fun _ _ _ => none

/-- a call with a loop at place p of its body: up to it, the loop, what follows -/
theorem loop_call (hN : NamesOK P) (hM : P.follows .mixedOrders = true) {Γ2 : List (Summ P)} {n2 : Nat} {H2 : List (Nat × V)} {k : FuncId} (hb : hasBody P k = true) (p : List Nat) {args : List V} {σ0 σ1 σ2 : List Blk} {live live2 : List Nat} {vs vs2 : List V} {kk : V → List Blk → Option R} {r : R}
    (h1 : evTo P Γ n H (ntOf P k args) p (bodyOf P k) (envOf args 0) σ0 (Kt live) = some (.tup vs, σ1))
    (hl : ∀ (B : Base) (ρ0 : Rho) (a : Act) (w : World), St B ρ0 σ0.length (ntOf P k args) live vs σ1 a w → (sub p (bodyOf P k)).wp P (fun e a' w' => e = .normal ∧ St B ρ0 σ0.length (ntOf P k args) live2 vs2 σ2 a' w') a w)
    (h2 : ∀ rest, evFrom P Γ2 n2 H2 (ntOf P k args) p (bodyOf P k) (zipE live2 vs2 rest) σ2 (leaveOf P k kk) = some r)
    {B : Base} {ρ : Rho} {w : World} (hr : Rel B ρ σ0 w) (hs : scs σ0.length args = true) :
    Calls P k (reals ρ args).toArray w fun e w' => ∃ v, e = .returned v ∧ After B ρ σ0 kk r v w' := by
  obtain ⟨fn, hf, hbd⟩ := hasBody_spec hb
  obtain ⟨c, hc⟩ := Option.isSome_iff_exists.1 hbd
  have eb : bodyOf P k = c := by unfold bodyOf; rw [hf]; simp only [hc]
  have en : ntOf P k args = args.length + (fn.ntmps - args.length) := by unfold ntOf; rw [hf]
  have el : leaveOf P k kk = leave P fn kk := by unfold leaveOf; rw [hf]
  rw [eb, en] at h1
  rw [eb, en] at hl
  rw [eb, en, el] at h2
  refine calls_of_wp hf hc ?_
  have hwp : c.wp P (PostE B (args.length + (fn.ntmps - args.length)) ρ σ0 (leave P fn kk) r) { tmps := (reals ρ args).toArray ++ Array.replicate (fn.ntmps - (reals ρ args).toArray.size) undef, defers := [] } w := by
    refine evTo_sound hN hM p c (envOf args 0) σ0 ρ { tmps := (reals ρ args).toArray ++ Array.replicate (fn.ntmps - (reals ρ args).toArray.size) undef, defers := [] } w _ h1 hr (envOf_ok hs) ?_
    rintro a' w' ⟨env', σ', ρ', g1, g2, g3, g4, g5⟩
    simp only [Kt, Option.some.injEq, Prod.mk.injEq, V.tup.injEq] at g5
    obtain ⟨g5, rfl⟩ := g5
    refine wp_mono (hl B ρ a' w' ⟨ρ', env', g2, g1, g3, g4, g5⟩) ?_
    rintro e a'' w'' ⟨rfl, ρ2, env2, k1, k2, k3, k4, k5⟩
    refine evFrom_sound hN hM p c _ _ σ2 ρ2 a'' w'' _ (h2 env2) k3 (k4.of_get (zipE_get live2 vs2 env2 k5)) ?_
    rintro e a3 w3 ⟨x, hx, hA⟩
    exact ⟨x, hx, hA.trans k2 k1⟩
  refine wp_mono hwp ?_
  rintro e a' w' ⟨x, hx, env', σ', ρ', h1, h2, h3, h4, h5⟩
  have good : (x = .normal ∨ x = .ret) → a'.defers = [] ∧ ∃ v, (results fn a'.tmps).run P w' = .ok v w' ∧ ∃ u, (Ending.returned v) = .returned u ∧ After B ρ σ0 kk r u w' := by
    intro hx'
    have h6 : (match evResults P fn env' σ' with | some v => kk v σ' | none => none) = some r := by
      rcases hx' with rfl | rfl <;> exact h5
    split at h6
    · rename_i v hv
      obtain ⟨g1, g2⟩ := evResults_sound h3 h4 hv
      exact ⟨h4.def_, _, g1, _, rfl, v, σ', ρ', rfl, h1, h2, h3, g2, h6⟩
    · cases h6
  have fin : ∀ i, x = .exit i → False := by
    intro i hi; subst hi; cases h5
  cases e with
  | normal => exact good (by cases x <;> simp_all [ExM])
  | ret => exact good (by cases x <;> simp_all [ExM])
  | exit i => cases x <;> simp_all [ExM]
  | goto l => cases x <;> simp_all [ExM]
  | panic ch => cases x <;> simp_all [ExM]
  | outgrown => cases x <;> simp_all [ExM]

theorem Qat_ret {Q : Exit → Act → World → Prop} {a : Act} {w : World} : ∀ (p : List Nat) (c : Code) (Q : Exit → Act → World → Prop), Q .ret a w → Qat P p c Q .ret a w
  | [], c, Q, h => h
  | 0 :: p, .seq x y, Q, h => Qat_ret (Q := Q) p x (Exit.then (y.wp P Q) Q) h
  | (m + 1) :: p, .seq x y, Q, h => Qat_ret (Q := Q) p y Q h
  | m :: p, .block i b, Q, h => by cases m <;> exact Qat_ret (Q := Q) p b (Exit.inBlock i Q) h
  | m :: p, .loop b, Q, h => by cases m <;> exact h
  | m :: p, .scope b, Q, h => by cases m <;> exact h
  | m :: p, .skip, Q, h => by cases m <;> exact h
  | m :: p, .label _, Q, h => by cases m <;> exact h
  | m :: p, .exit _, Q, h => by cases m <;> exact h
  | m :: p, .ret, Q, h => by cases m <;> exact h
  | m :: p, .region _ _ _, Q, h => by cases m <;> exact h
  | m :: p, .cond _ _ _, Q, h => by cases m <;> exact h
  | m :: p, .goto _, Q, h => by cases m <;> exact h
  | m :: p, .rangeFunc _ _ _ _, Q, h => by cases m <;> exact h
  | m :: p, .refuse _, Q, h => by cases m <;> exact h
/-- a call with a loop at place p of its body that returns -/
theorem loop_call_ret (hN : NamesOK P) (hM : P.follows .mixedOrders = true) {k : FuncId} (hb : hasBody P k = true) (p : List Nat) {args : List V} {σ0 σ1 σ2 : List Blk} {live live2 : List Nat} {vs vs2 : List V} {kk : V → List Blk → Option R} {r : R}
    (h1 : evTo P Γ n H (ntOf P k args) p (bodyOf P k) (envOf args 0) σ0 (Kt live) = some (.tup vs, σ1))
    (hl : ∀ (B : Base) (ρ0 : Rho) (a : Act) (w : World), St B ρ0 σ0.length (ntOf P k args) live vs σ1 a w → (sub p (bodyOf P k)).wp P (fun e a' w' => e = .ret ∧ St B ρ0 σ0.length (ntOf P k args) live2 vs2 σ2 a' w') a w)
    (h2 : ∀ rest, leaveOf P k kk .ret (zipE live2 vs2 rest) σ2 = some r)
    {B : Base} {ρ : Rho} {w : World} (hr : Rel B ρ σ0 w) (hs : scs σ0.length args = true) :
    Calls P k (reals ρ args).toArray w fun e w' => ∃ v, e = .returned v ∧ After B ρ σ0 kk r v w' := by
  obtain ⟨fn, hf, hbd⟩ := hasBody_spec hb
  obtain ⟨c, hc⟩ := Option.isSome_iff_exists.1 hbd
  have eb : bodyOf P k = c := by unfold bodyOf; rw [hf]; simp only [hc]
  have en : ntOf P k args = args.length + (fn.ntmps - args.length) := by unfold ntOf; rw [hf]
  have el : leaveOf P k kk = leave P fn kk := by unfold leaveOf; rw [hf]
  rw [eb, en] at h1
  rw [eb, en] at hl
  rw [el] at h2
  refine calls_of_wp hf hc ?_
  refine evTo_sound hN hM p c (envOf args 0) σ0 ρ { tmps := (reals ρ args).toArray ++ Array.replicate (fn.ntmps - (reals ρ args).toArray.size) undef, defers := [] } w _ h1 hr (envOf_ok hs) ?_
  rintro a' w' ⟨env', σ', ρ', g1, g2, g3, g4, g5⟩
  simp only [Kt, Option.some.injEq, Prod.mk.injEq, V.tup.injEq] at g5
  obtain ⟨g5, rfl⟩ := g5
  refine wp_mono (hl B ρ a' w' ⟨ρ', env', g2, g1, g3, g4, g5⟩) ?_
  rintro e a'' w'' ⟨rfl, ρ2, env2, k1, k2, k3, k4, k5⟩
  refine Qat_ret (Q := fun _ _ _ => True) p c _ ?_
  have h6 : (match evResults P fn (zipE live2 vs2 env2) σ2 with | some v => kk v σ2 | none => none) = some r := h2 env2
  split at h6
  · rename_i v hv
    have he := k4.of_get (zipE_get live2 vs2 env2 k5)
    obtain ⟨g1, g2⟩ := evResults_sound k3 he hv
    exact ⟨he.def_, _, g1, _, rfl, v, σ2, ρ2, rfl, k2, k1, k3, g2, h6⟩
  · cases h6
/-- a law, from its calls -/
theorem law_trueC {k : FuncId} {args : List V} (h : ∀ (B : Base) (ρ : Rho) (w : World), Rel B ρ [] w → Calls P k (reals ρ args).toArray w fun e w' => ∃ x, e = .returned x ∧ After B ρ [] asB true x w') {ρ : Rho} {w : World} (hr : Rel ⟨w, noS⟩ ρ [] w) :
    Calls P k (reals ρ args).toArray w fun e w' => e = .returned (.bool true) ∧ Below w.heap.size w w' := by
  refine (h _ ρ w hr).mono ?_
  rintro e w' ⟨x, rfl, y, σ1, ρ1, rfl, _, _, hr1, hy, hk⟩
  have := asB_spec hk
  subst this
  exact ⟨rfl, hr1.keeps.os, hr1.keeps.tape, hr1.keeps.output, hr1.keeps.size, fun i hi => hr1.keeps.block i hi (fun hf => hf)⟩
/-- a function of values alone, from its calls -/
def mkPureC (k : FuncId) (F : List V → Option (Bool × V))
    (h : ∀ args v, F args = some (true, v) → scs 0 args = true ∧ v.sc 0 = true ∧ ∀ (B : Base) (ρ : Rho) (w : World), Rel B ρ [] w → Calls P k (reals ρ args).toArray w fun e w' => ∃ x, e = .returned x ∧ After B ρ [] (fun v _ => some v) v x w') : Summ P where
  k := k
  pure := true
  f := fun args σ => match F (args.map flat) with | some (ok, v) => some (ok, v, σ) | none => none
  touch := fun _ => []
  keep := keep_pure F
  ok := by
    intro args σ v σ' hf hs
    cases hF : F (args.map flat) with
    | none => rw [hF] at hf; cases hf
    | some u =>
      obtain ⟨ok, u⟩ := u
      rw [hF] at hf
      simp only [Option.some.injEq, Prod.mk.injEq] at hf
      obtain ⟨rfl, rfl, rfl⟩ := hf
      obtain ⟨h1, h2, h3⟩ := h _ u hF
      refine ⟨Nat.le_refl _, V.sc_mono (Nat.zero_le _) _ h2, fun _ => rfl, fun B ρ w hr _ => ?_⟩
      rw [← flats_real]
      refine (h3 ⟨w, noS⟩ ρ w (Rel.empty ρ w noS)).mono ?_
      rintro e w' ⟨x, rfl, y, σ1, ρ1, rfl, _, _, hr1, hy, hk⟩
      simp only [Option.some.injEq] at hk
      subst hk
      exact ⟨ρ, fun _ _ => rfl, by rw [V.real_ext (n := 0) (ρ := ρ) (fun i hi => by omega) y h2], hr.frame hr1.keeps⟩
end
end Go.R

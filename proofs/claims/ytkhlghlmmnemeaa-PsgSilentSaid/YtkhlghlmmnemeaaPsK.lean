import Derived.Test.YtkhlghlmmnemeaaPsJ
set_option linter.unusedVariables false
set_option linter.unusedSimpArgs false
namespace Go.Proofs.Ytkhlghlmmnemeaa
open Go Go.R
/-- what is asked of a sound's cells: from 0 to a bound; -1: not 0 -/
def chk (f : Nat → Int) (p : Nat × Int) : Bool := if p.2 = -1 then !(f p.1 == 0) else inB (f p.1) p.2
def codesP : List (Nat × Int) := [(0, 7), (1, 255), (2, 255), (3, 255), (4, 4095), (5, 255), (6, 255), (7, 255), (40, 31), (43, 31), (8, 31), (9, 31), (10, 31), (11, 31), (12, 31), (13, 31), (14, 31), (15, 31), (16, 31), (17, 31), (18, 31), (19, 31), (20, 31), (21, 31), (22, 31), (23, 31), (24, 31), (25, 31), (26, 31), (27, 31), (28, 31), (29, 31), (30, 31), (31, 31), (32, 31), (33, 31), (34, 31), (35, 31), (36, 31), (37, 31), (38, 31), (39, 31), (41, 16777215), (42, 262143), (42, -1), (44, 4095), (45, 255), (46, 255), (47, 255), (80, 31), (83, 31), (48, 31), (49, 31), (50, 31), (51, 31), (52, 31), (53, 31), (54, 31), (55, 31), (56, 31), (57, 31), (58, 31), (59, 31), (60, 31), (61, 31), (62, 31), (63, 31), (64, 31), (65, 31), (66, 31), (67, 31), (68, 31), (69, 31), (70, 31), (71, 31), (72, 31), (73, 31), (74, 31), (75, 31), (76, 31), (77, 31), (78, 31), (79, 31), (81, 16777215), (82, 262143), (82, -1), (84, 4095), (85, 255), (86, 255), (87, 255), (120, 31), (123, 31), (88, 31), (89, 31), (90, 31), (91, 31), (92, 31), (93, 31), (94, 31), (95, 31), (96, 31), (97, 31), (98, 31), (99, 31), (100, 31), (101, 31), (102, 31), (103, 31), (104, 31), (105, 31), (106, 31), (107, 31), (108, 31), (109, 31), (110, 31), (111, 31), (112, 31), (113, 31), (114, 31), (115, 31), (116, 31), (117, 31), (118, 31), (119, 31), (121, 16777215), (122, 262143), (122, -1), (124, 4095), (125, 255), (126, 255), (127, 255), (160, 31), (163, 31), (128, 31), (129, 31), (130, 31), (131, 31), (132, 31), (133, 31), (134, 31), (135, 31), (136, 31), (137, 31), (138, 31), (139, 31), (140, 31), (141, 31), (142, 31), (143, 31), (144, 31), (145, 31), (146, 31), (147, 31), (148, 31), (149, 31), (150, 31), (151, 31), (152, 31), (153, 31), (154, 31), (155, 31), (156, 31), (157, 31), (158, 31), (159, 31), (161, 16777215), (162, 262143), (162, -1), (164, 4095), (165, 255), (166, 255), (167, 255), (200, 31), (203, 31), (168, 31), (169, 31), (170, 31), (171, 31), (172, 31), (173, 31), (174, 31), (175, 31), (176, 31), (177, 31), (178, 31), (179, 31), (180, 31), (181, 31), (182, 31), (183, 31), (184, 31), (185, 31), (186, 31), (187, 31), (188, 31), (189, 31), (190, 31), (191, 31), (192, 31), (193, 31), (194, 31), (195, 31), (196, 31), (197, 31), (198, 31), (199, 31), (201, 16777215), (202, 262143), (202, -1), (204, 4095), (205, 255), (206, 255), (207, 255), (240, 31), (243, 31), (208, 31), (209, 31), (210, 31), (211, 31), (212, 31), (213, 31), (214, 31), (215, 31), (216, 31), (217, 31), (218, 31), (219, 31), (220, 31), (221, 31), (222, 31), (223, 31), (224, 31), (225, 31), (226, 31), (227, 31), (228, 31), (229, 31), (230, 31), (231, 31), (232, 31), (233, 31), (234, 31), (235, 31), (236, 31), (237, 31), (238, 31), (239, 31), (241, 16777215), (242, 262143), (242, -1)]
def codes4 : List (Nat × Int) := [(0, 7), (1, 255), (2, 255), (3, 255)]
def codesR0 : List (Nat × Int) := [(4, 4095), (5, 255), (6, 255), (7, 255), (40, 31), (43, 31), (41, 16777215), (42, 262143), (42, -1), (8, 31), (9, 31), (10, 31), (11, 31), (12, 31), (13, 31), (14, 31), (15, 31), (16, 31), (17, 31), (18, 31), (19, 31), (20, 31), (21, 31), (22, 31), (23, 31), (24, 31), (25, 31), (26, 31), (27, 31), (28, 31), (29, 31), (30, 31), (31, 31), (32, 31), (33, 31), (34, 31), (35, 31), (36, 31), (37, 31), (38, 31), (39, 31)]
def codesR1 : List (Nat × Int) := [(44, 4095), (45, 255), (46, 255), (47, 255), (80, 31), (83, 31), (81, 16777215), (82, 262143), (82, -1), (48, 31), (49, 31), (50, 31), (51, 31), (52, 31), (53, 31), (54, 31), (55, 31), (56, 31), (57, 31), (58, 31), (59, 31), (60, 31), (61, 31), (62, 31), (63, 31), (64, 31), (65, 31), (66, 31), (67, 31), (68, 31), (69, 31), (70, 31), (71, 31), (72, 31), (73, 31), (74, 31), (75, 31), (76, 31), (77, 31), (78, 31), (79, 31)]
def codesR2 : List (Nat × Int) := [(84, 4095), (85, 255), (86, 255), (87, 255), (120, 31), (123, 31), (121, 16777215), (122, 262143), (122, -1), (88, 31), (89, 31), (90, 31), (91, 31), (92, 31), (93, 31), (94, 31), (95, 31), (96, 31), (97, 31), (98, 31), (99, 31), (100, 31), (101, 31), (102, 31), (103, 31), (104, 31), (105, 31), (106, 31), (107, 31), (108, 31), (109, 31), (110, 31), (111, 31), (112, 31), (113, 31), (114, 31), (115, 31), (116, 31), (117, 31), (118, 31), (119, 31)]
def codesR3 : List (Nat × Int) := [(124, 4095), (125, 255), (126, 255), (127, 255), (160, 31), (163, 31), (161, 16777215), (162, 262143), (162, -1), (128, 31), (129, 31), (130, 31), (131, 31), (132, 31), (133, 31), (134, 31), (135, 31), (136, 31), (137, 31), (138, 31), (139, 31), (140, 31), (141, 31), (142, 31), (143, 31), (144, 31), (145, 31), (146, 31), (147, 31), (148, 31), (149, 31), (150, 31), (151, 31), (152, 31), (153, 31), (154, 31), (155, 31), (156, 31), (157, 31), (158, 31), (159, 31)]
def codesR4 : List (Nat × Int) := [(164, 4095), (165, 255), (166, 255), (167, 255), (200, 31), (203, 31), (201, 16777215), (202, 262143), (202, -1), (168, 31), (169, 31), (170, 31), (171, 31), (172, 31), (173, 31), (174, 31), (175, 31), (176, 31), (177, 31), (178, 31), (179, 31), (180, 31), (181, 31), (182, 31), (183, 31), (184, 31), (185, 31), (186, 31), (187, 31), (188, 31), (189, 31), (190, 31), (191, 31), (192, 31), (193, 31), (194, 31), (195, 31), (196, 31), (197, 31), (198, 31), (199, 31)]
def codesR5 : List (Nat × Int) := [(204, 4095), (205, 255), (206, 255), (207, 255), (240, 31), (243, 31), (241, 16777215), (242, 262143), (242, -1), (208, 31), (209, 31), (210, 31), (211, 31), (212, 31), (213, 31), (214, 31), (215, 31), (216, 31), (217, 31), (218, 31), (219, 31), (220, 31), (221, 31), (222, 31), (223, 31), (224, 31), (225, 31), (226, 31), (227, 31), (228, 31), (229, 31), (230, 31), (231, 31), (232, 31), (233, 31), (234, 31), (235, 31), (236, 31), (237, 31), (238, 31), (239, 31)]
def codesR : Nat → List (Nat × Int)
  | 0 => codesR0 | 1 => codesR1 | 2 => codesR2 | 3 => codesR3 | 4 => codesR4 | _ => codesR5
def okP (f : Nat → Int) : Bool := codesP.all (chk f)
theorem codes_perm : codesP.Perm (codes4 ++ (codesR0 ++ (codesR1 ++ (codesR2 ++ (codesR3 ++ (codesR4 ++ codesR5)))))) := by decide +kernel
theorem all_perm {l m : List (Nat × Int)} (h : l.Perm m) (p : Nat × Int → Bool) : l.all p = m.all p := by
  rw [Bool.eq_iff_iff, List.all_eq_true, List.all_eq_true]
  exact ⟨fun g x hx => g x (h.mem_iff.2 hx), fun g x hx => g x (h.mem_iff.1 hx)⟩
theorem okP_eq (f : Nat → Int) : okP f = (codes4.all (chk f) && (codesR0.all (chk f) && (codesR1.all (chk f) && (codesR2.all (chk f) && (codesR3.all (chk f) && (codesR4.all (chk f) && codesR5.all (chk f))))))) := by
  unfold okP
  rw [all_perm codes_perm]
  simp only [List.all_append]
theorem ck_chain {α : Type} (f : Nat → Int) (j : Nat) (m : Int) (hm : (m == -1) = false) {x A Bd : α} {r : List (Nat × Int)} (h : x = cond (r.all (chk f)) A Bd) :
    cond (!inB (f j) m) Bd x = cond (((j, m) :: r).all (chk f)) A Bd := by
  have e : chk f (j, m) = inB (f j) m := by unfold chk; rw [if_neg (by simpa using hm)]
  rw [List.all_cons, e]
  cases inB (f j) m
  · rfl
  · exact h
theorem nz_chain {α : Type} (f : Nat → Int) (j : Nat) {x A Bd : α} {r : List (Nat × Int)} (h : x = cond (r.all (chk f)) A Bd) :
    cond (f j == 0) Bd x = cond (((j, -1) :: r).all (chk f)) A Bd := by
  have e : chk f (j, -1) = !(f j == 0) := rfl
  rw [List.all_cons, e]
  cases (f j == 0)
  · exact h
  · rfl
def rvs (j : Nat) : List V := [.ptr 0 0, .bool false, .int .i64 (j : Nat)]
def rsg (f : Nat → Int) (j : Nat) : List Blk := .ints 37 .i64 244 f :: (List.range j).map (fun i => rblk f (4 + 40 * i))
theorem rvB0_eq (f : Nat → Int) (rest : Env) : ev Try.prog [sIn] 300 [] 97 (sub [1, 1, 0, 1, 0, 0] (bodyOf Try.prog 22)) (zipE [1, 2, 3] (rvs 0) rest) (rsg f 0) (Kl [1, 2, 3]) =
    cond (codesR0.all (chk f)) (some (V.tup (exV .normal :: rvs 1), rsg f 1)) (some (V.tup (exV .ret :: rvs 0), rsg f 1)) := by
  refine (rvB0_ev f rest).trans ?_
  unfold codesR0
  iterate 41 first | refine ck_chain f _ _ rfl ?_ | refine nz_chain f _ ?_
  rfl
theorem rvB1_eq (f : Nat → Int) (rest : Env) : ev Try.prog [sIn] 300 [] 97 (sub [1, 1, 0, 1, 0, 0] (bodyOf Try.prog 22)) (zipE [1, 2, 3] (rvs 1) rest) (rsg f 1) (Kl [1, 2, 3]) =
    cond (codesR1.all (chk f)) (some (V.tup (exV .normal :: rvs 2), rsg f 2)) (some (V.tup (exV .ret :: rvs 1), rsg f 2)) := by
  refine (rvB1_ev f rest).trans ?_
  unfold codesR1
  iterate 41 first | refine ck_chain f _ _ rfl ?_ | refine nz_chain f _ ?_
  rfl
theorem rvB2_eq (f : Nat → Int) (rest : Env) : ev Try.prog [sIn] 300 [] 97 (sub [1, 1, 0, 1, 0, 0] (bodyOf Try.prog 22)) (zipE [1, 2, 3] (rvs 2) rest) (rsg f 2) (Kl [1, 2, 3]) =
    cond (codesR2.all (chk f)) (some (V.tup (exV .normal :: rvs 3), rsg f 3)) (some (V.tup (exV .ret :: rvs 2), rsg f 3)) := by
  refine (rvB2_ev f rest).trans ?_
  unfold codesR2
  iterate 41 first | refine ck_chain f _ _ rfl ?_ | refine nz_chain f _ ?_
  rfl
theorem rvB3_eq (f : Nat → Int) (rest : Env) : ev Try.prog [sIn] 300 [] 97 (sub [1, 1, 0, 1, 0, 0] (bodyOf Try.prog 22)) (zipE [1, 2, 3] (rvs 3) rest) (rsg f 3) (Kl [1, 2, 3]) =
    cond (codesR3.all (chk f)) (some (V.tup (exV .normal :: rvs 4), rsg f 4)) (some (V.tup (exV .ret :: rvs 3), rsg f 4)) := by
  refine (rvB3_ev f rest).trans ?_
  unfold codesR3
  iterate 41 first | refine ck_chain f _ _ rfl ?_ | refine nz_chain f _ ?_
  rfl
theorem rvB4_eq (f : Nat → Int) (rest : Env) : ev Try.prog [sIn] 300 [] 97 (sub [1, 1, 0, 1, 0, 0] (bodyOf Try.prog 22)) (zipE [1, 2, 3] (rvs 4) rest) (rsg f 4) (Kl [1, 2, 3]) =
    cond (codesR4.all (chk f)) (some (V.tup (exV .normal :: rvs 5), rsg f 5)) (some (V.tup (exV .ret :: rvs 4), rsg f 5)) := by
  refine (rvB4_ev f rest).trans ?_
  unfold codesR4
  iterate 41 first | refine ck_chain f _ _ rfl ?_ | refine nz_chain f _ ?_
  rfl
theorem rvB5_eq (f : Nat → Int) (rest : Env) : ev Try.prog [sIn] 300 [] 97 (sub [1, 1, 0, 1, 0, 0] (bodyOf Try.prog 22)) (zipE [1, 2, 3] (rvs 5) rest) (rsg f 5) (Kl [1, 2, 3]) =
    cond (codesR5.all (chk f)) (some (V.tup (exV .normal :: rvs 6), rsg f 6)) (some (V.tup (exV .ret :: rvs 5), rsg f 6)) := by
  refine (rvB5_ev f rest).trans ?_
  unfold codesR5
  iterate 41 first | refine ck_chain f _ _ rfl ?_ | refine nz_chain f _ ?_
  rfl
theorem rv_block : sub [1, 1, 0, 1] (bodyOf Try.prog 22) = .block 0 (.loop (sub [1, 1, 0, 1, 0, 0] (bodyOf Try.prog 22))) := by kernel_rfl
theorem rv_step (f : Nat → Int) (rest : Env) (j : Nat) (hj : j < 6) : ev Try.prog [sIn] 300 [] 97 (sub [1, 1, 0, 1, 0, 0] (bodyOf Try.prog 22)) (zipE [1, 2, 3] (rvs j) rest) (rsg f j) (Kl [1, 2, 3]) =
    cond ((codesR j).all (chk f)) (some (V.tup (exV .normal :: rvs (j + 1)), rsg f (j + 1))) (some (V.tup (exV .ret :: rvs j), rsg f (j + 1))) := by
  have : j = 0 ∨ j = 1 ∨ j = 2 ∨ j = 3 ∨ j = 4 ∨ j = 5 := by omega
  rcases this with rfl | rfl | rfl | rfl | rfl | rfl
  · exact rvB0_eq f rest
  · exact rvB1_eq f rest
  · exact rvB2_eq f rest
  · exact rvB3_eq f rest
  · exact rvB4_eq f rest
  · exact rvB5_eq f rest
theorem first_bad (g : Nat → Bool) (n : Nat) : (∀ j, j < n → g j = true) ∨ ∃ k, k < n ∧ g k = false ∧ ∀ j, j < k → g j = true := by
  induction n with
  | zero => exact .inl (fun j hj => by omega)
  | succ n ih =>
    rcases ih with h | ⟨k, h1, h2, h3⟩
    · cases hg : g n with
      | true => exact .inl (fun j hj => by by_cases e : j = n; · subst e; exact hg
                                           · exact h j (by omega))
      | false => exact .inr ⟨n, by omega, hg, h⟩
    · exact .inr ⟨k, by omega, h2, h3⟩
theorem okP_all (f : Nat → Int) : okP f = true ↔ codes4.all (chk f) = true ∧ ∀ j, j < 6 → (codesR j).all (chk f) = true := by
  rw [okP_eq]
  simp only [Bool.and_eq_true]
  constructor
  · rintro ⟨h, h0, h1, h2, h3, h4, h5⟩
    refine ⟨h, fun j hj => ?_⟩
    have : j = 0 ∨ j = 1 ∨ j = 2 ∨ j = 3 ∨ j = 4 ∨ j = 5 := by omega
    rcases this with rfl | rfl | rfl | rfl | rfl | rfl
    · exact h0
    · exact h1
    · exact h2
    · exact h3
    · exact h4
    · exact h5
  · rintro ⟨h, g⟩
    exact ⟨h, g 0 (by decide), g 1 (by decide), g 2 (by decide), g 3 (by decide), g 4 (by decide), g 5 (by decide)⟩
theorem four (f : Nat → Int) : codes4.all (chk f) = (inB (f 0) 7 && (inB (f 1) 255 && (inB (f 2) 255 && inB (f 3) 255))) := by
  unfold codes4
  simp only [List.all_cons, List.all_nil, Bool.and_true]; rfl
theorem rvRet (f : Nat → Int) (k : Int) (rest : Env) (σ : List Blk) : leaveOf Try.prog 22 (fun v _ => some v) .ret (zipE [1, 2, 3] [.ptr 0 0, .bool false, .int .i64 k] rest) σ = some (V.bool false) := by kernel_rfl
theorem rvalid_calls (f : Nat → Int) (B : Base) (ρ : Rho) (w : World) (hr : Rel B ρ [] w) : Calls Try.prog 22 (reals ρ [.aggi .i64 244 f]).toArray w fun e w' => ∃ x, e = .returned x ∧ After B ρ [] (fun v _ => some v) (.bool (okP f)) x w' := by
  cases h4 : codes4.all (chk f) with
  | false =>
    have hk : okP f = false := by rw [okP_eq, h4]; rfl
    rw [hk]
    refine evCallH_sound hN hM ((rvBad_ev f).trans ?_) hr rfl
    rw [four] at h4
    cases h0 : inB (f 0) 7 with
    | false => rfl
    | true =>
      cases h1 : inB (f 1) 255 with
      | false => rfl
      | true =>
        cases h2 : inB (f 2) 255 with
        | false => rfl
        | true =>
          rw [h0, h1, h2] at h4
          simp only [Bool.true_and] at h4
          rw [h4]; rfl
  | true =>
    have h1 := rvTo_ev f
    have h4' := h4
    rw [four] at h4'
    simp only [Bool.and_eq_true] at h4'
    obtain ⟨g0, g1, g2, g3⟩ := h4'
    rw [g0, g1, g2, g3] at h1
    rcases first_bad (fun j => (codesR j).all (chk f)) 6 with hall | ⟨k, hk6, hk, hlt⟩
    · have hk : okP f = true := (okP_all f).2 ⟨h4, hall⟩
      rw [hk]
      refine loop_call hN hM (by kernel_rfl) [1, 1, 0, 1] h1 (fun B ρ0 a w hs => ?_) (fun rest => rvFrom_ev f rest) hr rfl
      rw [show ntOf Try.prog 22 [.aggi .i64 244 f] = 97 by kernel_rfl] at hs ⊢
      rw [rv_block]
      refine loop_unit (Γ := [sIn]) (n := 300) (H := []) (live := [1, 2, 3]) hN hM 6 rvs (rsg f) (fun j hj rest => ?_) (fun rest => ?_) hs
      · rw [rv_step f rest j hj, hall j hj]; rfl
      · exact (rvB6_ev f rest).trans rfl
    · have hok : okP f = false := by
        cases ho : okP f with
        | false => rfl
        | true => rw [((okP_all f).1 ho).2 k hk6] at hk; cases hk
      rw [hok]
      refine loop_call_ret (live2 := [1, 2, 3]) (vs2 := rvs k) (σ2 := rsg f (k + 1)) hN hM (by kernel_rfl) [1, 1, 0, 1] h1 (fun B ρ0 a w hs => ?_) (fun rest => ?_) hr rfl
      · rw [show ntOf Try.prog 22 [.aggi .i64 244 f] = 97 by kernel_rfl] at hs ⊢
        rw [rv_block]
        refine loop_unit_ret (Γ := [sIn]) (n := 300) (H := []) (live := [1, 2, 3]) hN hM k rvs (rsg f) (fun j hj rest => ?_) (fun rest => ?_) hs
        · rw [rv_step f rest j (by omega), hlt j hj]; rfl
        · rw [rv_step f rest k hk6, hk]; rfl
      · exact rvRet f _ rest _
def sRValid : Summ Try.prog := mkPureC 22 (fun args => match args with | [.aggi .i64 244 f] => some (true, .bool (okP f)) | _ => none) (by
  intro args v h; split at h
  · simp only [Option.some.injEq, Prod.mk.injEq, true_and] at h; subst h; exact ⟨rfl, rfl, rvalid_calls _⟩
  · cases h)
/-! ### the code's Valid -/
theorem cells_all (g : Nat → Int) (b : Bool) : ∀ l : List (Nat × Int), cellsB g l b = (l.all (fun p => inB (g p.1) p.2) && b)
  | [] => rfl
  | (j, m) :: r => by
    simp only [cellsB, List.all_cons, inB]
    rw [cells_all g b r]
    simp only [inB, Bool.and_assoc]
def codesC (off : Nat) : List (Nat × Int) := chOrd.map (fun p => (off + p.1, p.2)) ++ [(off + 38, -1)]
theorem ch_codes (f : Nat → Int) (off : Nat) : chB (fun j => upd (fun j => 0) 0 40 (fun j => f (off + j)) (0 + j)) = (codesC off).all (chk f) := by
  unfold chB codesC
  rw [cells_all, List.all_append, List.all_map]
  have e : ∀ j, j < 40 → upd (fun j => 0) 0 40 (fun j => f (off + j)) (0 + j) = f (off + j) := by
    intro j hj
    unfold upd
    rw [show (Nat.ble 0 (0 + j) && Nat.ble (0 + j + 1) (0 + 40)) = true by simp; omega]
    simp
  have h1 : ∀ p ∈ chOrd, p.1 < 40 ∧ p.2 ≠ -1 := by decide
  have h2 : (chOrd.all fun p => inB (upd (fun j => 0) 0 40 (fun j => f (off + j)) (0 + p.1)) p.2) = chOrd.all ((chk f) ∘ fun p => (off + p.1, p.2)) := by
    rw [Bool.eq_iff_iff, List.all_eq_true, List.all_eq_true]
    constructor
    · intro h p hp
      have := h p hp
      rw [e p.1 (h1 p hp).1] at this
      simp only [Function.comp_def, chk]
      rw [if_neg (h1 p hp).2]; exact this
    · intro h p hp
      have := h p hp
      simp only [Function.comp_def, chk] at this
      rw [if_neg (h1 p hp).2] at this
      rw [e p.1 (h1 p hp).1]; exact this
  rw [h2]
  show (_ && (upd (fun j => 0) 0 40 (fun j => f (off + j)) (0 + 38) != 0)) = _
  rw [e 38 (by decide)]
  simp only [List.all_cons, List.all_nil, Bool.and_true]
  rfl
theorem codesP_eq : codesP = codes4 ++ (codesC 4 ++ (codesC 44 ++ (codesC 84 ++ (codesC 124 ++ (codesC 164 ++ codesC 204))))) := by decide +kernel
theorem cb (a x : Bool) : cond (!a) (some (V.bool false)) (some (V.bool x)) = some (V.bool (a && x)) := by cases a <;> rfl
theorem cc (n m : Int) (x : Bool) : cond (decide (n < 0)) (some (V.bool false)) (cond (decide (n > m)) (some (V.bool false)) (some (V.bool x))) = some (V.bool (inB n m && x)) := by
  unfold inB
  cases decide (n < 0) <;> cases decide (n > m) <;> rfl
theorem valid_ok (f : Nat → Int) : evCall Try.prog [sChan] 300 21 [.aggi .i64 244 f] [] (fun v _ => some v) = some (.bool (okP f)) := by
  rw [valid_ev, ch_codes, ch_codes, ch_codes, ch_codes, ch_codes, ch_codes]
  unfold okP
  rw [codesP_eq]
  simp only [List.all_append]
  rw [four]
  rw [cb, cb, cb, cb, cb, cb, cc, cc, cc, cc]
  simp only [Bool.and_assoc, Bool.and_true]
def sValid : Summ Try.prog := mkPure [sChan] hN hM 21 300 (fun args => match args with | [.aggi .i64 244 f] => some (true, .bool (okP f)) | _ => none) (by
  intro args v h; split at h
  · simp only [Option.some.injEq, Prod.mk.injEq, true_and] at h; subst h; exact ⟨rfl, rfl, _, valid_ok _⟩
  · cases h)
end Go.Proofs.Ytkhlghlmmnemeaa

/- What the functions that FnExactPartsFor reaches compute, each as a Lean function, with the proof that the Go code computes it (written by our driver round the kit's printer, partly by hand). No conditions. -/
import Derived.Test.YtgdjjghdjpaofaaPFnExactPartsForx0
import Derived.Test.YtgdjjghdjpaofaaPFnExactPartsForx5
import Derived.Test.YtgdjjghdjpaofaaPFnExactPartsForx6
import Derived.Test.YtgdjjghdjpaofaaPFnExactPartsForx7
namespace Go.Proofs.Ytgdjjghdjpaofaa.PFnExactPartsFor
open Go.RowKit Go.Proofs.YtgdjjghdjpaofaaW.PrintWords Go.Proofs.YtgdjjghdjpaofaaW.PrintLast Go.Proofs.YtgdjjghdjpaofaaW.PrintMore
attribute [local go_sem] max2_int min2_int max_two min_two max_three min_three max_four min_four   -- for this text's walks alone
set_option linter.unusedVariables false
set_option linter.unusedSimpArgs false

/-! ### impl_partsFor: function 130 -/
mutual
def impl_partsFor.l0 : Nat → ByteArray → List (List Int) → Int → Int → Option (List ByteArray)
  | 0, _, _, _, _ => none
  | k + 1, x0, x7, x35, x36 => if x36 < x35 then (if 0 ≤ x36 then (if x36 < (x0.size : Int) then ((impl_ShareSecret.f k (bt x0 x36) (([(wrap64 (1 + (Int.tmod x36 251))) % 256] : List Int)) 4).bind fun bt272 => (impl_partsFor.l1 k x0 x7 x35 x36 bt272.1 (bt272.1.length : Int) 0)) else (none)) else (none)) else (impl_partsFor.l2 k (([] : List ByteArray)) x7 (x7.length : Int) 0)
def impl_partsFor.l1 : Nat → ByteArray → List (List Int) → Int → Int → List (S172) → Int → Int → Option (List ByteArray)
  | 0, _, _, _, _, _, _, _ => none
  | k + 1, x0, x7, x35, x36, x51, x52, x53 => if x53 < x52 then (if 0 ≤ x53 then (if x53 < (x51.length : Int) then (if x53 < (x7.length : Int) then (if (rd_L1 x7 x53).length < 140737488355328 then (impl_partsFor.l1 k x0 (x7.set (x53 : Int).toNat ((rd_L1 x7 x53) ++ [(rd_T172 x51 x53).f1])) x35 x36 x51 x52 (wrap64 (x53 + 1))) else (none)) else (none)) else (none)) else (none)) else (impl_partsFor.l0 k x0 x7 x35 (wrap64 (x36 + 1)))
def impl_partsFor.l2 : Nat → List ByteArray → List (List Int) → Int → Int → Option (List ByteArray)
  | 0, _, _, _, _ => none
  | k + 1, x13, x72, x73, x74 => if x74 < x73 then (if 0 ≤ x74 then (if x74 < (x72.length : Int) then (if x13.length < 8796093022208 then (impl_partsFor.l2 k (x13 ++ [strOfNums (rd_L1 x72 x74)]) x72 x73 (wrap64 (x74 + 1))) else (none)) else (none)) else (none)) else (some x13)
end
def impl_partsFor.f (k : Nat) (a0 : ByteArray) (a1 : Int) : Option (List ByteArray) := if a1 = 1 then (some (([a0, a0, a0] : List ByteArray))) else (if a1 = 2 then ((impl_SplitText.f k a0 3).bind fun bt256 => ((impl_codeRows.f k 3 2).bind fun t260 => ((impl_combined.f k t260 bt256.1).bind fun t263 => (some t263)))) else (if 4 ≤ 11728124029610 then (impl_partsFor.l0 k a0 (List.replicate 4 []) (a0.size : Int) 0) else (none)))
theorem impl_partsFor.mono_l : ∀ k, (∀ y0 y1 y2 y3, LeO (impl_partsFor.l0 k y0 y1 y2 y3) (impl_partsFor.l0 (k + 1) y0 y1 y2 y3)) ∧ (∀ y0 y1 y2 y3 y4 y5 y6, LeO (impl_partsFor.l1 k y0 y1 y2 y3 y4 y5 y6) (impl_partsFor.l1 (k + 1) y0 y1 y2 y3 y4 y5 y6)) ∧ (∀ y0 y1 y2 y3, LeO (impl_partsFor.l2 k y0 y1 y2 y3) (impl_partsFor.l2 (k + 1) y0 y1 y2 y3))
  | 0 => ⟨fun _ _ _ _ r h => by simp [impl_partsFor.l0] at h, fun _ _ _ _ _ _ _ r h => by simp [impl_partsFor.l1] at h, fun _ _ _ _ r h => by simp [impl_partsFor.l2] at h⟩
  | k + 1 => by
    obtain ⟨ih0, ih1, ih2⟩ := impl_partsFor.mono_l k
    refine ⟨?_, ?_, ?_⟩
    · intro y0 y1 y2 y3
      unfold impl_partsFor.l0
      repeat' first
      | (with_reducible exact ih0 _ _ _ _)
      | (with_reducible exact ih1 _ _ _ _ _ _ _)
      | (with_reducible exact ih2 _ _ _ _)
      | (with_reducible exact impl_ShareSecret.mono _ _ _ _)
      | (with_reducible exact impl_SplitText.mono _ _ _)
      | (with_reducible exact impl_codeRows.mono _ _ _)
      | (with_reducible exact impl_combined.mono _ _ _)
      | (with_reducible exact LeO.refl _)
      | (with_reducible exact LeO.none _)
      | (with_reducible refine LeO.ite ?_ ?_)
      | (with_reducible refine LeO.bind ?_ (fun _ => ?_))
      | exact ih0 _ _ _ _
      | exact ih1 _ _ _ _ _ _ _
      | exact ih2 _ _ _ _
      | exact impl_ShareSecret.mono _ _ _ _
      | exact impl_SplitText.mono _ _ _
      | exact impl_codeRows.mono _ _ _
      | exact impl_combined.mono _ _ _
      | exact LeO.none _
      | refine LeO.ite ?_ ?_
      | refine LeO.bind ?_ (fun _ => ?_)
    · intro y0 y1 y2 y3 y4 y5 y6
      unfold impl_partsFor.l1
      repeat' first
      | (with_reducible exact ih0 _ _ _ _)
      | (with_reducible exact ih1 _ _ _ _ _ _ _)
      | (with_reducible exact ih2 _ _ _ _)
      | (with_reducible exact impl_ShareSecret.mono _ _ _ _)
      | (with_reducible exact impl_SplitText.mono _ _ _)
      | (with_reducible exact impl_codeRows.mono _ _ _)
      | (with_reducible exact impl_combined.mono _ _ _)
      | (with_reducible exact LeO.refl _)
      | (with_reducible exact LeO.none _)
      | (with_reducible refine LeO.ite ?_ ?_)
      | (with_reducible refine LeO.bind ?_ (fun _ => ?_))
      | exact ih0 _ _ _ _
      | exact ih1 _ _ _ _ _ _ _
      | exact ih2 _ _ _ _
      | exact impl_ShareSecret.mono _ _ _ _
      | exact impl_SplitText.mono _ _ _
      | exact impl_codeRows.mono _ _ _
      | exact impl_combined.mono _ _ _
      | exact LeO.none _
      | refine LeO.ite ?_ ?_
      | refine LeO.bind ?_ (fun _ => ?_)
    · intro y0 y1 y2 y3
      unfold impl_partsFor.l2
      repeat' first
      | (with_reducible exact ih0 _ _ _ _)
      | (with_reducible exact ih1 _ _ _ _ _ _ _)
      | (with_reducible exact ih2 _ _ _ _)
      | (with_reducible exact impl_ShareSecret.mono _ _ _ _)
      | (with_reducible exact impl_SplitText.mono _ _ _)
      | (with_reducible exact impl_codeRows.mono _ _ _)
      | (with_reducible exact impl_combined.mono _ _ _)
      | (with_reducible exact LeO.refl _)
      | (with_reducible exact LeO.none _)
      | (with_reducible refine LeO.ite ?_ ?_)
      | (with_reducible refine LeO.bind ?_ (fun _ => ?_))
      | exact ih0 _ _ _ _
      | exact ih1 _ _ _ _ _ _ _
      | exact ih2 _ _ _ _
      | exact impl_ShareSecret.mono _ _ _ _
      | exact impl_SplitText.mono _ _ _
      | exact impl_codeRows.mono _ _ _
      | exact impl_combined.mono _ _ _
      | exact LeO.none _
      | refine LeO.ite ?_ ?_
      | refine LeO.bind ?_ (fun _ => ?_)
theorem impl_partsFor.mono : ∀ a0 a1 k, LeO (impl_partsFor.f k a0 a1) (impl_partsFor.f (k + 1) a0 a1) := by
  intro a0 a1 k
  obtain ⟨ih0, ih1, ih2⟩ := impl_partsFor.mono_l k
  unfold impl_partsFor.f
  repeat' first
      | (with_reducible exact ih0 _ _ _ _)
      | (with_reducible exact ih1 _ _ _ _ _ _ _)
      | (with_reducible exact ih2 _ _ _ _)
      | (with_reducible exact impl_ShareSecret.mono _ _ _ _)
      | (with_reducible exact impl_SplitText.mono _ _ _)
      | (with_reducible exact impl_codeRows.mono _ _ _)
      | (with_reducible exact impl_combined.mono _ _ _)
      | (with_reducible exact LeO.refl _)
      | (with_reducible exact LeO.none _)
      | (with_reducible refine LeO.ite ?_ ?_)
      | (with_reducible refine LeO.bind ?_ (fun _ => ?_))
      | exact ih0 _ _ _ _
      | exact ih1 _ _ _ _ _ _ _
      | exact ih2 _ _ _ _
      | exact impl_ShareSecret.mono _ _ _ _
      | exact impl_SplitText.mono _ _ _
      | exact impl_codeRows.mono _ _ _
      | exact impl_combined.mono _ _ _
      | exact LeO.none _
      | refine LeO.ite ?_ ?_
      | refine LeO.bind ?_ (fun _ => ?_)
def impl_partsFor.T15 : Bool × List (List Nat × List Nat) := (true, [([], []), ([], []), ([], []), ([], []), ([2, 3], [2, 3]), ([4], [4]), ([], []), ([6], [6]), ([7], [7]), ([5, 8], [5, 8]), ([0, 1, 0, 1, 2, 3, 4, 5, 6, 7, 8, 9], [0, 1]), ([10, 9, 9, 0, 1, 2, 3, 4, 5, 6, 7, 8, 9], [9, 10])])
def impl_partsFor.B15 : List Nat := [0, 0, 0, 0, 12, 28, 0, 64, 192, 508, 1023, 2047]
theorem impl_partsFor.tab15 : rtab .any (opsOf Try.f130 15) = impl_partsFor.T15 := by kernel_rfl
theorem impl_partsFor.bits15 : waitsOk impl_partsFor.T15.2 impl_partsFor.B15 = true := by kernel_rfl
set_option maxHeartbeats 8000000 in
set_option maxRecDepth 100000 in
theorem impl_partsFor.calls (k : Nat) (a0 : ByteArray) (a1 : Int) (r : List ByteArray) (w : World) (h : impl_partsFor.f k a0 a1 = some r) :
    Calls Try.prog 130 #[.string a0, .int .i64 a1] w fun e w' => ∃ v0_ : Value, e = .returned (v0_) ∧ Kd.R Kd.string 9 w' w.heap.size (fun _ => True) v0_ r ∧ Below w.heap.size w w' := by
  have hu172 := Try.underlying172
  have HB := Aside0.mk (Below.refl w.heap.size w)
  have H : (if a1 = 1 then (some (([a0, a0, a0] : List ByteArray))) else (if a1 = 2 then ((impl_SplitText.f k a0 3).bind fun bt256 => ((impl_codeRows.f k 3 2).bind fun t260 => ((impl_combined.f k t260 bt256.1).bind fun t263 => (some t263)))) else (if 4 ≤ 11728124029610 then (impl_partsFor.l0 k a0 (List.replicate 4 []) (a0.size : Int) 0) else (none)))) = some r := h
  clear h
  by_cases c3 : a1 = 1
  · rw [if_pos c3] at H
    have c3b0 : (a1 == 1) = true := beq_iff_eq.mpr c3
    have c3b1 : (a1 != 1) = false := bne_eq_false_iff_eq.mpr c3
    clear c3
    obtain ⟨y253, hy253⟩ : ∃ y_ : List ByteArray, y_ = (([a0, a0, a0] : List ByteArray)) := ⟨_, rfl⟩
    replace H : (some y253) = some r := by first | (rw [hy253]; with_reducible exact H) | (have H2_ := (Option.bind_some _ _).symm.trans H; rw [hy253]; with_reducible exact H2_) | (have H2_ := (Option.bind_some _ _).symm.trans H; with_reducible exact H2_) | with_reducible exact H | (rw [hy253]; exact H) | exact H
    have Ny253 := Aside0.mk hy253
    clear hy253
    obtain rfl := Option.some.inj H
    go_enter Try.func130, Try.ntmps130
    go_wp2_with (first | ((with_reducible refine gate_dst (N := 22) rfl ?_); refine Kd.R_lit Kd.string _ 9 ?hg (N := 22) ?hd (xs := ([a0, a0, a0] : List ByteArray)) (inner := [.string a0, .string a0, .string a0]) (ok := fun _ => True) (okp := fun _ => True) ?hr ?hp (fun _ hk => hk) trivial (Below.refl _ _) (Nat.le_refl _) (by simp) ?_; (case hd => rfl); (case hg => rfl); (case hr => first | (go_simp; done) | (go_simp; rfl)); (case hp => exact (Reps.one (show Kd.M Kd.string _ _ _ a0 [.string a0] from rfl) (Reps.one (show Kd.M Kd.string _ _ _ a0 [.string a0] from rfl) (Reps.one (show Kd.M Kd.string _ _ _ a0 [.string a0] from rfl) (Reps.none _ _))))); intro v254 w4 ho5 hb hg_ hnew_; clear hg_ hnew_; (first | rw [← Ny253.out] at ho5 | (simp only [Int.reduceToNat] at ho5; rw [← Ny253.out] at ho5)); have n0_ := Aside0.mk (Kd.R_lower ho5 (below_size (by repeat (first | (with_reducible first | exact HB.out | apply below_alloc | apply pw_below_drewN | apply below_drew1) | exact HB.out)))); have n1_ := Aside0.mk (below_step (by repeat (first | (with_reducible first | exact HB.out | apply below_alloc | apply pw_below_drewN | apply below_drew1) | exact HB.out)) hb); clear HB; have HO255 := n0_; have HB := n1_; clear n0_ n1_; clear hb ho5))
    go_ret
    exact ⟨_, by first | rfl | (simp [errW_none, errW_some] <;> rfl) | (simp [*, errW_none, errW_some] <;> rfl), by (with_reducible repeat (first | apply Kd.R_alloc | apply Kd.R_drewN | apply Kd.R_drew)); exact HO255.out, by repeat (first | (with_reducible first | exact HB.out | apply below_alloc | apply pw_below_drewN | apply below_drew1) | exact HB.out)⟩
  · rw [if_neg c3] at H
    have c3b0 : (a1 == 1) = false := beq_eq_false_iff_ne.mpr c3
    have c3b1 : (a1 != 1) = true := bne_iff_ne.mpr c3
    by_cases c6 : a1 = 2
    · rw [if_pos c6] at H
      have c6b0 : (a1 == 2) = true := beq_iff_eq.mpr c6
      have c6b1 : (a1 != 2) = false := bne_eq_false_iff_eq.mpr c6
      clear c6
      replace H := Option.bind_eq_some_iff.mp H
      obtain ⟨⟨t256, t257⟩, A70, H⟩ := H
      replace H : ((impl_codeRows.f k 3 2).bind fun t260 => ((impl_combined.f k t260 t256).bind fun t263 => (some t263))) = some r := H
      have A7 := Aside0.mk A70
      clear A70
      replace H := Option.bind_eq_some_iff.mp H
      obtain ⟨t260, A80, H⟩ := H
      replace H : ((impl_combined.f k t260 t256).bind fun t263 => (some t263)) = some r := H
      have A8 := Aside0.mk A80
      clear A80
      replace H := Option.bind_eq_some_iff.mp H
      obtain ⟨t263, A90, H⟩ := H
      replace H : (some t263) = some r := H
      have A9 := Aside0.mk A90
      clear A90
      obtain rfl := Option.some.inj H
      go_enter Try.func130, Try.ntmps130
      go_wp2_with (first | ((with_reducible refine gate_callee (f := 79) rfl ?_); refine goesL_ (some 27) rfl rfl Try.func79 (by kernel_rfl) rfl #[.string a0, .int .i64 3] rfl (by (try simp only [List.map_toArray, List.map_cons, List.map_nil]); first | done | rfl | (simp only [List.length_drop, List.length_take]; rfl)) ?_; (with_reducible refine (impl_SplitText.calls k a0 3 t256 t257 _ A7.out).mono ?_); rintro e w10 ⟨v258, rfl, ho0, hb⟩; refine ⟨_, rfl, ?_⟩; have n0_ := Aside0.mk (Kd.R_lower ho0 (below_size (by repeat (first | (with_reducible first | exact HB.out | apply below_alloc | apply pw_below_drewN | apply below_drew1) | exact HB.out)))); have n1_ := Aside0.mk (below_step (by repeat (first | (with_reducible first | exact HB.out | apply below_alloc | apply pw_below_drewN | apply below_drew1) | exact HB.out)) hb); clear HB; have HO259 := n0_; have HB := n1_; clear n0_ n1_; (try clear hb); (try clear hb2); (try clear hk); (try clear hi); (try clear ho0)) | ((with_reducible refine gate_callee (f := 108) rfl ?_); refine goesL_ (some 30) rfl rfl Try.func108 (by kernel_rfl) rfl #[.int .i64 3, .int .i64 2] rfl (by (try simp only [List.map_toArray, List.map_cons, List.map_nil]); first | done | rfl | (simp only [List.length_drop, List.length_take]; rfl)) ?_; (with_reducible refine (impl_codeRows.calls k 3 2 t260 _ A8.out).mono ?_); rintro e w11 ⟨v261, rfl, ho0, hb⟩; refine ⟨_, rfl, ?_⟩; have n0_ := Aside0.mk (Kd.R_below (by (with_reducible repeat (first | apply Kd.R_alloc | apply Kd.R_drewN | apply Kd.R_drew)); exact HO259.out) hb); have n1_ := Aside0.mk (Kd.S_lower ho0 (below_size (by repeat (first | (with_reducible first | exact HB.out | apply below_alloc | apply pw_below_drewN | apply below_drew1) | exact HB.out)))); have n2_ := Aside0.mk (below_step (by repeat (first | (with_reducible first | exact HB.out | apply below_alloc | apply pw_below_drewN | apply below_drew1) | exact HB.out)) hb); clear HO259; clear HB; have HO259 := n0_; have HO262 := n1_; have HB := n2_; clear n0_ n1_ n2_; (try clear hb); (try clear hb2); (try clear hk); (try clear hi); (try clear ho0); obtain ⟨Ao12, co12, eo12⟩ := Kd.S_slice HO262.out; subst eo12; obtain ⟨Ao13, co13, eo13⟩ := Kd.R_slice HO259.out; subst eo13) | ((with_reducible refine gate_callee (f := 94) rfl ?_); refine goesL_ (some 32) rfl rfl Try.func94 (by kernel_rfl) rfl #[.slice Ao12 t260.length co12, .slice Ao13 t256.length co13] rfl (by (try simp only [List.map_toArray, List.map_cons, List.map_nil]); first | done | rfl | (simp only [List.length_drop, List.length_take]; rfl)) ?_; (with_reducible refine (impl_combined.calls k _ _ t260 _ _ t256 t263 _ ?side1 ?side2 ?side3 ?side4 A9.out).mono ?_); (case side1 => repeat (first | exact (Kd.S_reads' HO262.out).2.2 | (with_reducible refine Kd.C_alloc ?_ _) | (with_reducible refine Kd.C_drewN ?_ _) | (with_reducible refine Kd.C_drew ?_))); (case side2 => exact (Kd.S_reads' HO262.out).2.1); (case side3 => repeat (first | exact (Kd.R_reads' HO259.out).2.2 | (with_reducible refine Kd.C_alloc ?_ _) | (with_reducible refine Kd.C_drewN ?_ _) | (with_reducible refine Kd.C_drew ?_))); (case side4 => exact (Kd.R_reads' HO259.out).2.1); rintro e w14 ⟨v264, rfl, ho0, hb⟩; refine ⟨_, rfl, ?_⟩; have n0_ := Aside0.mk (Kd.R_elder' (by (with_reducible repeat (first | apply Kd.R_alloc | apply Kd.R_drewN | apply Kd.R_drew)); exact HO259.out) (Kd.R_base ho0) hb); have n1_ := Aside0.mk (Kd.S_below (by (with_reducible repeat (first | apply Kd.S_alloc | apply Kd.S_drewN | apply Kd.S_drew)); exact HO262.out) hb); have n2_ := Aside0.mk (Kd.R_lower (Kd.R_new' ho0 (Kd.R_lt (by (with_reducible repeat (first | apply Kd.R_alloc | apply Kd.R_drewN | apply Kd.R_drew)); exact HO259.out))) (below_size (by repeat (first | (with_reducible first | exact HB.out | apply below_alloc | apply pw_below_drewN | apply below_drew1) | exact HB.out)))); have n3_ := Aside0.mk (below_step (by repeat (first | (with_reducible first | exact HB.out | apply below_alloc | apply pw_below_drewN | apply below_drew1) | exact HB.out)) hb); clear HO259; clear HO262; clear HB; have HO259 := n0_; have HO262 := n1_; have HO265 := n2_; have HB := n3_; clear n0_ n1_ n2_ n3_; (try clear hb); (try clear hb2); (try clear hk); (try clear hi); (try clear ho0)))
      go_ret
      exact ⟨_, by first | rfl | (simp [errW_none, errW_some] <;> rfl) | (simp [*, errW_none, errW_some] <;> rfl), by (with_reducible repeat (first | apply Kd.R_alloc | apply Kd.R_drewN | apply Kd.R_drew)); exact Kd.R_mono HO265.out (fun _ hk => trivial), by repeat (first | (with_reducible first | exact HB.out | apply below_alloc | apply pw_below_drewN | apply below_drew1) | exact HB.out)⟩
    · rw [if_neg c6] at H
      have c6b0 : (a1 == 2) = false := beq_eq_false_iff_ne.mpr c6
      have c6b1 : (a1 != 2) = true := bne_iff_ne.mpr c6
      by_cases c15 : 4 ≤ 11728124029610
      · rw [if_pos c15] at H
        have c15b0 := eq_true c15
        have c15b1 : decide (4 ≤ 11728124029610) = true := decide_eq_true c15
        clear c15
        obtain ⟨y266, hy266⟩ : ∃ y_ : List (List Int), y_ = (List.replicate 4 []) := ⟨_, rfl⟩
        replace H : (impl_partsFor.l0 k a0 y266 (a0.size : Int) 0) = some r := by first | (rw [hy266]; with_reducible exact H) | (have H2_ := (Option.bind_some _ _).symm.trans H; rw [hy266]; with_reducible exact H2_) | (have H2_ := (Option.bind_some _ _).symm.trans H; with_reducible exact H2_) | with_reducible exact H | (rw [hy266]; exact H) | exact H
        have Ny266 := Aside0.mk hy266
        clear hy266
        have H' := Aside0.mk H
        clear H
        go_enter Try.func130, Try.ntmps130
        go_wp2_with (first | ((with_reducible refine gate_dst (N := 33) rfl ?_); refine Kd.S_make (Kd.slice 5 (Kd.int .u8)) _ 22 rfl (N := 33) rfl 37 _ _ rfl 4 rfl rfl Try.underlying37 (.slice none 0 0) 24 info22 rfl (by decide) (by omega) [] (ok := fun _ => True) (okp := fun _ => True) ⟨_, rfl, Kd.R_nil _ _ _ _ _⟩ (fun _ hk => hk) trivial (by omega) (by omega) (Below.refl _ _) (Nat.le_refl _) ?_; intro v267 w16 ho17 hb hg_ hnew_; clear hg_ hnew_; (first | rw [← Ny266.out] at ho17 | (simp only [Int.reduceToNat] at ho17; rw [← Ny266.out] at ho17)); have n0_ := Aside0.mk (Kd.S_lower ho17 (below_size (by repeat (first | (with_reducible first | exact HB.out | apply below_alloc | apply pw_below_drewN | apply below_drew1) | exact HB.out)))); have n1_ := Aside0.mk (below_step (by repeat (first | (with_reducible first | exact HB.out | apply below_alloc | apply pw_below_drewN | apply below_drew1) | exact HB.out)) hb); clear HB; have HO268 := n0_; have HB := n1_; clear n0_ n1_; clear hb ho17))
        go_loopg [36] k (fun kq v36 w' => ∃ (x7_1 : List (List Int)) (x36_1 : Int), v36 = .int .i64 x36_1 ∧ Aside0 (impl_partsFor.l0 kq a0 x7_1 (a0.size : Int) x36_1 = some r) ∧ Aside0 (kq ≤ k) ∧ Aside0 (Kd.S (Kd.slice 5 (Kd.int .u8)) 22 w' w.heap.size (fun _ => True) v267 x7_1) ∧ Aside0 (Below w.heap.size w w'))
        case atStart => exact ⟨(y266), (0), (by first | rfl | (simp; done) | (simp [*]; done)), H', ⟨Nat.le_refl _⟩, ⟨by (with_reducible repeat (first | apply Kd.S_alloc | apply Kd.S_drewN | apply Kd.S_drew)); exact HO268.out⟩, ⟨by repeat (first | (with_reducible first | exact HB.out | apply below_alloc | apply pw_below_drewN | apply below_drew1) | exact HB.out)⟩⟩
        case round =>
          clear H'
          try clear c1
          try clear p2
          try clear c3
          try clear c3b0
          try clear c3b1
          try clear c6
          try clear c6b0
          try clear c6b1
          try clear c7
          try clear c9
          try clear c10
          try clear c13
          try clear c15
          try clear c15b0
          try clear c15b1
          obtain ⟨x7_1, x36_1, rfl, HA, HK1, HO_7, HB⟩ := hrel
          cases gk with
          | zero => exact absurd HA.out (by simp [impl_partsFor.l0])
          | succ k1 =>
            have H := HA.out
            clear HA
            simp only [impl_partsFor.l0] at H
            by_cases c18 : x36_1 < (a0.size : Int)
            · rw [if_pos c18] at H
              have c18b0 : decide (x36_1 < (a0.size : Int)) = true := decide_eq_true c18
              clear c18
              by_cases c19 : 0 ≤ x36_1
              · rw [if_pos c19] at H
                have c19b0 : decide (0 ≤ x36_1) = true := decide_eq_true c19
                clear c19
                by_cases c20 : x36_1 < (a0.size : Int)
                · rw [if_pos c20] at H
                  have c20b0 : decide (x36_1 < (a0.size : Int)) = true := decide_eq_true c20
                  clear c20
                  obtain ⟨y269, hy269⟩ : ∃ y_ : List Int, y_ = (([(wrap64 (1 + (Int.tmod x36_1 251))) % 256] : List Int)) := ⟨_, rfl⟩
                  replace H : ((impl_ShareSecret.f k1 (bt a0 x36_1) y269 4).bind fun bt272 => (impl_partsFor.l1 k1 a0 x7_1 (a0.size : Int) x36_1 bt272.1 (bt272.1.length : Int) 0)) = some r := by first | (rw [hy269]; with_reducible exact H) | (have H2_ := (Option.bind_some _ _).symm.trans H; rw [hy269]; with_reducible exact H2_) | (have H2_ := (Option.bind_some _ _).symm.trans H; with_reducible exact H2_) | with_reducible exact H | (rw [hy269]; exact H) | exact H
                  have Ny269 := Aside0.mk hy269
                  clear hy269
                  replace H := Option.bind_eq_some_iff.mp H
                  obtain ⟨⟨t272, t273⟩, A220, H⟩ := H
                  replace H : (impl_partsFor.l1 k1 a0 x7_1 (a0.size : Int) x36_1 t272 (t272.length : Int) 0) = some r := H
                  have A22 := Aside0.mk A220
                  clear A220
                  have H' := Aside0.mk H
                  clear H
                  have p21 : 0 ≤ (x36_1 : Int) := of_decide_eq_true (by first | (with_reducible assumption) | assumption)
                  have q21 : x36_1 < (a0.size : Int) := of_decide_eq_true (by first | (with_reducible assumption) | assumption)
                  have hx21 := bt_at a0 x36_1
                  replace p21 := eq_true p21
                  replace q21 := eq_true q21
                  go_wp2_with (first | ((with_reducible refine gate_dst (N := 47) rfl ?_); refine Kd.R_lit (Kd.int .u8) _ 5 ?hg (N := 47) ?hd (xs := ([(wrap64 (1 + (Int.tmod x36_1 251))) % 256] : List Int)) (inner := [.int .u8 ((wrap64 (1 + (Int.tmod x36_1 251))) % 256)]) (ok := fun _ => True) (okp := fun _ => True) ?hr ?hp (fun _ hk => hk) trivial (Below.refl _ _) (Nat.le_refl _) (by simp) ?_; (case hd => rfl); (case hg => rfl); (case hr => first | (go_simp; done) | (go_simp; rfl)); (case hp => exact (Reps.one (show Kd.M (Kd.int .u8) _ _ _ ((wrap64 (1 + (Int.tmod x36_1 251))) % 256) [.int .u8 ((wrap64 (1 + (Int.tmod x36_1 251))) % 256)] from rfl) (Reps.none _ _))); intro v270 w23 ho24 hb hg_ hnew_; clear hg_ hnew_; (first | rw [← Ny269.out] at ho24 | (simp only [Int.reduceToNat] at ho24; rw [← Ny269.out] at ho24)); have n0_ := Aside0.mk (Kd.S_elder' (by (with_reducible repeat (first | apply Kd.S_alloc | apply Kd.S_drewN | apply Kd.S_drew)); exact HO_7.out) (Kd.R_base ho24) hb); have n1_ := Aside0.mk (Kd.R_lower ho24 (below_size (by repeat (first | (with_reducible first | exact HB.out | apply below_alloc | apply pw_below_drewN | apply below_drew1) | exact HB.out)))); have n2_ := Aside0.mk (below_step (by repeat (first | (with_reducible first | exact HB.out | apply below_alloc | apply pw_below_drewN | apply below_drew1) | exact HB.out)) hb); clear HO_7; clear HB; have HO_7 := n0_; have HO271 := n1_; have HB := n2_; clear n0_ n1_ n2_; clear hb ho24; obtain ⟨Ao25, co25, eo25⟩ := Kd.R_slice HO271.out; subst eo25) | ((with_reducible refine gate_callee (f := 189) rfl ?_); refine goesL_ (some 48) rfl rfl Try.func189 (by kernel_rfl) rfl #[.int .u8 (bt a0 x36_1), .slice Ao25 y269.length co25, .int .i64 4] rfl (by (try simp only [List.map_toArray, List.map_cons, List.map_nil]); first | done | rfl | (simp only [List.length_drop, List.length_take]; rfl)) ?_; (with_reducible refine (impl_ShareSecret.calls k1 (bt a0 x36_1) _ _ y269 4 t272 t273 _ ?side1 ?side2 A22.out).mono ?_); (case side1 => repeat (first | exact (Kd.R_reads' HO271.out).2.2 | (with_reducible refine Kd.C_alloc ?_ _) | (with_reducible refine Kd.C_drewN ?_ _) | (with_reducible refine Kd.C_drew ?_))); (case side2 => exact (Kd.R_reads' HO271.out).2.1); rintro e w26 ⟨v274, rfl, ho0, hb⟩; refine ⟨_, rfl, ?_⟩; have n0_ := Aside0.mk (Kd.S_below (by (with_reducible repeat (first | apply Kd.S_alloc | apply Kd.S_drewN | apply Kd.S_drew)); exact HO_7.out) hb); have n1_ := Aside0.mk (Kd.R_below (by (with_reducible repeat (first | apply Kd.R_alloc | apply Kd.R_drewN | apply Kd.R_drew)); exact HO271.out) hb); have n2_ := Aside0.mk (Kd.R_lower ho0 (below_size (by repeat (first | (with_reducible first | exact HB.out | apply below_alloc | apply pw_below_drewN | apply below_drew1) | exact HB.out)))); have n3_ := Aside0.mk (below_step (by repeat (first | (with_reducible first | exact HB.out | apply below_alloc | apply pw_below_drewN | apply below_drew1) | exact HB.out)) hb); clear HO_7; clear HO271; clear HB; have HO_7 := n0_; have HO271 := n1_; have HO275 := n2_; have HB := n3_; clear n0_ n1_ n2_ n3_; (try clear hb); (try clear hb2); (try clear hk); (try clear hi); (try clear ho0); obtain ⟨Ao27, co27, eo27⟩ := Kd.R_slice HO275.out; subst eo27))
                  go_loopg [53] k1 (fun kq v53 w' => ∃ (x7_2 : List (List Int)) (x53_2 : Int), v53 = .int .i64 x53_2 ∧ Aside0 (impl_partsFor.l1 kq a0 x7_2 (a0.size : Int) x36_1 t272 (t272.length : Int) x53_2 = some r) ∧ Aside0 (kq ≤ k1) ∧ Aside0 (Kd.S (Kd.slice 5 (Kd.int .u8)) 22 w' w.heap.size (fun _ => True) v267 x7_2) ∧ Aside0 (Kd.R k172 172 w' w.heap.size (fun _ => True) (.slice Ao27 t272.length co27) t272) ∧ Aside0 (Below w.heap.size w w'))
                  case atStart => exact ⟨(x7_1), (0), (by first | rfl | (simp; done) | (simp [*]; done)), H', ⟨Nat.le_refl _⟩, ⟨by (with_reducible repeat (first | apply Kd.S_alloc | apply Kd.S_drewN | apply Kd.S_drew)); exact Kd.S_mono HO_7.out (fun _ hk => trivial)⟩, ⟨by (with_reducible repeat (first | apply Kd.R_alloc | apply Kd.R_drewN | apply Kd.R_drew)); exact HO275.out⟩, ⟨by repeat (first | (with_reducible first | exact HB.out | apply below_alloc | apply pw_below_drewN | apply below_drew1) | exact HB.out)⟩⟩
                  case round =>
                    clear H'
                    try clear c1
                    try clear c2
                    try clear p2
                    try clear q2
                    try clear hx2
                    try clear c3
                    try clear c3b0
                    try clear c3b1
                    try clear c6
                    try clear c6b0
                    try clear c6b1
                    try clear p6
                    try clear c7
                    try clear c9
                    try clear c10
                    try clear c13
                    try clear c15
                    try clear c15b0
                    try clear c15b1
                    try clear c18
                    try clear c18b0
                    try clear c19
                    try clear c19b0
                    try clear c20
                    try clear c20b0
                    try clear p21
                    try clear q21
                    try clear hx21
                    try clear p2
                    try clear p21
                    try clear q21
                    obtain ⟨x7_2, x53_2, rfl, HA, HK2, HO_7, HO_51, HB⟩ := hrel
                    cases gk with
                    | zero => exact absurd HA.out (by simp [impl_partsFor.l1])
                    | succ k2 =>
                      have H := HA.out
                      clear HA
                      simp only [impl_partsFor.l1] at H
                      by_cases c28 : x53_2 < (t272.length : Int)
                      · rw [if_pos c28] at H
                        have c28b0 : decide (x53_2 < (t272.length : Int)) = true := decide_eq_true c28
                        clear c28
                        by_cases c29 : 0 ≤ x53_2
                        · rw [if_pos c29] at H
                          have c29b0 : decide (0 ≤ x53_2) = true := decide_eq_true c29
                          clear c29
                          by_cases c30 : x53_2 < (t272.length : Int)
                          · rw [if_pos c30] at H
                            have c30b0 : decide (x53_2 < (t272.length : Int)) = true := decide_eq_true c30
                            clear c30
                            by_cases c31 : x53_2 < (x7_2.length : Int)
                            · rw [if_pos c31] at H
                              have c31b0 : decide (x53_2 < (x7_2.length : Int)) = true := decide_eq_true c31
                              clear c31
                              by_cases c32 : (rd_L1 x7_2 x53_2).length < 140737488355328
                              · rw [if_pos c32] at H
                                have LMc32 := Aside0.mk c32
                                clear c32
                                obtain ⟨y279, hy279⟩ : ∃ y_ : List Int, y_ = ((rd_L1 x7_2 x53_2) ++ [(rd_T172 t272 x53_2).f1]) := ⟨_, rfl⟩
                                replace H : (impl_partsFor.l1 k2 a0 (x7_2.set (x53_2 : Int).toNat y279) (a0.size : Int) x36_1 t272 (t272.length : Int) (wrap64 (x53_2 + 1))) = some r := by first | (rw [hy279]; with_reducible exact H) | (have H2_ := (Option.bind_some _ _).symm.trans H; rw [hy279]; with_reducible exact H2_) | (have H2_ := (Option.bind_some _ _).symm.trans H; with_reducible exact H2_) | with_reducible exact H | (rw [hy279]; exact H) | exact H
                                have Ny279 := Aside0.mk hy279
                                clear hy279
                                obtain ⟨y282, hy282⟩ : ∃ y_ : List (List Int), y_ = (x7_2.set (x53_2 : Int).toNat y279) := ⟨_, rfl⟩
                                replace H : (impl_partsFor.l1 k2 a0 y282 (a0.size : Int) x36_1 t272 (t272.length : Int) (wrap64 (x53_2 + 1))) = some r := by first | (rw [hy282]; with_reducible exact H) | (have H2_ := (Option.bind_some _ _).symm.trans H; rw [hy282]; with_reducible exact H2_) | (have H2_ := (Option.bind_some _ _).symm.trans H; with_reducible exact H2_) | with_reducible exact H | (rw [hy282]; exact H) | exact H
                                have Ny282 := Aside0.mk hy282
                                clear hy282
                                have H' := Aside0.mk H
                                clear H
                                have p276 : 0 ≤ (x53_2 : Int) := of_decide_eq_true (by first | (with_reducible assumption) | assumption)
                                have q276 : x53_2 < (t272.length : Int) := of_decide_eq_true (by first | (with_reducible assumption) | assumption)
                                obtain ⟨ad276, e276, hx276_0, hx276_1⟩ := at_T172 (Kd.R_reads' HO_51.out).2.2 x53_2 p276 q276
                                cases e276
                                replace p276 := eq_true p276
                                replace q276 := eq_true q276
                                try go_wp2_with (first | ((with_reducible refine gate_dst (N := 12) rfl ?_); refine box_event ?hg (N := 12) ?hd (cs := #[.int .u8 0, .int .u8 0]) (t := 172) ?hr ?_; (case hd => rfl); (case hg => rfl); (case hr => first | (go_simp; done) | (go_simp; rfl)); intro gb277 hg w34 hbox hb; have n0_ := Aside0.mk (Kd.S_below (by (with_reducible repeat (first | apply Kd.S_alloc | apply Kd.S_drewN | apply Kd.S_drew)); exact HO_7.out) hb); have n1_ := Aside0.mk (Kd.R_below (Kd.R_elderB (by (with_reducible repeat (first | apply Kd.R_alloc | apply Kd.R_drewN | apply Kd.R_drew)); exact HO_51.out) gb277 (Nat.le_of_eq hg.symm)) hb); have n2_ := Aside0.mk (below_step (by repeat (first | (with_reducible first | exact HB.out | apply below_alloc | apply pw_below_drewN | apply below_drew1) | exact HB.out)) hb); have n3_ := Aside0.mk (hbox); have n4_ := Aside0.mk ((by rw [hg]; exact (below_size (by repeat (first | (with_reducible first | exact HB.out | apply below_alloc | apply pw_below_drewN | apply below_drew1) | exact HB.out))) : w.heap.size ≤ gb277)); have n5_ := Aside0.mk ((by rw [hg]; exact (below_size (by repeat (first | (with_reducible first | exact HB.out | apply below_alloc | apply pw_below_drewN | apply below_drew1) | exact HB.out))) : w.heap.size ≤ gb277)); clear HO_7; clear HO_51; clear HB; have HO_7 := n0_; have HO_51 := n1_; have HB := n2_; have BK277 := n3_; have GW277 := n4_; have GE277 := n5_; clear n0_ n1_ n2_ n3_ n4_ n5_; clear hb hbox hg; have hcz35_0 : w34.cell? ⟨gb277, 0, none⟩ = some (.int .u8 0) := (blk_cell BK277.out 0).trans rfl; have hcz35_1 : w34.cell? ⟨gb277, 1, none⟩ = some (.int .u8 0) := (blk_cell BK277.out 1).trans rfl; have hfz35_0 := blk_frozen BK277.out 0; have hfz35_1 := blk_frozen BK277.out 1))
                                have n0_ : Aside0 (Kd.S (Kd.slice 5 (Kd.int .u8)) 22 ((w34.setCell ⟨gb277, 0, none⟩ (.int .u8 ((rd_T172 t272 x53_2).f0))).setCell ⟨gb277, 1, none⟩ (.int .u8 ((rd_T172 t272 x53_2).f1))) w.heap.size (fun _ => True) v267 x7_2) := ⟨by (with_reducible repeat (first | apply Kd.S_alloc | apply Kd.S_drewN | apply Kd.S_drew)); exact Kd.S_mono (Kd.S_far (p := ⟨gb277, 1, none⟩) (Kd.S_far (p := ⟨gb277, 0, none⟩) (Kd.S_types HO_7.out BK277.out (by decide)) (fun _ hk => hk.2) (.int .u8 ((rd_T172 t272 x53_2).f0))) (fun _ hk => hk.2) (.int .u8 ((rd_T172 t272 x53_2).f1))) (fun _ hk => trivial)⟩
                                have n1_ : Aside0 (Kd.R k172 172 ((w34.setCell ⟨gb277, 0, none⟩ (.int .u8 ((rd_T172 t272 x53_2).f0))).setCell ⟨gb277, 1, none⟩ (.int .u8 ((rd_T172 t272 x53_2).f1))) w.heap.size (fun k_ => k_ ≠ gb277) (.slice (some ad276) t272.length co27) t272) := ⟨by (with_reducible repeat (first | apply Kd.R_alloc | apply Kd.R_drewN | apply Kd.R_drew)); exact Kd.R_mono (Kd.R_far (p := ⟨gb277, 1, none⟩) (Kd.R_far (p := ⟨gb277, 0, none⟩) (Kd.R_mono HO_51.out (fun k_ hk => (⟨hk, hk.2⟩ : _ ∧ k_ ≠ gb277))) (fun _ hk => hk.2) (.int .u8 ((rd_T172 t272 x53_2).f0))) (fun _ hk => hk.2) (.int .u8 ((rd_T172 t272 x53_2).f1))) (fun _ hk => hk.1.2)⟩
                                have n2_ : Aside0 (((w34.setCell ⟨gb277, 0, none⟩ (.int .u8 ((rd_T172 t272 x53_2).f0))).setCell ⟨gb277, 1, none⟩ (.int .u8 ((rd_T172 t272 x53_2).f1))).heap[gb277]? = some (.cells #[.int .u8 ((rd_T172 t272 x53_2).f0), .int .u8 ((rd_T172 t272 x53_2).f1)] 172 (0, 0))) := ⟨by (with_reducible repeat (first | refine blk_drewN ?_ _ | refine blk_drew ?_ | refine blk_alloc ?_ _)); refine blk_put (cs := #[.int .u8 ((rd_T172 t272 x53_2).f0), .int .u8 0]) ?_ 1 _ rfl; (with_reducible repeat (first | refine blk_drewN ?_ _ | refine blk_drew ?_ | refine blk_alloc ?_ _)); refine blk_put (cs := #[.int .u8 0, .int .u8 0]) ?_ 0 _ rfl; (with_reducible repeat (first | refine blk_drewN ?_ _ | refine blk_drew ?_ | refine blk_alloc ?_ _)); exact BK277.out⟩
                                have n3_ : Aside0 (Below w.heap.size w ((w34.setCell ⟨gb277, 0, none⟩ (.int .u8 ((rd_T172 t272 x53_2).f0))).setCell ⟨gb277, 1, none⟩ (.int .u8 ((rd_T172 t272 x53_2).f1)))) := ⟨by repeat (first | (with_reducible first | exact HB.out | apply below_alloc | apply pw_below_drewN | apply below_drew1 | refine below_set ?_ GE277.out) | exact HB.out)⟩
                                (try clear HO_7)
                                (try clear HO_51)
                                (try clear BK277)
                                (try clear HB)
                                generalize ((w34.setCell ⟨gb277, 0, none⟩ (.int .u8 ((rd_T172 t272 x53_2).f0))).setCell ⟨gb277, 1, none⟩ (.int .u8 ((rd_T172 t272 x53_2).f1))) = w36 at n0_ n1_ n2_ n3_ ⊢
                                have HO_7 := n0_
                                have HO_51 := n1_
                                have BK277 := n2_
                                have HB := n3_
                                clear n0_ n1_ n2_ n3_
                                have n0_ := Aside0.mk (Kd.S_drew HO_7.out)
                                have n1_ := Aside0.mk (Kd.R_drew HO_51.out)
                                have n2_ := Aside0.mk (blk_drew BK277.out)
                                have n3_ := Aside0.mk (below_drew1 HB.out)
                                clear HO_7
                                clear HO_51
                                clear BK277
                                clear HB
                                have HO_7 := n0_
                                have HO_51 := n1_
                                have BK277 := n2_
                                have HB := n3_
                                clear n0_ n1_ n2_ n3_
                                obtain ⟨Ao38, co38, eo38⟩ := Kd.S_slice HO_7.out
                                (first | subst eo38 | (injection eo38 with f1_ f2_ f3_; have f4_ := f1_.symm; have f5_ := f3_.symm; clear f1_ f2_ f3_; subst f4_; subst f5_))
                                have p278 : 0 ≤ (x53_2 : Int) := of_decide_eq_true (by first | (with_reducible assumption) | assumption)
                                have q278 : x53_2 < (x7_2.length : Int) := of_decide_eq_true (by first | (with_reducible assumption) | assumption)
                                obtain ⟨ad278, A278_0, c278_0, e278, hx278_0, hl278_0, hi278_0⟩ := at_L1 (Kd.S_reads' HO_7.out).2.2 x53_2 p278 q278
                                cases e278
                                obtain ⟨ce278, hce278, hMe278, hcc278⟩ := Kd.S_get HO_7.out [] x53_2 p278 (by first | exact q278 | exact of_decide_eq_true (by first | (with_reducible assumption) | assumption) | (have e_ := (Kd.S_reads' HO_7.out).1; omega))
                                obtain ⟨ve278_0, rfl, ge278_0⟩ := hMe278
                                have hv278_0 := hcc278 0 _ rfl
                                rw [Nat.add_zero, show ((Kd.slice 5 (Kd.int .u8))).sz = 1 from rfl, Nat.mul_one] at hv278_0
                                replace hv278_0 := Option.some.inj (hv278_0.symm.trans hx278_0)
                                rw [hv278_0] at ge278_0
                                have HL278_0 := Aside0.mk (show Kd.R (Kd.int .u8) 5 _ _ _ _ (rd_L1 x7_2 x53_2) from ge278_0)
                                clear hv278_0 ge278_0
                                have HX278_0 := Aside0.mk hx278_0
                                clear hcc278 hce278
                                have HR278_0 := Aside0.mk hi278_0
                                have HC278_0 := Aside0.mk hl278_0
                                clear hi278_0 hl278_0
                                replace p278 := eq_true p278
                                replace q278 := eq_true q278
                                obtain ⟨go39, co39, eo39, gb39, gl39, cl39, HG39⟩ := Kd.S_form HO_7.out (by have h_ : (x53_2 : Int) < ((x7_2.length : Int) : Int) := of_decide_eq_true (by first | (with_reducible assumption) | assumption); have h2_ : 0 ≤ (x53_2 : Int) := (of_decide_eq_true (by first | (with_reducible assumption) | assumption)); omega)
                                (first | cases eo39 | (injection eo39 with ea_ en_ ec_; (first | subst ea_ | (injection ea_ with ea_; subst ea_)); subst ec_; clear en_))
                                have GB39 := Aside0.mk gb39
                                have GG39 := Aside0.mk HG39
                                clear gb39 gl39 HG39
                                (first | simp only [add_plain] at hx278_0 | skip)
                                obtain ⟨oki39, ce39, hcl39, hM39, hcc39, _, _, hH39⟩ := Kd.S_elem HO_7.out [] (x53_2 : Int) (of_decide_eq_true (by first | (with_reducible assumption) | assumption)) (by have h_ : (x53_2 : Int) < ((x7_2.length : Int) : Int) := of_decide_eq_true (by first | (with_reducible assumption) | assumption); first | exact h_ | (have e_ := (Kd.S_reads' HO_7.out).1; omega) | simpa using h_)
                                obtain ⟨ve39_0, rfl, ge39_0⟩ := hM39
                                have hv39 := hcc39 0 _ rfl
                                have hX39 := HX278_0.out
                                (try simp only [add_plain] at hX39)
                                (try simp only [Nat.add_zero] at hv39)
                                (try rw [show ((Kd.slice 5 (Kd.int .u8))).sz = 1 from rfl, Nat.mul_one] at hv39)
                                replace hv39 := Option.some.inj (hv39.symm.trans hX39)
                                subst hv39
                                clear hX39 hcc39 hcl39
                                have UU39 := Aside0.mk (show Kd.R (Kd.int .u8) 5 _ w.heap.size oki39 (.slice A278_0 (rd_L1 x7_2 x53_2).length c278_0) (rd_L1 x7_2 x53_2) from ge39_0)
                                have HH39 := Aside0.mk hH39
                                have HN39 := Aside0.mk (Kd.S_reads' HO_7.out).1
                                clear hH39 ge39_0
                                refine start_ (n := 12) (S := fun w' => w'.cell? ⟨gb277, 0, none⟩ = some (.int .u8 ((rd_T172 t272 x53_2).f0)) ∧ w'.cell? ⟨gb277, 1, none⟩ = some (.int .u8 ((rd_T172 t272 x53_2).f1)) ∧ w'.cell? ⟨go39, (x53_2).toNat, none⟩ = some (.slice A278_0 (rd_L1 x7_2 x53_2).length c278_0)) (ds := [11]) #[false, false, false, false, false, false, false, false, false, false, false, false] (by kernel_rfl) rfl rfl ⟨(blk_cell BK277.out 0).trans rfl, (blk_cell BK277.out 1).trans rfl, hx278_0⟩ (fun hHeld => ?_); refine with_tabW impl_partsFor.tab15 impl_partsFor.bits15 (fun HT_ HW_ => ?_)
                                generalize w36.drew = w37 at HO_7 HO_51 BK277 HB GG39 HH39 HL278_0 HR278_0 HX278_0 UU39 hx278_0 hHeld ⊢
                                refine pure_ (i := 0) (N := some 58) (v := ?_) (a' := ?_) #[true, false, false, false, false, false, false, false, false, false, false, false] rfl rfl (any_of HT_.out (by kernel_rfl)) (fun _ _ _ h => h) (Or.inl ⟨by rfl, ?_⟩) ?_ ?_
                                rotate_left
                                · intro w'
                                  go_simp
                                  with_reducible rfl
                                rotate_left
                                · simp only [Act.put, List.setIfInBounds_toArray, List.set_cons_zero, List.set_cons_succ, i64_w, i32_w]
                                  rfl
                                refine pure_ (i := 1) (N := some 59) (v := ?_) (a' := ?_) #[true, true, false, false, false, false, false, false, false, false, false, false] rfl rfl (any_of HT_.out (by kernel_rfl)) (fun _ _ _ h => h) (Or.inl ⟨by rfl, ?_⟩) ?_ ?_
                                rotate_left
                                · intro w'
                                  go_simp
                                  with_reducible rfl
                                rotate_left
                                · simp only [Act.put, List.setIfInBounds_toArray, List.set_cons_zero, List.set_cons_succ, i64_w, i32_w]
                                  rfl
                                refine pure_ (i := 2) (N := some 60) (v := ?_) (a' := ?_) #[true, true, true, false, false, false, false, false, false, false, false, false] rfl rfl (any_of HT_.out (by kernel_rfl)) (fun _ _ _ h => h) (Or.inl ⟨by rfl, ?_⟩) ?_ ?_
                                rotate_left
                                · intro w'
                                  go_simp
                                  with_reducible rfl
                                rotate_left
                                · simp only [Act.put, List.setIfInBounds_toArray, List.set_cons_zero, List.set_cons_succ, i64_w, i32_w]
                                  rfl
                                refine pure_ (i := 3) (N := some 61) (v := ?_) (a' := ?_) #[true, true, true, true, false, false, false, false, false, false, false, false] rfl rfl (any_of HT_.out (by kernel_rfl)) (fun _ _ _ h => h) (Or.inl ⟨by rfl, ?_⟩) ?_ ?_
                                rotate_left
                                · intro w'
                                  go_simp
                                  with_reducible rfl
                                rotate_left
                                · simp only [Act.put, List.setIfInBounds_toArray, List.set_cons_zero, List.set_cons_succ, i64_w, i32_w]
                                  rfl
                                refine pure_ (i := 4) (N := some 62) (v := ?_) (a' := ?_) #[true, true, true, true, true, false, false, false, false, false, false, false] rfl rfl (any_of HT_.out (by kernel_rfl)) (fun _ _ _ h => h) (Or.inl ⟨by rfl, ?_⟩) ?_ ?_
                                rotate_left
                                · intro w'
                                  go_simp
                                  with_reducible rfl
                                rotate_left
                                · simp only [Act.put, List.setIfInBounds_toArray, List.set_cons_zero, List.set_cons_succ, i64_w, i32_w]
                                  rfl
                                refine pure_ (i := 6) (N := some 64) (v := ?_) (a' := ?_) #[true, true, true, true, true, false, true, false, false, false, false, false] rfl rfl (any_of HT_.out (by kernel_rfl)) (fun _ _ _ h => h) (Or.inl ⟨by rfl, ?_⟩) ?_ ?_
                                rotate_left
                                · intro w'
                                  go_simp
                                  with_reducible rfl
                                rotate_left
                                · simp only [Act.put, List.setIfInBounds_toArray, List.set_cons_zero, List.set_cons_succ, i64_w, i32_w]
                                  rfl
                                refine take_ (i := 5) (N := some 63) (v := ?_) (a' := ?_) #[true, true, true, true, true, true, true, false, false, false, false, false] rfl rfl (take_ofW HT_.out HW_.out (by kernel_rfl)) (fun _ _ _ h => h) (Or.inl ⟨by rfl, ?_⟩) hHeld ?_ ?_
                                rotate_left
                                · rintro w' ⟨s0, s1, s2⟩
                                  go_simp
                                  with_reducible rfl
                                rotate_left
                                · simp only [Act.put, List.setIfInBounds_toArray, List.set_cons_zero, List.set_cons_succ, i64_w, i32_w]
                                  rfl
                                refine take_ (i := 7) (N := some 65) (v := ?_) (a' := ?_) #[true, true, true, true, true, true, true, true, false, false, false, false] rfl rfl (take_ofW HT_.out HW_.out (by kernel_rfl)) (fun _ _ _ h => h) (Or.inl ⟨by rfl, ?_⟩) hHeld ?_ ?_
                                rotate_left
                                · rintro w' ⟨s0, s1, s2⟩
                                  go_simp
                                  with_reducible rfl
                                rotate_left
                                · simp only [Act.put, List.setIfInBounds_toArray, List.set_cons_zero, List.set_cons_succ, i64_w, i32_w]
                                  rfl
                                refine one_ (i := 8) (N := some 66) #[true, true, true, true, true, true, true, true, true, false, false, false] rfl rfl (one_of HT_.out (by kernel_rfl)) (by decide) (fun K hK => ?_)
                                refine value_ (w1 := ?_) (v := ?_) (by rfl) rfl ?_ ?_
                                rotate_left 2
                                · go_simp
                                  constructor
                                  · rfl
                                  · rfl
                                refine hK.out _ _ ⟨(blk_cell (blk_alloc BK277.out _) 0).trans rfl, (blk_cell (blk_alloc BK277.out _) 1).trans rfl, (World.cell?_alloc_lt _ _ _ (World.block_lt_of_cell? _ _ (hHeld.2.2))).trans (hHeld.2.2)⟩ (fun hHeld => ?_)
                                clear hK K
                                refine norm_ (a' := ?_) ?_ ?_
                                rotate_left
                                · show Act.put _ (some 66) _ = _
                                  simp only [Act.put, List.setIfInBounds_toArray, List.set_cons_zero, List.set_cons_succ, i64_w, i32_w]
                                  rfl
                                refine one_ (i := 9) (N := some 67) #[true, true, true, true, true, true, true, true, true, true, false, false] rfl rfl (one_of HT_.out (by kernel_rfl)) (by decide) (fun K hK => ?_)
                                refine Kd.R_append_step (Kd.int .u8) (w0 := w) w.heap.size (by rfl) (.tmp 63) (.tmp 66) 22 5 (.int .u8 0) 1 rfl Try.underlying22 info5 rfl (by decide) (by omega) (.slice A278_0 (rd_L1 x7_2 x53_2).length c278_0) (rd_L1 x7_2 x53_2) ((rd_T172 t272 x53_2).f1) [.int .u8 ((rd_T172 t272 x53_2).f1)] (fun k_ => oki39 k_ ∨ ((fun _ => True)) k_ ∧ w37.heap.size ≤ k_) (fun _ => False) rfl rfl ?aP (fun _ hk => hk.elim) ?aF ?aO ?aB ?aS ?aL ?_
                                (case aP => exact rfl)
                                (case aB => exact (by repeat (first | (with_reducible first | exact HB.out | apply below_alloc | apply pw_below_drewN | apply below_drew1 | refine below_set ?_ GE277.out) | exact HB.out)))
                                (case aF => exact (fun k_ hk => .inr ⟨trivial, hk⟩))
                                (case aO => exact (by (with_reducible repeat (first | apply Kd.R_alloc | apply Kd.R_drewN | apply Kd.R_drew)); exact Kd.R_mono UU39.out (fun _ hk => .inl hk)))
                                (case aS => exact (below_size (by repeat (first | (with_reducible first | exact HB.out | apply below_alloc | apply pw_below_drewN | apply below_drew1 | refine below_set ?_ GE277.out) | exact HB.out))))
                                (case aL => have := LMc32.out; omega)
                                intro v280 w40 ho hb hg hat
                                (first | have HS2_ := cell_grown hg (hHeld.2.2) (by first | (rw [add_block]; exact (fun e_ => ((HL278_0.out.1 _ e_.symm).2) rfl)) | (show some (Addr.add _ _).block ≠ _; rw [add_block]; exact (fun e_ => ((HL278_0.out.1 _ e_.symm).2) rfl)) | exact (fun e_ => ((HL278_0.out.1 _ e_.symm).2) rfl)) | have HS2_ := cell_grown hg (cell_unalloc (hHeld.2.2) (by first | (rw [add_block]; exact Kd.S_lt HO_7.out _ rfl) | (show (Addr.add _ _).block < _; rw [add_block]; exact Kd.S_lt HO_7.out _ rfl) | exact Kd.S_lt HO_7.out _ rfl)) (by first | (rw [add_block]; exact (fun e_ => ((HL278_0.out.1 _ e_.symm).2) rfl)) | (show some (Addr.add _ _).block ≠ _; rw [add_block]; exact (fun e_ => ((HL278_0.out.1 _ e_.symm).2) rfl)) | exact (fun e_ => ((HL278_0.out.1 _ e_.symm).2) rfl)))
                                rw [← Ny279.out] at ho
                                have n0_ := Aside0.mk (Kd.R_over' (v := (.slice A278_0 (rd_L1 x7_2 x53_2).length c278_0)) (by (with_reducible repeat (first | apply Kd.R_alloc | apply Kd.R_drewN | apply Kd.R_drew)); exact HO_51.out) (Kd.R_typed HL278_0.out) (by decide) hg)
                                have n1_ := Aside0.mk (blk_grown (g := gb277) (o := .cells #[.int .u8 ((rd_T172 t272 x53_2).f0), .int .u8 ((rd_T172 t272 x53_2).f1)] 172 (0, 0)) (by (with_reducible repeat (first | refine blk_drewN ?_ _ | refine blk_drew ?_ | refine blk_alloc ?_ _)); exact BK277.out) hg (Kd.R_ne HL278_0.out BK277.out (by decide)))
                                have n2_ := Aside0.mk (hb)
                                have n3_ := Aside0.mk (Kd.H_grown (Kd.H_widen (by repeat (first | exact HH39.out | refine Kd.H_alloc ?_ _ | refine Kd.H_drewN ?_ _ | refine Kd.H_drew ?_))) hg (fun k_ e_ => .inl (UU39.out.1 k_ e_)))
                                have n4_ := Aside0.mk (ho)
                                clear HO_51
                                clear BK277
                                clear HB
                                clear HH39
                                clear HO_7
                                clear UU39
                                clear HL278_0
                                have HO_51 := n0_
                                have BK277 := n1_
                                have HB := n2_
                                have HH39 := n3_
                                have HO281 := n4_
                                clear n0_ n1_ n2_ n3_ n4_
                                clear ho hb hg hat
                                have p33 : 0 ≤ (x53_2 : Int) := of_decide_eq_true (by first | (with_reducible assumption) | assumption)
                                have q33 : (x53_2 : Int) < ((x7_2.length : Int) : Int) := of_decide_eq_true (by first | (with_reducible assumption) | assumption)
                                replace p33 := eq_true p33
                                replace q33 := eq_true q33
                                obtain ⟨Ao43, co43, eo43⟩ := Kd.R_slice HO281.out
                                (first | subst eo43 | (injection eo43 with f1_ f2_ f3_; have f4_ := f1_.symm; have f5_ := f3_.symm; clear f1_ f2_ f3_; subst f4_; subst f5_))
                                obtain ⟨_, _, hraw41, _, _, hcc41, _⟩ := Kd.H_raw HH39.out (of_decide_eq_true (by first | (with_reducible assumption) | assumption)) (by have h_ : (x53_2 : Int) < ((x7_2.length : Int) : Int) := of_decide_eq_true (by first | (with_reducible assumption) | assumption); first | exact h_ | (have e_ := (HN39.out); omega) | simpa using h_)
                                obtain ⟨_, hfr41⟩ := Kd.H_at HH39.out (of_decide_eq_true (by first | (with_reducible assumption) | assumption)) (by have h_ : (x53_2 : Int) < ((x7_2.length : Int) : Int) := of_decide_eq_true (by first | (with_reducible assumption) | assumption); first | exact h_ | (have e_ := (HN39.out); omega) | simpa using h_)
                                have hx41_0 := hcc41 0 _ rfl
                                have hf41_0 := hfr41 0
                                (try simp only [Nat.add_zero] at hx41_0 hf41_0)
                                (try rw [show ((Kd.slice 5 (Kd.int .u8))).sz = 1 from rfl, Nat.mul_one] at hx41_0)
                                (try rw [show ((Kd.slice 5 (Kd.int .u8))).sz = 1 from rfl, Nat.mul_one] at hf41_0)
                                have HP41 := Kd.S_seg0 HH39.out (of_decide_eq_true (by first | (with_reducible assumption) | assumption)) (by have h_ : (x53_2 : Int) < ((x7_2.length : Int) : Int) := of_decide_eq_true (by first | (with_reducible assumption) | assumption); first | exact h_ | (have e_ := (HN39.out); omega) | simpa using h_) (seg := [.slice Ao43 y279.length co43]) (j := 0) (show 1 ≤ 1 from by decide) (x' := y279) (Kd.M_row HO281.out) (fun _ hk => hk)
                                (try simp only [show ((Kd.slice 5 (Kd.int .u8))).sz = 1 from rfl, Nat.mul_one, Nat.add_zero] at HP41)
                                clear hcc41 hfr41
                                have HNB277_go39 := Aside0.mk (show gb277 ≠ go39 from by have h_ := Kd.R_ne hraw41 BK277.out (by decide); intro e_; exact h_ (by rw [e_]; rfl))
                                have HS41 := HP41.1
                                rw [← Ny282.out] at HS41
                                have HQ41 := Aside0.mk HS41
                                obtain ⟨_, hgg41⟩ := Kd.R_typed hraw41 go39 rfl
                                have GG41_ := Aside0.mk hgg41
                                clear HP41 HS41 hgg41
                                refine hK.out _ _ ⟨(blk_cell BK277.out 0).trans rfl, (blk_cell BK277.out 1).trans rfl, HS2_⟩ (fun hHeld => ?_)
                                clear hK K
                                refine norm_ (a' := ?_) ?_ ?_
                                rotate_left
                                · show Act.put _ (some 67) _ = _
                                  simp only [Act.put, List.setIfInBounds_toArray, List.set_cons_zero, List.set_cons_succ, i64_w, i32_w]
                                  rfl
                                refine pure_ (i := 10) (N := some 68) (v := ?_) (a' := ?_) #[true, true, true, true, true, true, true, true, true, true, true, false] rfl rfl (any_of HT_.out (by kernel_rfl)) (fun _ _ _ h => h) (Or.inl ⟨by rfl, ?_⟩) ?_ ?_
                                rotate_left
                                · intro w'
                                  go_simp
                                  with_reducible rfl
                                rotate_left
                                · simp only [Act.put, List.setIfInBounds_toArray, List.set_cons_zero, List.set_cons_succ, i64_w, i32_w]
                                  rfl
                                refine last_ (i := 11) (N := none) #[true, true, true, true, true, true, true, true, true, true, true, true] rfl rfl (one_of HT_.out (by kernel_rfl)) (by decide) (fun K hK => ?_)
                                refine skip_ (w1 := ?_) (by rfl) rfl ?_ ?_
                                rotate_left
                                · go_simp
                                  rfl
                                refine hK.out _ _ ?_
                                clear hK K
                                refine done_ (done_of HT_.out (by kernel_rfl)) ?_
                                try go_wp2
                                go_roundg k2
                                case measure => have := HK1.out; have := HK2.out; omega
                                case rel => exact ⟨(y282), (wrap64 (x53_2 + 1)), (by first | rfl | (simp; done) | (simp [*]; done)), H', ⟨by have := HK1.out; have := HK2.out; omega⟩, ⟨by (with_reducible repeat (first | apply Kd.S_alloc | apply Kd.S_drewN | apply Kd.S_drew)); exact HQ41.out⟩, ⟨by (with_reducible repeat (first | apply Kd.R_alloc | apply Kd.R_drewN | apply Kd.R_drew)); exact Kd.R_mono (Kd.R_far (p := ⟨go39, (x53_2 : Int).toNat, none⟩) (Kd.R_types HO_51.out GG41_.out (by decide)) (fun _ hk => hk.2) (.slice Ao43 y279.length co43)) (fun _ hk => trivial)⟩, ⟨by repeat (first | (with_reducible first | exact HB.out | apply below_alloc | apply pw_below_drewN | apply below_drew1 | refine below_set ?_ GB39.out | refine below_set ?_ GE277.out) | exact HB.out)⟩⟩
                              · rw [if_neg c32] at H
                                exact absurd H (by simp)
                            · rw [if_neg c31] at H
                              exact absurd H (by simp)
                          · rw [if_neg c30] at H
                            exact absurd H (by simp)
                        · rw [if_neg c29] at H
                          exact absurd H (by simp)
                      · rw [if_neg c28] at H
                        have c28b0 : decide (x53_2 < (t272.length : Int)) = false := decide_eq_false c28
                        clear c28
                        have H' := Aside0.mk H
                        clear H
                        go_wp2
                        go_roundg k2
                        case measure => have := HK1.out; have := HK2.out; omega
                        case rel => exact ⟨(x7_2), (wrap64 (x36_1 + 1)), (by first | rfl | (simp; done) | (simp [*]; done)), H', ⟨by have := HK1.out; have := HK2.out; omega⟩, ⟨by (with_reducible repeat (first | apply Kd.S_alloc | apply Kd.S_drewN | apply Kd.S_drew)); exact HO_7.out⟩, ⟨by repeat (first | (with_reducible first | exact HB.out | apply below_alloc | apply pw_below_drewN | apply below_drew1) | exact HB.out)⟩⟩
                · rw [if_neg c20] at H
                  exact absurd H (by simp)
              · rw [if_neg c19] at H
                exact absurd H (by simp)
            · rw [if_neg c18] at H
              have c18b0 : decide (x36_1 < (a0.size : Int)) = false := decide_eq_false c18
              clear c18
              obtain ⟨y283, hy283⟩ : ∃ y_ : List ByteArray, y_ = (([] : List ByteArray)) := ⟨_, rfl⟩
              replace H : (impl_partsFor.l2 k1 y283 x7_1 (x7_1.length : Int) 0) = some r := by first | (rw [hy283]; with_reducible exact H) | (have H2_ := (Option.bind_some _ _).symm.trans H; rw [hy283]; with_reducible exact H2_) | (have H2_ := (Option.bind_some _ _).symm.trans H; with_reducible exact H2_) | with_reducible exact H | (rw [hy283]; exact H) | exact H
              have Ny283 := Aside0.mk hy283
              clear hy283
              have H' := Aside0.mk H
              clear H
              go_wp2_with (first | ((with_reducible refine gate_dst (N := 71) rfl ?_); refine Kd.R_lit Kd.string _ 9 ?hg (N := 71) ?hd (xs := ([] : List ByteArray)) (inner := []) (ok := fun _ => True) (okp := fun _ => True) ?hr ?hp (fun _ hk => hk) trivial (Below.refl _ _) (Nat.le_refl _) (by simp) ?_; (case hd => rfl); (case hg => rfl); (case hr => first | (go_simp; done) | (go_simp; rfl)); (case hp => exact (Reps.none _ _)); intro v284 w44 ho45 hb hg_ hnew_; clear hg_ hnew_; (first | rw [← Ny283.out] at ho45 | (simp only [Int.reduceToNat] at ho45; rw [← Ny283.out] at ho45)); have n0_ := Aside0.mk (Kd.S_below (by (with_reducible repeat (first | apply Kd.S_alloc | apply Kd.S_drewN | apply Kd.S_drew)); exact HO_7.out) hb); have n1_ := Aside0.mk (Kd.R_lower ho45 (below_size (by repeat (first | (with_reducible first | exact HB.out | apply below_alloc | apply pw_below_drewN | apply below_drew1) | exact HB.out)))); have n2_ := Aside0.mk (below_step (by repeat (first | (with_reducible first | exact HB.out | apply below_alloc | apply pw_below_drewN | apply below_drew1) | exact HB.out)) hb); clear HO_7; clear HB; have HO_7 := n0_; have HO285 := n1_; have HB := n2_; clear n0_ n1_ n2_; clear hb ho45; obtain ⟨Ao46, co46, eo46⟩ := Kd.S_slice HO_7.out; subst eo46))
              go_loopg [13, 74] k1 (fun kq v13 v74 w' => ∃ (x13_2 : List ByteArray) (x74_2 : Int), v74 = .int .i64 x74_2 ∧ Aside0 (impl_partsFor.l2 kq x13_2 x7_1 (x7_1.length : Int) x74_2 = some r) ∧ Aside0 (kq ≤ k1) ∧ Aside0 (Kd.R Kd.string 9 w' w.heap.size (fun _ => True) v13 x13_2) ∧ Aside0 (Kd.S (Kd.slice 5 (Kd.int .u8)) 22 w' w.heap.size (fun _ => True) (.slice Ao46 x7_1.length co46) x7_1) ∧ Aside0 (Below w.heap.size w w'))
              case atStart => exact ⟨(y283), (0), (by first | rfl | (simp; done) | (simp [*]; done)), H', ⟨Nat.le_refl _⟩, ⟨by (with_reducible repeat (first | apply Kd.R_alloc | apply Kd.R_drewN | apply Kd.R_drew)); exact HO285.out⟩, ⟨by (with_reducible repeat (first | apply Kd.S_alloc | apply Kd.S_drewN | apply Kd.S_drew)); exact HO_7.out⟩, ⟨by repeat (first | (with_reducible first | exact HB.out | apply below_alloc | apply pw_below_drewN | apply below_drew1) | exact HB.out)⟩⟩
              case round =>
                clear H'
                try clear c1
                try clear c2
                try clear p2
                try clear q2
                try clear hx2
                try clear c3
                try clear c3b0
                try clear c3b1
                try clear p3
                try clear q3
                try clear c4
                try clear hx4
                try clear hf4
                try clear c6
                try clear c6b0
                try clear c6b1
                try clear p6
                try clear c7
                try clear c9
                try clear c10
                try clear c13
                try clear c15
                try clear c15b0
                try clear c15b1
                try clear c18
                try clear c18b0
                try clear c19
                try clear c19b0
                try clear c20
                try clear c20b0
                try clear p21
                try clear q21
                try clear hx21
                try clear c27
                try clear p27
                try clear q27
                try clear hx27
                try clear c28
                try clear c28b0
                try clear c29
                try clear c29b0
                try clear c30
                try clear c30b0
                try clear c31
                try clear c31b0
                try clear c32
                try clear p33
                try clear q33
                try clear c39
                try clear c41
                try clear hx41
                try clear hf41
                try clear hcz35_0
                try clear hcz35_1
                try clear hfz35_0
                try clear hfz35_1
                try clear hx276_0
                try clear hx276_1
                try clear hx278_0
                try clear hx41_0
                try clear p2
                try clear p21
                try clear p276
                try clear p278
                try clear p33
                try clear p6
                try clear q2
                try clear q21
                try clear q276
                try clear q278
                try clear q33
                obtain ⟨x13_2, x74_2, rfl, HA, HK2, HO_13, HO_72, HB⟩ := hrel
                cases gk with
                | zero => exact absurd HA.out (by simp [impl_partsFor.l2])
                | succ k2 =>
                  have H := HA.out
                  clear HA
                  simp only [impl_partsFor.l2] at H
                  by_cases c47 : x74_2 < (x7_1.length : Int)
                  · rw [if_pos c47] at H
                    have c47b0 : decide (x74_2 < (x7_1.length : Int)) = true := decide_eq_true c47
                    clear c47
                    by_cases c48 : 0 ≤ x74_2
                    · rw [if_pos c48] at H
                      have c48b0 : decide (0 ≤ x74_2) = true := decide_eq_true c48
                      clear c48
                      by_cases c49 : x74_2 < (x7_1.length : Int)
                      · rw [if_pos c49] at H
                        have c49b0 : decide (x74_2 < (x7_1.length : Int)) = true := decide_eq_true c49
                        clear c49
                        by_cases c50 : x13_2.length < 8796093022208
                        · rw [if_pos c50] at H
                          have LMc50 := Aside0.mk c50
                          clear c50
                          obtain ⟨y287, hy287⟩ : ∃ y_ : List ByteArray, y_ = (x13_2 ++ [strOfNums (rd_L1 x7_1 x74_2)]) := ⟨_, rfl⟩
                          replace H : (impl_partsFor.l2 k2 y287 x7_1 (x7_1.length : Int) (wrap64 (x74_2 + 1))) = some r := by first | (rw [hy287]; with_reducible exact H) | (have H2_ := (Option.bind_some _ _).symm.trans H; rw [hy287]; with_reducible exact H2_) | (have H2_ := (Option.bind_some _ _).symm.trans H; with_reducible exact H2_) | with_reducible exact H | (rw [hy287]; exact H) | exact H
                          have Ny287 := Aside0.mk hy287
                          clear hy287
                          have H' := Aside0.mk H
                          clear H
                          have p286 : 0 ≤ (x74_2 : Int) := of_decide_eq_true (by first | (with_reducible assumption) | assumption)
                          have q286 : x74_2 < (x7_1.length : Int) := of_decide_eq_true (by first | (with_reducible assumption) | assumption)
                          obtain ⟨ad286, A286_0, c286_0, e286, hx286_0, hl286_0, hi286_0⟩ := at_L1 (Kd.S_reads' HO_72.out).2.2 x74_2 p286 q286
                          cases e286
                          obtain ⟨ce286, hce286, hMe286, hcc286⟩ := Kd.S_get HO_72.out [] x74_2 p286 (by first | exact q286 | exact of_decide_eq_true (by first | (with_reducible assumption) | assumption) | (have e_ := (Kd.S_reads' HO_72.out).1; omega))
                          obtain ⟨ve286_0, rfl, ge286_0⟩ := hMe286
                          have hv286_0 := hcc286 0 _ rfl
                          rw [Nat.add_zero, show ((Kd.slice 5 (Kd.int .u8))).sz = 1 from rfl, Nat.mul_one] at hv286_0
                          replace hv286_0 := Option.some.inj (hv286_0.symm.trans hx286_0)
                          rw [hv286_0] at ge286_0
                          have HL286_0 := Aside0.mk (show Kd.R (Kd.int .u8) 5 _ _ _ _ (rd_L1 x7_1 x74_2) from ge286_0)
                          clear hv286_0 ge286_0
                          have HX286_0 := Aside0.mk hx286_0
                          clear hcc286 hce286
                          have HR286_0 := Aside0.mk hi286_0
                          have HC286_0 := Aside0.mk hl286_0
                          clear hi286_0 hl286_0
                          replace p286 := eq_true p286
                          replace q286 := eq_true q286
                          have hcv51 := Kd.C_string (P := Try.prog) (A := A286_0) (c := c286_0) Try.underlying22 Try.underlying5 Try.underlying9 (by repeat (first | (with_reducible exact HR286_0.out) | (with_reducible refine Kd.C_alloc ?_ _) | (with_reducible refine Kd.C_drewN ?_ _) | (with_reducible refine Kd.C_drew ?_) | exact HR286_0.out))
                          go_wp2_with (first | ((with_reducible refine gate_builtin (b := .append) (xs := #[.tmp 78, .tmp 81]) rfl ?_); at_builtin; refine Kd.R_append Kd.string (w0 := w) w.heap.size rfl (.tmp 78) (.tmp 81) 23 9 (.string ⟨#[]⟩) 16 rfl Try.underlying23 info9 rfl (by decide) (by omega) u13 x13_2 (strOfNums (rd_L1 x7_1 x74_2)) [.string (strOfNums (rd_L1 x7_1 x74_2))] (fun _ => True) (fun _ => False) rfl rfl ?aP (fun _ hk => hk.elim) ?aF ?aO ?aB ?aS ?aL ?_; (case aP => exact rfl); (case aB => exact (by repeat (first | (with_reducible first | exact HB.out | apply below_alloc | apply pw_below_drewN | apply below_drew1) | exact HB.out))); (case aF => exact (fun _ _ => trivial)); (case aO => exact (by (with_reducible repeat (first | apply Kd.R_alloc | apply Kd.R_drewN | apply Kd.R_drew)); exact HO_13.out)); (case aS => exact (below_size (by repeat (first | (with_reducible first | exact HB.out | apply below_alloc | apply pw_below_drewN | apply below_drew1) | exact HB.out)))); (case aL => have := LMc50.out; omega); intro v288 w52 ho hb hg hat; rw [← Ny287.out] at ho; have n0_ := Aside0.mk (Kd.S_over' (by (with_reducible repeat (first | apply Kd.S_alloc | apply Kd.S_drewN | apply Kd.S_drew)); exact HO_72.out) (Kd.R_typed (by (with_reducible repeat (first | apply Kd.R_alloc | apply Kd.R_drewN | apply Kd.R_drew)); exact HO_13.out)) (by decide) hg); have n1_ := Aside0.mk (Kd.R_over' (by (with_reducible repeat (first | apply Kd.R_alloc | apply Kd.R_drewN | apply Kd.R_drew)); exact HL286_0.out) (Kd.R_typed (by (with_reducible repeat (first | apply Kd.R_alloc | apply Kd.R_drewN | apply Kd.R_drew)); exact HO_13.out)) (by decide) hg); have n2_ := Aside0.mk (hb); have n3_ := Aside0.mk (ho); clear HO_72; clear HL286_0; clear HB; clear HO_13; have HO_72 := n0_; have HL286_0 := n1_; have HB := n2_; have HO289 := n3_; clear n0_ n1_ n2_ n3_; clear ho hb hg hat))
                          go_roundg k2
                          case measure => have := HK1.out; have := HK2.out; omega
                          case rel => exact ⟨(y287), (wrap64 (x74_2 + 1)), (by first | rfl | (simp; done) | (simp [*]; done)), H', ⟨by have := HK1.out; have := HK2.out; omega⟩, ⟨by (with_reducible repeat (first | apply Kd.R_alloc | apply Kd.R_drewN | apply Kd.R_drew)); exact HO289.out⟩, ⟨by (with_reducible repeat (first | apply Kd.S_alloc | apply Kd.S_drewN | apply Kd.S_drew)); exact HO_72.out⟩, ⟨by repeat (first | (with_reducible first | exact HB.out | apply below_alloc | apply pw_below_drewN | apply below_drew1) | exact HB.out)⟩⟩
                        · rw [if_neg c50] at H
                          exact absurd H (by simp)
                      · rw [if_neg c49] at H
                        exact absurd H (by simp)
                    · rw [if_neg c48] at H
                      exact absurd H (by simp)
                  · rw [if_neg c47] at H
                    have c47b0 : decide (x74_2 < (x7_1.length : Int)) = false := decide_eq_false c47
                    clear c47
                    obtain rfl := Option.some.inj H
                    go_wp2
                    go_ret
                    exact ⟨_, by first | rfl | (simp [errW_none, errW_some] <;> rfl) | (simp [*, errW_none, errW_some] <;> rfl), by (with_reducible repeat (first | apply Kd.R_alloc | apply Kd.R_drewN | apply Kd.R_drew)); exact HO_13.out, by repeat (first | (with_reducible first | exact HB.out | apply below_alloc | apply pw_below_drewN | apply below_drew1) | exact HB.out)⟩
      · rw [if_neg c15] at H
        exact absurd H (by simp)

/-! ### impl_PartsFor: function 46 -/
def impl_PartsFor.f (k : Nat) (a0 : ByteArray) (a1 : Int) : Option (List ByteArray × Bool) := if (a0.size : Int) > 60 then (some (([] : List ByteArray), false)) else ((impl_isTier.f a1).bind fun t290 => (if t290 = true then ((impl_partsFor.f k a0 a1).bind fun t291 => (some (t291, true))) else (some (([] : List ByteArray), false))))
theorem impl_PartsFor.mono : ∀ a0 a1 k, LeO (impl_PartsFor.f k a0 a1) (impl_PartsFor.f (k + 1) a0 a1) := by
  intro a0 a1 k
  unfold impl_PartsFor.f
  repeat' first
      | (with_reducible exact impl_partsFor.mono _ _ _)
      | (with_reducible exact LeO.refl _)
      | (with_reducible exact LeO.none _)
      | (with_reducible refine LeO.ite ?_ ?_)
      | (with_reducible refine LeO.bind ?_ (fun _ => ?_))
      | exact impl_partsFor.mono _ _ _
      | exact LeO.none _
      | refine LeO.ite ?_ ?_
      | refine LeO.bind ?_ (fun _ => ?_)
set_option maxHeartbeats 8000000 in
set_option maxRecDepth 100000 in
theorem impl_PartsFor.calls (k : Nat) (a0 : ByteArray) (a1 : Int) (r1 : List ByteArray) (r2 : Bool) (w : World) (h : impl_PartsFor.f k a0 a1 = some (r1, r2)) :
    Calls Try.prog 46 #[.string a0, .int .i64 a1] w fun e w' => ∃ v0_ : Value, e = .returned (.tuple #[v0_, .bool r2]) ∧ Kd.R Kd.string 9 w' w.heap.size (fun _ => True) v0_ r1 ∧ Below w.heap.size w w' := by
  have HB := Aside0.mk (Below.refl w.heap.size w)
  have H : (if (a0.size : Int) > 60 then (some (([] : List ByteArray), false)) else ((impl_isTier.f a1).bind fun t290 => (if t290 = true then ((impl_partsFor.f k a0 a1).bind fun t291 => (some (t291, true))) else (some (([] : List ByteArray), false))))) = some (r1, r2) := h
  clear h
  by_cases c3 : (a0.size : Int) > 60
  · rw [if_pos c3] at H
    have c3b0 : decide (60 < (a0.size : Int)) = true := decide_eq_true c3
    have c3b1 : decide (60 < a0.size) = true := decide_eq_true (by omega)
    clear c3
    simp only [Option.some.injEq, Prod.mk.injEq] at H
    obtain ⟨rfl, rfl⟩ := H
    go_enter Try.func46, Try.ntmps46
    go_wp2
    go_ret2
    exact ⟨_, by first | rfl | (simp [errW_none, errW_some] <;> rfl) | (simp [*, errW_none, errW_some] <;> rfl), by first | exact Kd.R_nil _ _ _ _ _ | exact Kd.N_nil _ _ _ _ _ | exact Kd.V_nil _ _ _ _ _ | exact Kd.Q_nil _ _ _ _ _ | exact Kd.S_nil _ _ _ _ _, by repeat (first | (with_reducible first | exact HB.out | apply below_alloc | apply pw_below_drewN | apply below_drew1) | exact HB.out)⟩
  · rw [if_neg c3] at H
    have c3b0 : decide (60 < (a0.size : Int)) = false := decide_eq_false c3
    have c3b1 : decide (60 < a0.size) = false := decide_eq_false (by omega)
    clear c3
    replace H := Option.bind_eq_some_iff.mp H
    obtain ⟨t290, A40, H⟩ := H
    replace H : (if t290 = true then ((impl_partsFor.f k a0 a1).bind fun t291 => (some (t291, true))) else (some (([] : List ByteArray), false))) = some (r1, r2) := H
    have A4 := Aside0.mk A40
    clear A40
    by_cases c5 : t290 = true
    · subst c5
      have H1 : ((impl_partsFor.f k a0 a1).bind fun t291 => (some (t291, true))) = some (r1, r2) := by rw [if_pos rfl] at H; exact H
      clear H
      have H := H1
      clear H1
      replace H := Option.bind_eq_some_iff.mp H
      obtain ⟨t291, A60, H⟩ := H
      replace H : (some (t291, true)) = some (r1, r2) := H
      have A6 := Aside0.mk A60
      clear A60
      simp only [Option.some.injEq, Prod.mk.injEq] at H
      obtain ⟨rfl, rfl⟩ := H
      go_enter Try.func46, Try.ntmps46
      go_wp2_with (first | (go_at_call 129; (with_reducible refine (impl_isTier.calls a1 true _ A4.out).mono ?_); rintro e w' ⟨rfl, ⟨nd, rfl⟩⟩) | ((with_reducible refine gate_callee (f := 130) rfl ?_); refine goesL_ (some 16) rfl rfl Try.func130 (by kernel_rfl) rfl #[.string a0, .int .i64 a1] rfl (by (try simp only [List.map_toArray, List.map_cons, List.map_nil]); first | done | rfl | (simp only [List.length_drop, List.length_take]; rfl)) ?_; (with_reducible refine (impl_partsFor.calls k a0 a1 t291 _ A6.out).mono ?_); rintro e w7 ⟨v292, rfl, ho0, hb⟩; refine ⟨_, rfl, ?_⟩; have n0_ := Aside0.mk (Kd.R_lower ho0 (below_size (by repeat (first | (with_reducible first | exact HB.out | apply below_alloc | apply pw_below_drewN | apply below_drew1) | exact HB.out)))); have n1_ := Aside0.mk (below_step (by repeat (first | (with_reducible first | exact HB.out | apply below_alloc | apply pw_below_drewN | apply below_drew1) | exact HB.out)) hb); clear HB; have HO293 := n0_; have HB := n1_; clear n0_ n1_; (try clear hb); (try clear hb2); (try clear hk); (try clear hi); (try clear ho0)))
      go_ret2
      exact ⟨_, by first | rfl | (simp [errW_none, errW_some] <;> rfl) | (simp [*, errW_none, errW_some] <;> rfl), by (with_reducible repeat (first | apply Kd.R_alloc | apply Kd.R_drewN | apply Kd.R_drew)); exact HO293.out, by repeat (first | (with_reducible first | exact HB.out | apply below_alloc | apply pw_below_drewN | apply below_drew1) | exact HB.out)⟩
    · replace c5 := Bool.eq_false_iff.mpr c5
      subst c5
      have H1 : (some (([] : List ByteArray), false)) = some (r1, r2) := by rw [if_neg (show ¬ (false = true) by decide)] at H; exact H
      clear H
      have H := H1
      clear H1
      simp only [Option.some.injEq, Prod.mk.injEq] at H
      obtain ⟨rfl, rfl⟩ := H
      go_enter Try.func46, Try.ntmps46
      go_wp2_with (first | (go_at_call 129; (with_reducible refine (impl_isTier.calls a1 false _ A4.out).mono ?_); rintro e w' ⟨rfl, ⟨nd, rfl⟩⟩))
      go_ret2
      exact ⟨_, by first | rfl | (simp [errW_none, errW_some] <;> rfl) | (simp [*, errW_none, errW_some] <;> rfl), by first | exact Kd.R_nil _ _ _ _ _ | exact Kd.N_nil _ _ _ _ _ | exact Kd.V_nil _ _ _ _ _ | exact Kd.Q_nil _ _ _ _ _ | exact Kd.S_nil _ _ _ _ _, by repeat (first | (with_reducible first | exact HB.out | apply below_alloc | apply pw_below_drewN | apply below_drew1) | exact HB.out)⟩

end Go.Proofs.Ytgdjjghdjpaofaa.PFnExactPartsFor

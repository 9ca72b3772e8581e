/- What the functions that FnExactUnpackBits reaches compute, each as a Lean function, with the proof that the Go code computes it (written by our driver round the kit's printer, partly by hand). No conditions. -/
import Derived.Test.YtldnpigmdaabgaaPFnExactUnpackBitsx0
import Derived.Test.YtldnpigmdaabgaaPFnExactUnpackBitsx1
namespace Go.Proofs.Ytldnpigmdaabgaa.PFnExactUnpackBits
open Go.RowKit Go.Proofs.YtldnpigmdaabgaaW.PrintWords Go.Proofs.YtldnpigmdaabgaaW.PrintLast Go.Proofs.YtldnpigmdaabgaaW.PrintMore
attribute [local go_sem] max2_int min2_int max_two min_two max_three min_three max_four min_four   -- for this text's walks alone
set_option linter.unusedVariables false
set_option linter.unusedSimpArgs false

/-! ### impl_UnpackBits: function 5 -/
/-- Bit i of the bytes, as the code reads it. -/
def impl_UnpackBits.bit (s : ByteArray) (i : Nat) : Bool := if h : i / 8 < s.size then Go.bits .and .u8 (((s[i / 8]'h).toNat : Int) / 2 ^ (7 - i % 8)) 1 == 1 else false
def impl_UnpackBits.bits (s : ByteArray) (n : Nat) : List UInt8 := (List.range n).map fun i => if impl_UnpackBits.bit s i then 49 else 48
def impl_UnpackBits.f (k : Nat) (a0 : ByteArray) (a1 : Int) : Option (ByteArray × Bool) :=
  if 0 ≤ a1 ∧ a1 ≤ 4000 ∧ (a0.size : Int) = (a1 + 7) / 8 then
    (impl_packBits.f k ⟨(impl_UnpackBits.bits a0 a1.toNat).toArray⟩).bind fun t => if t.toList = a0.toList then some (⟨(impl_UnpackBits.bits a0 a1.toNat).toArray⟩, true) else some (⟨#[]⟩, false)
  else some (⟨#[]⟩, false)
theorem within_yes (a b c : Int) (w : World) (h0 : b ≤ a) (h1 : a ≤ c) : Calls Try.prog 8 #[.int .i64 a, .int .i64 b, .int .i64 c] w fun e w' => e = .returned (.bool true) ∧ Drawn0 w w' :=
  impl_within.calls a b c true w (by unfold impl_within.f; rw [if_pos h0]; simp [h1])

set_option maxHeartbeats 1000000 in
set_option maxRecDepth 100000 in
theorem unpack_no (a0 : ByteArray) (a1 : Int) (w : World) (h : ¬ (0 ≤ a1 ∧ a1 ≤ 4000 ∧ (a0.size : Int) = (a1 + 7) / 8)) :
    Calls Try.prog 5 #[.string a0, .int .i64 a1] w fun e w' => e = .returned (.tuple #[.string ⟨#[]⟩, .bool false]) ∧ Below w.heap.size w w' := by
  by_cases h1 : 0 ≤ a1 ∧ a1 ≤ 4000
  · have hs : ((a0.size : Int) != (a1 + 7) / 8) = true := by simp; omega
    obtain ⟨h1, h2⟩ := h1
    clear h
    have hc := within_yes a1 0 4000
    go_enter Try.func5, Try.ntmps5
    go_wp2_with (first | (go_at_call 8; refine (within_yes a1 0 4000 _ h1 h2).mono ?_; rintro e w' ⟨rfl, ⟨nd, rfl⟩⟩))
    go_ret2
    exact ⟨rfl, by repeat (first | exact Below.refl _ _ | apply below_alloc | apply pw_below_drewN | apply below_drew1)⟩
  · have hc : ∀ w, Calls Try.prog 8 #[.int .i64 a1, .int .i64 0, .int .i64 4000] w fun e w' => e = .returned (.bool false) ∧ Drawn0 w w' := fun w =>
      impl_within.calls a1 0 4000 false w (by unfold impl_within.f; split <;> simp; omega)
    clear h h1
    go_enter Try.func5, Try.ntmps5
    go_wp2_with (first | (go_at_call 8; refine (hc _).mono ?_; rintro e w' ⟨rfl, ⟨nd, rfl⟩⟩))
    go_ret2
    exact ⟨rfl, by repeat (first | exact Below.refl _ _ | apply below_alloc | apply pw_below_drewN | apply below_drew1)⟩

theorem bits_succ (a0 : ByteArray) (i : Nat) : impl_UnpackBits.bits a0 (i + 1) = impl_UnpackBits.bits a0 i ++ [if impl_UnpackBits.bit a0 i then 49 else 48] := by
  unfold impl_UnpackBits.bits; rw [List.range_succ, List.map_append]; rfl
theorem cells_succ (a0 : ByteArray) (i : Nat) (c : UInt8) (h : (if impl_UnpackBits.bit a0 i then 49 else 48) = c) : Lib.byteCells (impl_UnpackBits.bits a0 (i + 1)) = Lib.byteCells (impl_UnpackBits.bits a0 i) ++ [.int .u8 c.toNat] := by
  rw [bits_succ, h]; simp [Lib.byteCells]
theorem cells_len (a0 : ByteArray) (i : Nat) : (Lib.byteCells (impl_UnpackBits.bits a0 i)).length = i := by simp [Lib.byteCells, impl_UnpackBits.bits]
set_option maxHeartbeats 2000000 in
set_option maxRecDepth 100000 in
theorem unpack_yes (k : Nat) (a0 : ByteArray) (n : Nat) (t : ByteArray) (w : World) (h1 : n ≤ 4000) (h2 : a0.size = (n + 7) / 8)
    (hp : impl_packBits.f k ⟨(impl_UnpackBits.bits a0 n).toArray⟩ = some t) (r1 : ByteArray) (r2 : Bool)
    (hr : (if t.toList = a0.toList then some ((⟨(impl_UnpackBits.bits a0 n).toArray⟩ : ByteArray), true) else some (⟨#[]⟩, false)) = some (r1, r2)) :
    Calls Try.prog 5 #[.string a0, .int .i64 n] w fun e w' => e = .returned (.tuple #[.string r1, .bool r2]) ∧ Below w.heap.size w w' := by
  have hs : ((a0.size : Int) != ((n : Int) + 7) / 8) = false := by simp; omega
  have HP := Aside0.mk hp
  have HR := Aside0.mk hr
  have H2 := Aside0.mk h2
  clear hp hr h2
  go_enter Try.func5, Try.ntmps5
  go_wp2_with (first | (go_at_call 8; refine (within_yes (n : Int) 0 4000 _ (by omega) (by omega)).mono ?_; rintro e w' ⟨rfl, ⟨nd, rfl⟩⟩))
  go_loopg [21] n (fun kq v21 w' => ∃ i : Nat, v21 = .int .i64 i ∧ i + kq = n ∧ Aside0 (Lib.IsBuilder 31 5 w.heap.size w.heap.size (Lib.byteCells (impl_UnpackBits.bits a0 i)) w') ∧ Aside0 (Below w.heap.size w w'))
  case atStart => exact ⟨0, rfl, by omega, ⟨Lib.fresh_isBuilder 31 5 (w.drewN nd)⟩, ⟨by repeat (first | exact Below.refl _ _ | apply below_alloc | apply pw_below_drewN | apply below_drew1)⟩⟩
  case round =>
    obtain ⟨i, rfl, hi, HBd, HBe⟩ := hrel
    cases gk with
    | zero =>
      obtain rfl : i = n := by omega
      have HR2 := HR.out
      by_cases hq : t.toList = a0.toList
      all_goals
        first | rw [if_pos hq] at HR2 | rw [if_neg hq] at HR2
        simp only [Option.some.injEq, Prod.mk.injEq] at HR2
        obtain ⟨rfl, rfl⟩ := HR2
        first | (have hq1 : (t.toList == a0.toList) = true := beq_iff_eq.mpr hq; have hq2 : (t.toList != a0.toList) = false := bne_eq_false_iff_eq.mpr hq) | (have hq1 : (t.toList == a0.toList) = false := beq_eq_false_iff_ne.mpr hq; have hq2 : (t.toList != a0.toList) = true := bne_iff_ne.mpr hq)
        have Hq := Aside0.mk hq
        clear hq HR
        go_wp2_with (first | (go_at_call 10; refine (Try.Builder_String_any w.heap.size w.heap.size (impl_UnpackBits.bits a0 i) _ HBd.out HBe.out.size).mono ?_; rintro e w' ⟨rfl, hb⟩; have HB2 := Aside0.mk (HBe.out.trans hb); clear hb) | (go_at_call 11; refine (impl_packBits.calls k _ t _ HP.out).mono ?_; rintro e w' ⟨rfl, hb⟩; have HB3 := Aside0.mk (below_step HB2.out hb); clear hb))
        go_ret2
        exact ⟨rfl, HB3.out⟩
    | succ k1 =>
      have h2 := H2.out
      have hlt : i / 8 < a0.size := by omega
      have hdec : (0 ≤ (i : Int) / 8 ∧ (i : Int) / 8 < (a0.size : Int)) = True := eq_true ⟨by omega, by omega⟩
      have hin : i < n := by omega
      have HL := Aside0.mk (show (Lib.byteCells (impl_UnpackBits.bits a0 i)).length + 1 ≤ 140737488355328 by rw [cells_len]; omega)
      clear h2
      by_cases hb : (Go.bits .and .u8 (((a0[i / 8]'hlt).toNat : Int) / 2 ^ (7 - i % 8)) 1 == 1) = true
      · have HC := Aside0.mk (cells_succ a0 i 49 (by rw [impl_UnpackBits.bit, dif_pos hlt, hb]; rfl))
        go_wp2_with (go_at_call 9; refine (Try.Builder_WriteByte w.heap.size w.heap.size _ 49 _ HBd.out HL.out HBe.out.size).mono ?_; rintro e w' ⟨rfl, hbd, hbe⟩; have HBd2 := Aside0.mk hbd; have HB2 := Aside0.mk (HBe.out.trans hbe); clear hbd hbe)
        go_roundg k1
        case measure => omega
        case rel => exact ⟨i + 1, by go_num, by omega, ⟨.inr (by rw [HC.out]; exact HBd2.out)⟩, HB2⟩
      · replace hb : (Go.bits .and .u8 (((a0[i / 8]'hlt).toNat : Int) / 2 ^ (7 - i % 8)) 1 == 1) = false := Bool.eq_false_iff.mpr hb
        have HC := Aside0.mk (cells_succ a0 i 48 (by rw [impl_UnpackBits.bit, dif_pos hlt, hb]; rfl))
        go_wp2_with (go_at_call 9; refine (Try.Builder_WriteByte w.heap.size w.heap.size _ 48 _ HBd.out HL.out HBe.out.size).mono ?_; rintro e w' ⟨rfl, hbd, hbe⟩; have HBd2 := Aside0.mk hbd; have HB2 := Aside0.mk (HBe.out.trans hbe); clear hbd hbe)
        go_roundg k1
        case measure => omega
        case rel => exact ⟨i + 1, by go_num, by omega, ⟨.inr (by rw [HC.out]; exact HBd2.out)⟩, HB2⟩
theorem impl_UnpackBits.calls (k : Nat) (a0 : ByteArray) (a1 : Int) (r1 : ByteArray) (r2 : Bool) (w : World) (h : impl_UnpackBits.f k a0 a1 = some (r1, r2)) :
    Calls Try.prog 5 #[.string a0, .int .i64 a1] w fun e w' => e = .returned (.tuple #[.string r1, .bool r2]) ∧ Below w.heap.size w w' := by
  unfold impl_UnpackBits.f at h
  by_cases hc : 0 ≤ a1 ∧ a1 ≤ 4000 ∧ (a0.size : Int) = (a1 + 7) / 8
  · rw [if_pos hc] at h
    obtain ⟨n, rfl⟩ : ∃ n : Nat, a1 = n := ⟨a1.toNat, by omega⟩
    rw [Int.toNat_natCast] at h
    obtain ⟨t, h1, h2⟩ := Option.bind_eq_some_iff.mp h
    exact unpack_yes k a0 n t w (by omega) (by omega) h1 r1 r2 h2
  · rw [if_neg hc] at h
    simp only [Option.some.injEq, Prod.mk.injEq] at h
    obtain ⟨rfl, rfl⟩ := h
    exact unpack_no a0 a1 w hc
theorem impl_UnpackBits.mono : ∀ a0 a1 k, LeO (impl_UnpackBits.f k a0 a1) (impl_UnpackBits.f (k + 1) a0 a1) := by
  intro a0 a1 k
  unfold impl_UnpackBits.f
  refine LeO.ite ?_ (LeO.refl _)
  exact LeO.bind (impl_packBits.mono _ _) (fun _ => LeO.refl _)


/-! ### laws_FnExactUnpackBits: function 3 -/
def laws_FnExactUnpackBits.f (k : Nat) (a0 : ByteArray) (a1 : Int) : Option (Bool) := if (a0.size : Int) > 1048576 then (some true) else ((spec_UnpackBits.f k a0 a1).bind fun bt117 => ((impl_UnpackBits.f k a0 a1).bind fun bt119 => (if bt119.1.toList = bt117.1.toList then (if (bt119.2 != bt117.2) = true then (some false) else (some true)) else (some false))))
theorem laws_FnExactUnpackBits.mono : ∀ a0 a1 k, LeO (laws_FnExactUnpackBits.f k a0 a1) (laws_FnExactUnpackBits.f (k + 1) a0 a1) := by
  intro a0 a1 k
  unfold laws_FnExactUnpackBits.f
  repeat' first
      | (with_reducible exact impl_UnpackBits.mono _ _ _)
      | (with_reducible exact spec_UnpackBits.mono _ _ _)
      | (with_reducible exact LeO.refl _)
      | (with_reducible exact LeO.none _)
      | (with_reducible refine LeO.ite ?_ ?_)
      | (with_reducible refine LeO.bind ?_ (fun _ => ?_))
      | exact impl_UnpackBits.mono _ _ _
      | exact spec_UnpackBits.mono _ _ _
      | exact LeO.none _
      | refine LeO.ite ?_ ?_
      | refine LeO.bind ?_ (fun _ => ?_)
set_option maxHeartbeats 8000000 in
set_option maxRecDepth 100000 in
theorem laws_FnExactUnpackBits.calls (k : Nat) (a0 : ByteArray) (a1 : Int) (r : Bool) (w : World) (h : laws_FnExactUnpackBits.f k a0 a1 = some r) :
    Calls Try.prog 3 #[.string a0, .int .i64 a1] w fun e w' => e = .returned (.bool r) ∧ Below w.heap.size w w' := by
  have HB := Aside0.mk (Below.refl w.heap.size w)
  have H : (if (a0.size : Int) > 1048576 then (some true) else ((spec_UnpackBits.f k a0 a1).bind fun bt117 => ((impl_UnpackBits.f k a0 a1).bind fun bt119 => (if bt119.1.toList = bt117.1.toList then (if (bt119.2 != bt117.2) = true then (some false) else (some true)) else (some false))))) = some r := h
  clear h
  by_cases c3 : (a0.size : Int) > 1048576
  · rw [if_pos c3] at H
    have c3b0 : decide (1048576 < (a0.size : Int)) = true := decide_eq_true c3
    have c3b1 : decide (1048576 < a0.size) = true := decide_eq_true (by omega)
    clear c3
    obtain rfl := Option.some.inj H
    go_enter Try.func3, Try.ntmps3
    go_wp2
    go_ret
    exact ⟨by first | rfl | (simp [errW_none, errW_some] <;> rfl) | (simp [*, errW_none, errW_some] <;> rfl), by repeat (first | (with_reducible first | exact HB.out | apply below_alloc | apply pw_below_drewN | apply below_drew1) | exact HB.out)⟩
  · rw [if_neg c3] at H
    have c3b0 : decide (1048576 < (a0.size : Int)) = false := decide_eq_false c3
    have c3b1 : decide (1048576 < a0.size) = false := decide_eq_false (by omega)
    clear c3
    replace H := Option.bind_eq_some_iff.mp H
    obtain ⟨⟨t117, t118⟩, A40, H⟩ := H
    replace H : ((impl_UnpackBits.f k a0 a1).bind fun bt119 => (if bt119.1.toList = t117.toList then (if (bt119.2 != t118) = true then (some false) else (some true)) else (some false))) = some r := H
    have A4 := Aside0.mk A40
    clear A40
    replace H := Option.bind_eq_some_iff.mp H
    obtain ⟨⟨t119, t120⟩, A50, H⟩ := H
    replace H : (if t119.toList = t117.toList then (if (t120 != t118) = true then (some false) else (some true)) else (some false)) = some r := H
    have A5 := Aside0.mk A50
    clear A50
    by_cases c6 : t119.toList = t117.toList
    · rw [if_pos c6] at H
      have c6b0 : (t119.toList == t117.toList) = true := beq_iff_eq.mpr c6
      have c6b1 : (t119.toList != t117.toList) = false := bne_eq_false_iff_eq.mpr c6
      clear c6
      by_cases c7 : (t120 != t118) = true
      · rw [if_pos c7] at H
        have c7b0 : (t120 != t118) = true := c7
        (try (have c7b1 : decide (t120 = t118) = false := by simpa using c7))
        (try (have c7b2 : (t120 == t118) = false := by simpa using c7))
        (try (have c7b3 : ¬ (t120 = t118) := by simpa using c7))
        clear c7
        obtain rfl := Option.some.inj H
        go_enter Try.func3, Try.ntmps3
        go_wp2_with (first | ((with_reducible refine gate_callee (f := 4) rfl ?_); refine goesL_ (some 15) rfl rfl Try.func4 (by kernel_rfl) rfl #[.string a0, .int .i64 a1] rfl (by (try simp only [List.map_toArray, List.map_cons, List.map_nil]); first | done | rfl | (simp only [List.length_drop, List.length_take]; rfl)) ?_; (with_reducible refine (spec_UnpackBits.calls k a0 a1 t117 t118 _ A4.out).mono ?_); rintro e w8 ⟨rfl, hb⟩; refine ⟨_, rfl, ?_⟩; have n0_ := Aside0.mk (below_step (by repeat (first | (with_reducible first | exact HB.out | apply below_alloc | apply pw_below_drewN | apply below_drew1) | exact HB.out)) hb); clear HB; have HB := n0_; clear n0_; (try clear hb); (try clear hb2); (try clear hk); (try clear hi)) | ((with_reducible refine gate_callee (f := 5) rfl ?_); refine goesL_ (some 21) rfl rfl Try.func5 (by kernel_rfl) rfl #[.string a0, .int .i64 a1] rfl (by (try simp only [List.map_toArray, List.map_cons, List.map_nil]); first | done | rfl | (simp only [List.length_drop, List.length_take]; rfl)) ?_; (with_reducible refine (impl_UnpackBits.calls k a0 a1 t119 t120 _ A5.out).mono ?_); rintro e w9 ⟨rfl, hb⟩; refine ⟨_, rfl, ?_⟩; have n0_ := Aside0.mk (below_step (by repeat (first | (with_reducible first | exact HB.out | apply below_alloc | apply pw_below_drewN | apply below_drew1) | exact HB.out)) hb); clear HB; have HB := n0_; clear n0_; (try clear hb); (try clear hb2); (try clear hk); (try clear hi)))
        go_ret
        exact ⟨by first | rfl | (simp [errW_none, errW_some] <;> rfl) | (simp [*, errW_none, errW_some] <;> rfl), by repeat (first | (with_reducible first | exact HB.out | apply below_alloc | apply pw_below_drewN | apply below_drew1) | exact HB.out)⟩
      · rw [if_neg c7] at H
        have c7b0 : (t120 != t118) = false := by simpa using c7
        (try (have c7b1 : decide (t120 = t118) = true := by simpa using c7))
        (try (have c7b2 : (t120 == t118) = true := by simpa using c7))
        clear c7
        obtain rfl := Option.some.inj H
        go_enter Try.func3, Try.ntmps3
        go_wp2_with (first | ((with_reducible refine gate_callee (f := 4) rfl ?_); refine goesL_ (some 15) rfl rfl Try.func4 (by kernel_rfl) rfl #[.string a0, .int .i64 a1] rfl (by (try simp only [List.map_toArray, List.map_cons, List.map_nil]); first | done | rfl | (simp only [List.length_drop, List.length_take]; rfl)) ?_; (with_reducible refine (spec_UnpackBits.calls k a0 a1 t117 t118 _ A4.out).mono ?_); rintro e w10 ⟨rfl, hb⟩; refine ⟨_, rfl, ?_⟩; have n0_ := Aside0.mk (below_step (by repeat (first | (with_reducible first | exact HB.out | apply below_alloc | apply pw_below_drewN | apply below_drew1) | exact HB.out)) hb); clear HB; have HB := n0_; clear n0_; (try clear hb); (try clear hb2); (try clear hk); (try clear hi)) | ((with_reducible refine gate_callee (f := 5) rfl ?_); refine goesL_ (some 21) rfl rfl Try.func5 (by kernel_rfl) rfl #[.string a0, .int .i64 a1] rfl (by (try simp only [List.map_toArray, List.map_cons, List.map_nil]); first | done | rfl | (simp only [List.length_drop, List.length_take]; rfl)) ?_; (with_reducible refine (impl_UnpackBits.calls k a0 a1 t119 t120 _ A5.out).mono ?_); rintro e w11 ⟨rfl, hb⟩; refine ⟨_, rfl, ?_⟩; have n0_ := Aside0.mk (below_step (by repeat (first | (with_reducible first | exact HB.out | apply below_alloc | apply pw_below_drewN | apply below_drew1) | exact HB.out)) hb); clear HB; have HB := n0_; clear n0_; (try clear hb); (try clear hb2); (try clear hk); (try clear hi)))
        go_ret
        exact ⟨by first | rfl | (simp [errW_none, errW_some] <;> rfl) | (simp [*, errW_none, errW_some] <;> rfl), by repeat (first | (with_reducible first | exact HB.out | apply below_alloc | apply pw_below_drewN | apply below_drew1) | exact HB.out)⟩
    · rw [if_neg c6] at H
      have c6b0 : (t119.toList == t117.toList) = false := beq_eq_false_iff_ne.mpr c6
      have c6b1 : (t119.toList != t117.toList) = true := bne_iff_ne.mpr c6
      obtain rfl := Option.some.inj H
      go_enter Try.func3, Try.ntmps3
      go_wp2_with (first | ((with_reducible refine gate_callee (f := 4) rfl ?_); refine goesL_ (some 15) rfl rfl Try.func4 (by kernel_rfl) rfl #[.string a0, .int .i64 a1] rfl (by (try simp only [List.map_toArray, List.map_cons, List.map_nil]); first | done | rfl | (simp only [List.length_drop, List.length_take]; rfl)) ?_; (with_reducible refine (spec_UnpackBits.calls k a0 a1 t117 t118 _ A4.out).mono ?_); rintro e w12 ⟨rfl, hb⟩; refine ⟨_, rfl, ?_⟩; have n0_ := Aside0.mk (below_step (by repeat (first | (with_reducible first | exact HB.out | apply below_alloc | apply pw_below_drewN | apply below_drew1) | exact HB.out)) hb); clear HB; have HB := n0_; clear n0_; (try clear hb); (try clear hb2); (try clear hk); (try clear hi)) | ((with_reducible refine gate_callee (f := 5) rfl ?_); refine goesL_ (some 21) rfl rfl Try.func5 (by kernel_rfl) rfl #[.string a0, .int .i64 a1] rfl (by (try simp only [List.map_toArray, List.map_cons, List.map_nil]); first | done | rfl | (simp only [List.length_drop, List.length_take]; rfl)) ?_; (with_reducible refine (impl_UnpackBits.calls k a0 a1 t119 t120 _ A5.out).mono ?_); rintro e w13 ⟨rfl, hb⟩; refine ⟨_, rfl, ?_⟩; have n0_ := Aside0.mk (below_step (by repeat (first | (with_reducible first | exact HB.out | apply below_alloc | apply pw_below_drewN | apply below_drew1) | exact HB.out)) hb); clear HB; have HB := n0_; clear n0_; (try clear hb); (try clear hb2); (try clear hk); (try clear hi)))
      go_ret
      exact ⟨by first | rfl | (simp [errW_none, errW_some] <;> rfl) | (simp [*, errW_none, errW_some] <;> rfl), by repeat (first | (with_reducible first | exact HB.out | apply below_alloc | apply pw_below_drewN | apply below_drew1) | exact HB.out)⟩

/-- THE ONE PURE STATEMENT of laws_FnExactUnpackBits: yours. -/
def laws_FnExactUnpackBits.Pure : Prop := ∀ (a0 : ByteArray) (a1 : Int), a0.size ≤ 140737488351232 → (Lit.int .i64 a1).wf = true → ∃ k, laws_FnExactUnpackBits.f k a0 a1 = some true
theorem laws_FnExactUnpackBits.walk (P : laws_FnExactUnpackBits.Pure) (a0 : ByteArray) (a1 : Int) (w : World) (w0 : a0.size ≤ 140737488351232) (w1 : (Lit.int .i64 a1).wf = true) :
    Calls Try.prog 3 #[.string a0, .int .i64 a1] w fun e w' => e = .returned (.bool true) ∧ Below w.heap.size w w' := by
  obtain ⟨k, h⟩ := P a0 a1 w0 w1
  refine (laws_FnExactUnpackBits.calls k a0 a1 true w h).mono ?_
  rintro e w' ⟨rfl, hd⟩
  exact ⟨rfl, hd⟩

end Go.Proofs.Ytldnpigmdaabgaa.PFnExactUnpackBits

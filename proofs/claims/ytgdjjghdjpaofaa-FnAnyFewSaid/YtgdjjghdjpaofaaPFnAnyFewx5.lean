/- What the functions that FnAnyFew reaches compute, each as a Lean function, with the proof that the Go code computes it (written by our driver round the kit's printer, partly by hand). No conditions. -/
import Derived.Test.YtgdjjghdjpaofaaPFnAnyFewx0
import Derived.Test.YtgdjjghdjpaofaaPFnAnyFewx3
import Derived.Test.YtgdjjghdjpaofaaPFnAnyFewx4
namespace Go.Proofs.Ytgdjjghdjpaofaa.PFnAnyFew
open Go.RowKit Go.Proofs.YtgdjjghdjpaofaaW.PrintWords Go.Proofs.YtgdjjghdjpaofaaW.PrintLast Go.Proofs.YtgdjjghdjpaofaaW.PrintMore
attribute [local go_sem] max2_int min2_int max_two min_two max_three min_three max_four min_four   -- for this text's walks alone
set_option linter.unusedVariables false
set_option linter.unusedSimpArgs false

/-! ### impl_power: function 87 -/
def impl_power.l0 : Nat → Int → Int → Int → Option (Int)
 | 0, _, _, _ => none
 | k + 1, x0, x1, x5 => if x1 > 0 then (if (Go.bits .and .i64 x1 1) = 1 then ((impl_Times.f k x5 x0).bind fun t244 => ((impl_Times.f k x0 x0).bind fun t245 => (impl_power.l0 k t245 (x1 / 2) t244))) else ((impl_Times.f k x0 x0).bind fun t246 => (impl_power.l0 k t246 (x1 / 2) x5))) else (some x5)
def impl_power.f (k : Nat) (a0 : Int) (a1 : Int) : Option (Int) := impl_power.l0 k a0 a1 1
theorem impl_power.mono_l : ∀ k, (∀ y0 y1 y2, LeO (impl_power.l0 k y0 y1 y2) (impl_power.l0 (k + 1) y0 y1 y2))
 | 0 => fun _ _ _ r h => by simp [impl_power.l0] at h
 | k + 1 => by
  have ih0 := impl_power.mono_l k
  ·intro y0 y1 y2
   unfold impl_power.l0
   repeat' first
   | (with_reducible exact ih0 _ _ _)
   | (with_reducible exact impl_Times.mono _ _ _)
   | (with_reducible exact LeO.refl _)
   | (with_reducible exact LeO.none _)
   | (with_reducible refine LeO.ite ?_ ?_)
   | (with_reducible refine LeO.bind ?_ (fun _ => ?_))
   | exact ih0 _ _ _
   | exact impl_Times.mono _ _ _
   | exact LeO.none _
   | refine LeO.ite ?_ ?_
   | refine LeO.bind ?_ (fun _ => ?_)
theorem impl_power.mono : ∀ a0 a1 k, LeO (impl_power.f k a0 a1) (impl_power.f (k + 1) a0 a1) := by
 intro a0 a1 k
 have ih0 := impl_power.mono_l k
 unfold impl_power.f
 repeat' first
   | (with_reducible exact ih0 _ _ _)
   | (with_reducible exact impl_Times.mono _ _ _)
   | (with_reducible exact LeO.refl _)
   | (with_reducible exact LeO.none _)
   | (with_reducible refine LeO.ite ?_ ?_)
   | (with_reducible refine LeO.bind ?_ (fun _ => ?_))
   | exact ih0 _ _ _
   | exact impl_Times.mono _ _ _
   | exact LeO.none _
   | refine LeO.ite ?_ ?_
   | refine LeO.bind ?_ (fun _ => ?_)
set_option maxHeartbeats 8000000 in
set_option maxRecDepth 100000 in
theorem impl_power.calls (k : Nat) (a0 : Int) (a1 : Int) (r : Int) (w : World) (h : impl_power.f k a0 a1 = some r) :
  Calls Try.prog 87 #[.int .u8 a0, .int .i64 a1] w fun e w' => e = .returned (.int .u8 r) ∧ Drawn0 w w' := by
 have H : (impl_power.l0 k a0 a1 1) = some r := h
 clear h
 have H' := Aside0.mk H
 clear H
 go_enter Try.func87, Try.ntmps87
 go_wp2
 go_loopg [0, 1, 5] k (fun kq v0 v1 v5 w' => ∃ (x0_1 : Int) (x1_1 : Int) (x5_1 : Int), v0 = .int .u8 x0_1 ∧ v1 = .int .i64 x1_1 ∧ v5 = .int .u8 x5_1 ∧ Aside0 (impl_power.l0 kq x0_1 x1_1 x5_1 = some r) ∧ Aside0 (kq ≤ k) ∧ Drawn0 w w')
 case atStart => exact ⟨(a0), (a1), (1), (by first | rfl | (simp; done) | (simp [*]; done)), (by first | rfl | (simp; done) | (simp [*]; done)), (by first | rfl | (simp; done) | (simp [*]; done)), H', ⟨Nat.le_refl _⟩, by repeat (first | exact Drawn0.refl _ | apply Drawn0.step)⟩
 case round =>
  clear H'
  try clear p2
  obtain ⟨x0_1, x1_1, x5_1, rfl, rfl, rfl, HA, HK1, ⟨m1, rfl⟩⟩ := hrel
  cases gk with
  | zero => exact absurd HA.out (by simp [impl_power.l0])
  | succ k1 =>
   have H := HA.out
   clear HA
   simp only [impl_power.l0] at H
   by_cases c3 : x1_1 > 0
   ·rw [if_pos c3] at H
    have c3b0 : decide (0 < x1_1) = true := decide_eq_true c3
    clear c3
    by_cases c4 : (Go.bits .and .i64 x1_1 1) = 1
    ·rw [if_pos c4] at H
     have c4b0 : ((Go.bits .and .i64 x1_1 1) == 1) = true := beq_iff_eq.mpr c4
     have c4b1 : ((Go.bits .and .i64 x1_1 1) != 1) = false := bne_eq_false_iff_eq.mpr c4
     clear c4
     replace H := Option.bind_eq_some_iff.mp H
     obtain ⟨t244, A50, H⟩ := H
     replace H : ((impl_Times.f k1 x0_1 x0_1).bind fun t245 => (impl_power.l0 k1 t245 (x1_1 / 2) t244)) = some r := H
     have A5 := Aside0.mk A50
     clear A50
     replace H := Option.bind_eq_some_iff.mp H
     obtain ⟨t245, A60, H⟩ := H
     replace H : (impl_power.l0 k1 t245 (x1_1 / 2) t244) = some r := H
     have A6 := Aside0.mk A60
     clear A60
     have H' := Aside0.mk H
     clear H
     go_wp2_with (first | ((with_reducible refine gate_callee (f := 168) rfl ?_); refine goesL_ (some 15) rfl rfl Try.func168 (by kernel_rfl) rfl #[.int .u8 x5_1, .int .u8 x0_1] rfl (by (try simp only [List.map_toArray, List.map_cons, List.map_nil]); first | done | rfl | (simp only [List.length_drop, List.length_take]; rfl)) ?_; (with_reducible refine (impl_Times.calls k1 x5_1 x0_1 t244 _ A5.out).mono ?_); rintro e w' ⟨rfl, ⟨nd, rfl⟩⟩; refine ⟨_, rfl, ?_⟩) | ((with_reducible refine gate_callee (f := 168) rfl ?_); refine goesL_ (some 18) rfl rfl Try.func168 (by kernel_rfl) rfl #[.int .u8 x0_1, .int .u8 x0_1] rfl (by (try simp only [List.map_toArray, List.map_cons, List.map_nil]); first | done | rfl | (simp only [List.length_drop, List.length_take]; rfl)) ?_; (with_reducible refine (impl_Times.calls k1 x0_1 x0_1 t245 _ A6.out).mono ?_); rintro e w' ⟨rfl, ⟨nd, rfl⟩⟩; refine ⟨_, rfl, ?_⟩))
     go_roundg k1
     case measure => have := HK1.out; omega
     case rel => exact ⟨(t245), (x1_1 / 2), (t244), (by first | rfl | (simp; done) | (simp [*]; done)), (by first | rfl | (simp; done) | (simp [*]; done)), (by first | rfl | (simp; done) | (simp [*]; done)), H', ⟨by have := HK1.out; omega⟩, by repeat (first | exact Drawn0.refl _ | apply Drawn0.step)⟩
    ·rw [if_neg c4] at H
     have c4b0 : ((Go.bits .and .i64 x1_1 1) == 1) = false := beq_eq_false_iff_ne.mpr c4
     have c4b1 : ((Go.bits .and .i64 x1_1 1) != 1) = true := bne_iff_ne.mpr c4
     replace H := Option.bind_eq_some_iff.mp H
     obtain ⟨t246, A70, H⟩ := H
     replace H : (impl_power.l0 k1 t246 (x1_1 / 2) x5_1) = some r := H
     have A7 := Aside0.mk A70
     clear A70
     have H' := Aside0.mk H
     clear H
     go_wp2_with (first | ((with_reducible refine gate_callee (f := 168) rfl ?_); refine goesL_ (some 18) rfl rfl Try.func168 (by kernel_rfl) rfl #[.int .u8 x0_1, .int .u8 x0_1] rfl (by (try simp only [List.map_toArray, List.map_cons, List.map_nil]); first | done | rfl | (simp only [List.length_drop, List.length_take]; rfl)) ?_; (with_reducible refine (impl_Times.calls k1 x0_1 x0_1 t246 _ A7.out).mono ?_); rintro e w' ⟨rfl, ⟨nd, rfl⟩⟩; refine ⟨_, rfl, ?_⟩))
     go_roundg k1
     case measure => have := HK1.out; omega
     case rel => exact ⟨(t246), (x1_1 / 2), (x5_1), (by first | rfl | (simp; done) | (simp [*]; done)), (by first | rfl | (simp; done) | (simp [*]; done)), (by first | rfl | (simp; done) | (simp [*]; done)), H', ⟨by have := HK1.out; omega⟩, by repeat (first | exact Drawn0.refl _ | apply Drawn0.step)⟩
   ·rw [if_neg c3] at H
    have c3b0 : decide (0 < x1_1) = false := decide_eq_false c3
    clear c3
    obtain rfl := Option.some.inj H
    go_wp2
    go_ret
    exact ⟨by first | rfl | (simp; done) | (simp [*]; done), by repeat (first | exact Drawn0.refl _ | apply Drawn0.step)⟩

/-! ### impl_Inverse: function 204 -/
def impl_Inverse.f (k : Nat) (a0 : Int) : Option (Int) := (impl_power.f k a0 254).bind fun t247 => (some t247)
theorem impl_Inverse.mono : ∀ a0 k, LeO (impl_Inverse.f k a0) (impl_Inverse.f (k + 1) a0) := by
 intro a0 k
 unfold impl_Inverse.f
 repeat' first
   | (with_reducible exact impl_power.mono _ _ _)
   | (with_reducible exact LeO.refl _)
   | (with_reducible exact LeO.none _)
   | (with_reducible refine LeO.ite ?_ ?_)
   | (with_reducible refine LeO.bind ?_ (fun _ => ?_))
   | exact impl_power.mono _ _ _
   | exact LeO.none _
   | refine LeO.ite ?_ ?_
   | refine LeO.bind ?_ (fun _ => ?_)
set_option maxHeartbeats 8000000 in
set_option maxRecDepth 100000 in
theorem impl_Inverse.calls (k : Nat) (a0 : Int) (r : Int) (w : World) (h : impl_Inverse.f k a0 = some r) :
  Calls Try.prog 204 #[.int .u8 a0] w fun e w' => e = .returned (.int .u8 r) ∧ Drawn0 w w' := by
 have H : ((impl_power.f k a0 254).bind fun t247 => (some t247)) = some r := h
 clear h
 replace H := Option.bind_eq_some_iff.mp H
 obtain ⟨t247, A20, H⟩ := H
 replace H : (some t247) = some r := H
 have A2 := Aside0.mk A20
 clear A20
 obtain rfl := Option.some.inj H
 go_enter Try.func204, Try.ntmps204
 go_wp2_with (first | ((with_reducible refine gate_callee (f := 87) rfl ?_); refine goesL_ (some 4) rfl rfl Try.func87 (by kernel_rfl) rfl #[.int .u8 a0, .int .i64 254] rfl (by (try simp only [List.map_toArray, List.map_cons, List.map_nil]); first | done | rfl | (simp only [List.length_drop, List.length_take]; rfl)) ?_; (with_reducible refine (impl_power.calls k a0 254 t247 _ A2.out).mono ?_); rintro e w' ⟨rfl, ⟨nd, rfl⟩⟩; refine ⟨_, rfl, ?_⟩))
 go_ret
 exact ⟨by first | rfl | (simp; done) | (simp [*]; done), by repeat (first | exact Drawn0.refl _ | apply Drawn0.step)⟩

/-! ### impl_cauchy: function 177 -/
def impl_cauchy.F (c : Int) (k : Nat) (i j : Int) : Option Int := impl_Inverse.f k ((Go.bits .xor .i64 (wrap64 (c + i)) j) % 256)
theorem impl_cauchy.F_mono (c : Int) (k : Nat) (i j : Int) : LeO (impl_cauchy.F c k i j) (impl_cauchy.F c (k + 1) i j) := impl_Inverse.mono _ _
set_option maxRecDepth 100000 in
set_option maxHeartbeats 4000000 in
theorem impl_cauchy.F_calls (c : Int) (g : Nat) (k : Nat) (i j t : Int) (w : World) (hg : w.cell? ⟨g, 0, none⟩ = some (.int .i64 c)) (h : impl_cauchy.F c k i j = some t) :
  Calls Try.prog 203 (#[.int .i64 i, .int .i64 j] ++ #[.pointer (some ⟨g, 0, none⟩)]) w fun e w' => e = .returned (.int .u8 t) ∧ Drawn0 w w' := by
 have A1 := Aside0.mk (show impl_Inverse.f k ((Go.bits .xor .i64 (wrap64 (c + i)) j) % 256) = some t from h)
 clear h
 go_enter Try.func203, Try.ntmps203
 go_wp2_with (go_at_call 204; refine (impl_Inverse.calls k ((Go.bits .xor .i64 (wrap64 (c + i)) j) % 256) t _ A1.out).mono ?_; rintro e w' ⟨rfl, ⟨nd, rfl⟩⟩)
 go_ret
 exact ⟨rfl, by repeat (first | exact Drawn0.refl _ | apply Drawn0.step)⟩
def impl_cauchy.f (k : Nat) (a0 a1 : Int) : Option (List (List Int)) := impl_filled.f (impl_cauchy.F a1) k a0 a1
theorem impl_cauchy.mono : ∀ a0 a1 k, LeO (impl_cauchy.f k a0 a1) (impl_cauchy.f (k + 1) a0 a1) := fun a0 a1 k => impl_filled.mono (impl_cauchy.F a1) (impl_cauchy.F_mono a1) a0 a1 k
set_option maxRecDepth 100000 in
theorem impl_cauchy.calls (k : Nat) (a0 a1 : Int) (r : List (List Int)) (w : World) (h : impl_cauchy.f k a0 a1 = some r) :
  Calls Try.prog 177 #[.int .i64 a0, .int .i64 a1] w fun e w' => ∃ v0_ : Value, e = .returned (v0_) ∧ Kd.S (Kd.slice 5 (Kd.int .u8)) 22 w' w.heap.size (fun _ => True) v0_ r ∧ Below w.heap.size w w' := by
 have A1 := Aside0.mk (show impl_filled.f (impl_cauchy.F a1) k a0 a1 = some r from h)
 clear h
 have eg : ∀ args w, (callFunc 203 args).run Try.prog w = .ok (.enter 203 args) w := enters_of Try.func203 (by kernel_rfl) rfl
 have HB := Aside0.mk (Below.refl w.heap.size w)
 go_enter Try.func177, Try.ntmps177
 go_wp2_with (first | ((with_reducible refine gate_dst (N := 3) rfl ?_); (try (refine gate_guard (by rfl) ?_; dsimp only)); refine box_event ?hg (N := 3) ?hd (cs := #[.int .i64 a1]) (t := 3) ?hr ?_; (case hd => rfl); (case hg => rfl); (case hr => first | (go_simp; done) | (go_simp; rfl)); intro gb hg w9 hbox hb; have HC := Aside0.mk ((blk_cell hbox 0).trans rfl); have hcell := (blk_cell hbox 0).trans rfl; have HB2 := Aside0.mk (below_step HB.out hb); clear hbox hb hg) | (go_at_call 170; go_loud (refine (impl_filled.calls 203 #[.pointer (some ⟨gb, 0, none⟩)] eg (impl_cauchy.F a1) k a0 a1 r _ (fun k i j t W hF hW => impl_cauchy.F_calls a1 gb k i j t W ((hW.cell (World.block_lt_of_cell? _ _ HC.out)).trans HC.out) hF) A1.out).mono ?_; rintro e w' ⟨v2, rfl, ho, hb2⟩; have HO := Aside0.mk (Kd.S_lower ho HB2.out.size); have HB3 := Aside0.mk (below_step HB2.out hb2); clear ho hb2)))
 go_ret
 exact ⟨_, rfl, by (with_reducible repeat (first | apply Kd.S_alloc | apply Kd.S_drewN | apply Kd.S_drew)); exact HO.out, by repeat (first | (with_reducible first | exact HB3.out | apply below_alloc | apply pw_below_drewN | apply below_drew1) | exact HB3.out)⟩


/-! ### impl_codeRows: function 108 -/
theorem S_cat_left {α : Type} {d : Kd α} {e base B : Nat} {W : World} {v : Value} {xs : List α} {f f' : Nat → Nat} (hf : ∀ k, k < B → f' k = f k) (h : (Kd.tag f d).R e W base (fun k => k < B) v xs.zipIdx) : (Kd.tag f' d).R e W base (fun _ => True) v xs.zipIdx :=
 ⟨fun _ _ => trivial, h.2.imp_ (fun p cs hp => Kd.M_mono d (ok := fun k => (k < B ∧ some k ≠ v.ownBlock) ∧ f k = p.2) (fun k hk => ⟨⟨trivial, hk.1.2⟩, by rw [hf k hk.1.1]; exact hk.2⟩) hp)⟩
theorem S_cat_right {α : Type} {d : Kd α} {e base B n : Nat} {W : World} {ok : Nat → Prop} {v : Value} {ys : List α} {g f' : Nat → Nat} (hb : base ≤ B) (hf : ∀ k, B ≤ k → f' k = g k + n) (h : (Kd.tag g d).R e W B ok v ys.zipIdx) :
  ∃ A c, v = .slice A ys.length c ∧ ys.length ≤ c ∧ ReadsRow ((Kd.tag f' d).M W base (fun k => B ≤ k)) d.sz W A ys.length (ys.zipIdx n) := by
 obtain ⟨A, c, he, hl, hr⟩ := OwnRow.reads h.2
 rw [List.length_zipIdx] at he hl hr
 refine ⟨A, c, he, hl, by rw [List.length_zipIdx], hr.2.1, fun hp => ?_⟩
 obtain ⟨ad, ea, hc⟩ := hr.2.2 hp
 refine ⟨ad, ea, fun j p hj => ?_⟩
 rw [List.getElem?_zipIdx] at hj
 obtain ⟨y, hy, rfl⟩ := Option.map_eq_some_iff.mp hj
 obtain ⟨cs, h1, h2, h3⟩ := hc j (y, j) (Kd.zip_at hy)
 refine ⟨cs, h1, ?_, h3⟩
 have h4 := d.M_lower hb (d.M_bound h2)
 exact d.M_mono (fun k hk => ⟨hk.2.1, by rw [hf k hk.2.1]; show g k + n = n + j; rw [hk.1.2]; exact Nat.add_comm _ _⟩) h4
theorem S_cat {α : Type} {d : Kd α} {e base B : Nat} {W : World} {ok : Nat → Prop} {v v2 : Value} {xs ys : List α} (hb : base ≤ B) (h1 : Kd.S d e W base (fun k => k < B) v xs) (h2 : Kd.S d e W B ok v2 ys) :
  ∃ f, (Kd.tag f d).R e W base (fun _ => True) v xs.zipIdx ∧ ∃ A c, v2 = .slice A ys.length c ∧ ys.length ≤ c ∧ ReadsRow ((Kd.tag f d).M W base (fun k => B ≤ k)) d.sz W A ys.length (ys.zipIdx xs.length) := by
 obtain ⟨f, h1⟩ := h1
 obtain ⟨g, h2⟩ := h2
 refine ⟨fun k => if k < B then f k else g k + xs.length, S_cat_left (fun k hk => if_pos hk) h1, S_cat_right hb (fun k hk => if_neg (by omega)) h2⟩
def impl_codeRows.f (k : Nat) (a0 : Int) (a1 : Int) : Option ((List (List Int))) := (impl_identity.f k a0).bind fun t256 => ((impl_cauchy.f k a1 a0).bind fun t259 => (if t256.length + t259.length < 5864062014805 then (some (t256 ++ t259)) else (none)))
theorem impl_codeRows.mono : ∀ a0 a1 k, LeO (impl_codeRows.f k a0 a1) (impl_codeRows.f (k + 1) a0 a1) := by
 intro a0 a1 k
 unfold impl_codeRows.f
 exact LeO.bind (impl_identity.mono _ _) (fun _ => LeO.bind (impl_cauchy.mono _ _ _) (fun _ => LeO.refl _))
set_option maxHeartbeats 8000000 in
set_option maxRecDepth 100000 in
theorem impl_codeRows.calls (k : Nat) (a0 : Int) (a1 : Int) (r : List (List Int)) (w : World) (h : impl_codeRows.f k a0 a1 = some r) :
  Calls Try.prog 108 #[.int .i64 a0, .int .i64 a1] w fun e w' => ∃ v0_ : Value, e = .returned (v0_) ∧ Kd.S (Kd.slice 5 (Kd.int .u8)) 22 w' w.heap.size (fun _ => True) v0_ r ∧ Below w.heap.size w w' := by
 obtain ⟨t256, B3, h⟩ := Option.bind_eq_some_iff.mp h
 obtain ⟨t259, B4, h⟩ := Option.bind_eq_some_iff.mp h
 by_cases hl : t256.length + t259.length < 5864062014805
 case neg => rw [if_neg hl] at h; exact absurd h (by simp)
 rw [if_pos hl] at h
 obtain rfl := Option.some.inj h
 have A3 := Aside0.mk B3
 have A4 := Aside0.mk B4
 have LM := Aside0.mk hl
 have HB := Aside0.mk (Below.refl w.heap.size w)
 clear h hl B3 B4
 go_enter Try.func108, Try.ntmps108
 go_wp2_with (first | (go_at_call 176; (with_reducible refine (impl_identity.calls k a0 t256 _ A3.out).mono ?_); rintro e w6 ⟨v257, rfl, ho0, hb⟩; have HO258 := Aside0.mk (Kd.S_lower ho0 HB.out.size); have HB1 := Aside0.mk (below_step HB.out hb); clear ho0 hb) | (go_at_call 177; (with_reducible refine (impl_cauchy.calls k a1 a0 t259 _ A4.out).mono ?_); rintro e w7 ⟨v260, rfl, ho0, hb⟩; have HCT := Aside0.mk (S_cat (B := w6.heap.size) HB1.out.size (Kd.S_mono (Kd.S_below (Kd.S_mono (Kd.S_bound HO258.out) (fun k hk => (hk.2.2.1 : k < w6.heap.size))) hb) (fun _ hk => hk)) ho0); have HB2 := Aside0.mk (below_step HB1.out hb); have hsz := hb.size; obtain ⟨f, hS1, A2, c2, rfl, hcl, hS2⟩ := HCT.out; have HS1 := Aside0.mk hS1; have HS2 := Aside0.mk hS2; clear hS1 hS2 HCT ho0 hb) | ((with_reducible refine gate_builtin (b := .append) (xs := #[.tmp 6, .tmp 9]) rfl ?_); at_builtin; refine Kd.R_append_rows (Kd.tag f (Kd.slice 5 (Kd.int .u8))) (w0 := w) w.heap.size rfl (.tmp 6) (.tmp 9) 37 22 (.slice none 0 0) 24 rfl Try.underlying37 info22 rfl Nat.zero_lt_one (by omega) v257 t256.zipIdx (t259.zipIdx t256.length) A2 t259.length c2 (fun _ => True) (fun k_ => w6.heap.size ≤ k_) rfl rfl HS1.out HS2.out (fun _ _ h => h) ?aK ?aF HB2.out HB2.out.size ?aL ?_; (case aK => exact fun k hk => ⟨trivial, fun e_ => by have := own_lt (Kd.R_own (Kd.S_R HO258.out)).choose_spec k e_.symm; omega⟩); (case aF => exact fun _ _ => trivial); (case aL => have := LM.out; rw [List.length_zipIdx]; omega); intro v263 w8 ho hb hg hat; have HO := Aside0.mk ho; have HB3 := Aside0.mk hb; clear ho hb hg hat))
 go_ret
 refine ⟨_, rfl, ⟨f, ?_⟩, by repeat (first | (with_reducible first | exact HB3.out | apply below_alloc | apply pw_below_drewN | apply below_drew1) | exact HB3.out)⟩
 have h2 := HO.out
 rw [show (t256 ++ t259).zipIdx = t256.zipIdx ++ t259.zipIdx t256.length by rw [List.zipIdx_append, Nat.zero_add]]
 exact h2


/-! ### impl_EncodeShards: function 26 -/
def impl_EncodeShards.j0 : Nat → List ByteArray → Int → Bool → Option ((List (S53)) × Bool)
 | 0, _, _, _ => none
 | k + 1, x0, x1, x15 => if x15 = true then (some (([] : List (S53)), false)) else ((impl_codeRows.f k (x0.length : Int) x1).bind fun t250 => ((impl_combined.f k t250 x0).bind fun t253 => ((impl_shardsOf.f k t253).bind fun t256 => (some (t256, true)))))
def impl_EncodeShards.f (k : Nat) (l0 : List ByteArray) (a1 : Int) : Option ((List (S53)) × Bool) := (impl_GoodShape.f (l0.length : Int) a1).bind fun t248 => (if t248 = true then ((impl_areEqual.f l0).bind fun t249 => (impl_EncodeShards.j0 k l0 a1 (!t249))) else (impl_EncodeShards.j0 k l0 a1 true))
theorem impl_EncodeShards.mono_l : ∀ k, (∀ y0 y1 y2, LeO (impl_EncodeShards.j0 k y0 y1 y2) (impl_EncodeShards.j0 (k + 1) y0 y1 y2))
 | 0 => fun _ _ _ r h => by simp [impl_EncodeShards.j0] at h
 | k + 1 => by
  have ih0 := impl_EncodeShards.mono_l k
  ·intro y0 y1 y2
   unfold impl_EncodeShards.j0
   repeat' first
   | (with_reducible exact ih0 _ _ _)
   | (with_reducible exact impl_codeRows.mono _ _ _)
   | (with_reducible exact impl_combined.mono _ _ _)
   | (with_reducible exact impl_shardsOf.mono _ _)
   | (with_reducible exact LeO.refl _)
   | (with_reducible exact LeO.none _)
   | (with_reducible refine LeO.ite ?_ ?_)
   | (with_reducible refine LeO.bind ?_ (fun _ => ?_))
   | exact ih0 _ _ _
   | exact impl_codeRows.mono _ _ _
   | exact impl_combined.mono _ _ _
   | exact impl_shardsOf.mono _ _
   | exact LeO.none _
   | refine LeO.ite ?_ ?_
   | refine LeO.bind ?_ (fun _ => ?_)
theorem impl_EncodeShards.mono : ∀ a0 a1 k, LeO (impl_EncodeShards.f k a0 a1) (impl_EncodeShards.f (k + 1) a0 a1) := by
 intro a0 a1 k
 have ih0 := impl_EncodeShards.mono_l k
 unfold impl_EncodeShards.f
 repeat' first
   | (with_reducible exact ih0 _ _ _)
   | (with_reducible exact impl_codeRows.mono _ _ _)
   | (with_reducible exact impl_combined.mono _ _ _)
   | (with_reducible exact impl_shardsOf.mono _ _)
   | (with_reducible exact LeO.refl _)
   | (with_reducible exact LeO.none _)
   | (with_reducible refine LeO.ite ?_ ?_)
   | (with_reducible refine LeO.bind ?_ (fun _ => ?_))
   | exact ih0 _ _ _
   | exact impl_codeRows.mono _ _ _
   | exact impl_combined.mono _ _ _
   | exact impl_shardsOf.mono _ _
   | exact LeO.none _
   | refine LeO.ite ?_ ?_
   | refine LeO.bind ?_ (fun _ => ?_)
set_option maxHeartbeats 8000000 in
set_option maxRecDepth 100000 in
theorem impl_EncodeShards.calls (k : Nat) (A0 : Option Addr) (c0 : Nat) (l0 : List ByteArray) (a1 : Int) (r1 : List (S53)) (r2 : Bool) (w : World) (hr0 : Kd.C Kd.string w A0 l0.length l0) (hc0 : l0.length ≤ c0) (h : impl_EncodeShards.f k l0 a1 = some (r1, r2)) :
  Calls Try.prog 26 #[.slice A0 l0.length c0, .int .i64 a1] w fun e w' => ∃ v0_ : Value, e = .returned (.tuple #[v0_, .bool r2]) ∧ Kd.R k53 53 w' w.heap.size (fun _ => True) v0_ r1 ∧ Below w.heap.size w w' := by
 have HR0 := Aside0.mk hr0
 have HC0 := Aside0.mk hc0
 clear hr0 hc0
 have HB := Aside0.mk (Below.refl w.heap.size w)
 have H : ((impl_GoodShape.f (l0.length : Int) a1).bind fun t248 => (if t248 = true then ((impl_areEqual.f l0).bind fun t249 => (impl_EncodeShards.j0 k l0 a1 (!t249))) else (impl_EncodeShards.j0 k l0 a1 true))) = some (r1, r2) := h
 clear h
 have HC3 := Aside0.mk H
 clear H
 go_enter Try.func26, Try.ntmps26
 go_upto_region 1 with (fail)
 go_cut [15] (fun v15 wc => ∃ (kq : Nat) (x15_2 : Bool), v15 = .bool x15_2 ∧ Aside0 (impl_EncodeShards.j0 kq l0 a1 x15_2 = some (r1, r2)) ∧ Aside0 (kq ≤ k) ∧ Aside0 (Below w.heap.size w wc))
 case first =>
  have H := HC3.out
  clear HC3
  replace H := Option.bind_eq_some_iff.mp H
  obtain ⟨t248, A40, H⟩ := H
  replace H : (if t248 = true then ((impl_areEqual.f l0).bind fun t249 => (impl_EncodeShards.j0 k l0 a1 (!t249))) else (impl_EncodeShards.j0 k l0 a1 true)) = some (r1, r2) := H
  have A4 := Aside0.mk A40
  clear A40
  by_cases c5 : t248 = true
  ·subst c5
   have H1 : ((impl_areEqual.f l0).bind fun t249 => (impl_EncodeShards.j0 k l0 a1 (!t249))) = some (r1, r2) := by rw [if_pos rfl] at H; exact H
   clear H
   have H := H1
   clear H1
   replace H := Option.bind_eq_some_iff.mp H
   obtain ⟨t249, A60, H⟩ := H
   replace H : (impl_EncodeShards.j0 k l0 a1 (!t249)) = some (r1, r2) := H
   have A6 := Aside0.mk A60
   clear A60
   have H' := Aside0.mk H
   clear H
   go_wp2_with (first | ((with_reducible refine gate_callee (f := 35) rfl ?_); refine goesL_ (some 9) rfl rfl Try.func35 (by kernel_rfl) rfl #[.int .i64 (l0.length : Int), .int .i64 a1] rfl (by (try simp only [List.map_toArray, List.map_cons, List.map_nil]); first | done | rfl | (simp only [List.length_drop, List.length_take]; rfl)) ?_; (with_reducible refine (impl_GoodShape.calls (l0.length : Int) a1 true _ A4.out).mono ?_); rintro e w' ⟨rfl, ⟨nd, rfl⟩⟩; refine ⟨_, rfl, ?_⟩) | (go_at_call 100; (with_reducible refine (impl_areEqual.calls _ _ l0 t249 _ ?side1 ?side2 A6.out).mono ?_); (case side1 => repeat (first | exact (Kd.C_below HR0.out (by repeat (first | (with_reducible first | exact HB.out | apply below_alloc | apply pw_below_drewN | apply below_drew1) | exact HB.out))) | (with_reducible refine Kd.C_alloc ?_ _) | (with_reducible refine Kd.C_drewN ?_ _) | (with_reducible refine Kd.C_drew ?_))); (case side2 => exact HC0.out); rintro e w7 ⟨rfl, hb⟩; have n0_ := Aside0.mk (below_step (by repeat (first | (with_reducible first | exact HB.out | apply below_alloc | apply pw_below_drewN | apply below_drew1) | exact HB.out)) hb); clear HB; have HB := n0_; clear n0_; (try clear hb); (try clear hb2); (try clear hk); (try clear hi)))
   go_meet
   case rel => exact ⟨_, (!t249), (by first | rfl | (simp; done) | (simp [*]; done)), H', ⟨by first | omega | exact Nat.le_refl _⟩, ⟨by repeat (first | (with_reducible first | exact HB.out | apply below_alloc | apply pw_below_drewN | apply below_drew1) | exact HB.out)⟩⟩
  ·replace c5 := Bool.eq_false_iff.mpr c5
   subst c5
   have H1 : (impl_EncodeShards.j0 k l0 a1 true) = some (r1, r2) := by rw [if_neg (show ¬ (false = true) by decide)] at H; exact H
   clear H
   have H := H1
   clear H1
   have H' := Aside0.mk H
   clear H
   go_wp2_with (first | ((with_reducible refine gate_callee (f := 35) rfl ?_); refine goesL_ (some 9) rfl rfl Try.func35 (by kernel_rfl) rfl #[.int .i64 (l0.length : Int), .int .i64 a1] rfl (by (try simp only [List.map_toArray, List.map_cons, List.map_nil]); first | done | rfl | (simp only [List.length_drop, List.length_take]; rfl)) ?_; (with_reducible refine (impl_GoodShape.calls (l0.length : Int) a1 false _ A4.out).mono ?_); rintro e w' ⟨rfl, ⟨nd, rfl⟩⟩; refine ⟨_, rfl, ?_⟩))
   go_meet
   case rel => exact ⟨_, (true), (by first | rfl | (simp; done) | (simp [*]; done)), H', ⟨by first | omega | exact Nat.le_refl _⟩, ⟨by repeat (first | (with_reducible first | exact HB.out | apply below_alloc | apply pw_below_drewN | apply below_drew1) | exact HB.out)⟩⟩
 case rest => as_aux_lemma =>
  clear HC3
  try clear c2
  try clear p2
  try clear c3
  try clear c5
  obtain ⟨kq, x15_2, rfl, HA, HJ2, HB⟩ := hcut
  cases kq with
  | zero => exact absurd HA.out (by simp [impl_EncodeShards.j0])
  | succ kj2 =>
   have H := HA.out
   clear HA
   simp only [impl_EncodeShards.j0] at H
   by_cases c8 : x15_2 = true
   ·subst c8
    have H1 : (some (([] : List (S53)), false)) = some (r1, r2) := by rw [if_pos rfl] at H; exact H
    clear H
    have H := H1
    clear H1
    simp only [Option.some.injEq, Prod.mk.injEq] at H
    obtain ⟨rfl, rfl⟩ := H
    go_wp2
    go_ret2
    exact ⟨_, by first | rfl | (simp [errW_none, errW_some] <;> rfl) | (simp [*, errW_none, errW_some] <;> rfl), by first | exact Kd.R_nil _ _ _ _ _ | exact Kd.N_nil _ _ _ _ _ | exact Kd.V_nil _ _ _ _ _ | exact Kd.Q_nil _ _ _ _ _ | exact Kd.S_nil _ _ _ _ _, by repeat (first | (with_reducible first | exact HB.out | apply below_alloc | apply pw_below_drewN | apply below_drew1) | exact HB.out)⟩
   ·replace c8 := Bool.eq_false_iff.mpr c8
    subst c8
    have H1 : ((impl_codeRows.f kj2 (l0.length : Int) a1).bind fun t250 => ((impl_combined.f kj2 t250 l0).bind fun t253 => ((impl_shardsOf.f kj2 t253).bind fun t256 => (some (t256, true))))) = some (r1, r2) := by rw [if_neg (show ¬ (false = true) by decide)] at H; exact H
    clear H
    have H := H1
    clear H1
    replace H := Option.bind_eq_some_iff.mp H
    obtain ⟨t250, A90, H⟩ := H
    replace H : ((impl_combined.f kj2 t250 l0).bind fun t253 => ((impl_shardsOf.f kj2 t253).bind fun t256 => (some (t256, true)))) = some (r1, r2) := H
    have A9 := Aside0.mk A90
    clear A90
    replace H := Option.bind_eq_some_iff.mp H
    obtain ⟨t253, A100, H⟩ := H
    replace H : ((impl_shardsOf.f kj2 t253).bind fun t256 => (some (t256, true))) = some (r1, r2) := H
    have A10 := Aside0.mk A100
    clear A100
    replace H := Option.bind_eq_some_iff.mp H
    obtain ⟨t256, A110, H⟩ := H
    replace H : (some (t256, true)) = some (r1, r2) := H
    have A11 := Aside0.mk A110
    clear A110
    simp only [Option.some.injEq, Prod.mk.injEq] at H
    obtain ⟨rfl, rfl⟩ := H
    go_wp2_with (first | ((with_reducible refine gate_callee (f := 108) rfl ?_); refine goesL_ (some 19) rfl rfl Try.func108 (by kernel_rfl) rfl #[.int .i64 (l0.length : Int), .int .i64 a1] rfl (by (try simp only [List.map_toArray, List.map_cons, List.map_nil]); first | done | rfl | (simp only [List.length_drop, List.length_take]; rfl)) ?_; (with_reducible refine (impl_codeRows.calls kj2 (l0.length : Int) a1 t250 _ A9.out).mono ?_); rintro e w12 ⟨v251, rfl, ho0, hb⟩; refine ⟨_, rfl, ?_⟩; have n0_ := Aside0.mk (Kd.S_lower ho0 (below_size (by repeat (first | (with_reducible first | exact HB.out | apply below_alloc | apply pw_below_drewN | apply below_drew1) | exact HB.out)))); have n1_ := Aside0.mk (below_step (by repeat (first | (with_reducible first | exact HB.out | apply below_alloc | apply pw_below_drewN | apply below_drew1) | exact HB.out)) hb); clear HB; have HO252 := n0_; have HB := n1_; clear n0_ n1_; (try clear hb); (try clear hb2); (try clear hk); (try clear hi); (try clear ho0); obtain ⟨Ao13, co13, eo13⟩ := Kd.S_slice HO252.out; subst eo13) | ((with_reducible refine gate_callee (f := 94) rfl ?_); refine goesL_ (some 21) rfl rfl Try.func94 (by kernel_rfl) rfl #[.slice Ao13 t250.length co13, .slice A0 l0.length c0] rfl (by (try simp only [List.map_toArray, List.map_cons, List.map_nil]); first | done | rfl | (simp only [List.length_drop, List.length_take]; rfl)) ?_; (with_reducible refine (impl_combined.calls kj2 _ _ t250 _ _ l0 t253 _ ?side1 ?side2 ?side3 ?side4 A10.out).mono ?_); (case side1 => repeat (first | exact (Kd.S_reads' HO252.out).2.2 | (with_reducible refine Kd.C_alloc ?_ _) | (with_reducible refine Kd.C_drewN ?_ _) | (with_reducible refine Kd.C_drew ?_))); (case side2 => exact (Kd.S_reads' HO252.out).2.1); (case side3 => repeat (first | exact (Kd.C_below HR0.out HB.out) | (with_reducible refine Kd.C_alloc ?_ _) | (with_reducible refine Kd.C_drewN ?_ _) | (with_reducible refine Kd.C_drew ?_))); (case side4 => exact HC0.out); rintro e w14 ⟨v254, rfl, ho0, hb⟩; refine ⟨_, rfl, ?_⟩; have n0_ := Aside0.mk (Kd.S_below (by (with_reducible repeat (first | apply Kd.S_alloc | apply Kd.S_drewN | apply Kd.S_drew)); exact HO252.out) hb); have n1_ := Aside0.mk (Kd.R_lower ho0 (below_size (by repeat (first | (with_reducible first | exact HB.out | apply below_alloc | apply pw_below_drewN | apply below_drew1) | exact HB.out)))); have n2_ := Aside0.mk (below_step (by repeat (first | (with_reducible first | exact HB.out | apply below_alloc | apply pw_below_drewN | apply below_drew1) | exact HB.out)) hb); clear HO252; clear HB; have HO252 := n0_; have HO255 := n1_; have HB := n2_; clear n0_ n1_ n2_; (try clear hb); (try clear hb2); (try clear hk); (try clear hi); (try clear ho0); obtain ⟨Ao15, co15, eo15⟩ := Kd.R_slice HO255.out; subst eo15) | ((with_reducible refine gate_callee (f := 107) rfl ?_); refine goesL_ (some 22) rfl rfl Try.func107 (by kernel_rfl) rfl #[.slice Ao15 t253.length co15] rfl (by (try simp only [List.map_toArray, List.map_cons, List.map_nil]); first | done | rfl | (simp only [List.length_drop, List.length_take]; rfl)) ?_; (with_reducible refine (impl_shardsOf.calls kj2 _ _ t253 t256 _ ?side1 ?side2 A11.out).mono ?_); (case side1 => repeat (first | exact (Kd.R_reads' HO255.out).2.2 | (with_reducible refine Kd.C_alloc ?_ _) | (with_reducible refine Kd.C_drewN ?_ _) | (with_reducible refine Kd.C_drew ?_))); (case side2 => exact (Kd.R_reads' HO255.out).2.1); rintro e w16 ⟨v257, rfl, ho0, hb⟩; refine ⟨_, rfl, ?_⟩; have n0_ := Aside0.mk (Kd.S_below (by (with_reducible repeat (first | apply Kd.S_alloc | apply Kd.S_drewN | apply Kd.S_drew)); exact HO252.out) hb); have n1_ := Aside0.mk (Kd.R_below (by (with_reducible repeat (first | apply Kd.R_alloc | apply Kd.R_drewN | apply Kd.R_drew)); exact HO255.out) hb); have n2_ := Aside0.mk (Kd.R_lower ho0 (below_size (by repeat (first | (with_reducible first | exact HB.out | apply below_alloc | apply pw_below_drewN | apply below_drew1) | exact HB.out)))); have n3_ := Aside0.mk (below_step (by repeat (first | (with_reducible first | exact HB.out | apply below_alloc | apply pw_below_drewN | apply below_drew1) | exact HB.out)) hb); clear HO252; clear HO255; clear HB; have HO252 := n0_; have HO255 := n1_; have HO258 := n2_; have HB := n3_; clear n0_ n1_ n2_ n3_; (try clear hb); (try clear hb2); (try clear hk); (try clear hi); (try clear ho0)))
    go_ret2
    exact ⟨_, by first | rfl | (simp [errW_none, errW_some] <;> rfl) | (simp [*, errW_none, errW_some] <;> rfl), by (with_reducible repeat (first | apply Kd.R_alloc | apply Kd.R_drewN | apply Kd.R_drew)); exact HO258.out, by repeat (first | (with_reducible first | exact HB.out | apply below_alloc | apply pw_below_drewN | apply below_drew1) | exact HB.out)⟩

/-! ### spec_l1Times: function 169 -/
def spec_l1Times.l0 : Nat → Int → Int → Int → Option (Int)
 | 0, _, _, _ => none
 | k + 1, x5, x6, x7 => if x7 > 0 then (if (Go.bits .and .i64 x7 1) = 1 then (if (wrap64 (x6 * 2)) > 255 then (spec_l1Times.l0 k (Go.bits .xor .i64 x5 x6) (Go.bits .xor .i64 (wrap64 (x6 * 2)) 283) (x7 / 2)) else (spec_l1Times.l0 k (Go.bits .xor .i64 x5 x6) (wrap64 (x6 * 2)) (x7 / 2))) else (if (wrap64 (x6 * 2)) > 255 then (spec_l1Times.l0 k x5 (Go.bits .xor .i64 (wrap64 (x6 * 2)) 283) (x7 / 2)) else (spec_l1Times.l0 k x5 (wrap64 (x6 * 2)) (x7 / 2)))) else (some ((x5) % 256))
def spec_l1Times.f (k : Nat) (a0 : Int) (a1 : Int) : Option (Int) := spec_l1Times.l0 k 0 (wrap64 (a0)) (wrap64 (a1))
theorem spec_l1Times.mono_l : ∀ k, (∀ y0 y1 y2, LeO (spec_l1Times.l0 k y0 y1 y2) (spec_l1Times.l0 (k + 1) y0 y1 y2))
 | 0 => fun _ _ _ r h => by simp [spec_l1Times.l0] at h
 | k + 1 => by
  have ih0 := spec_l1Times.mono_l k
  ·intro y0 y1 y2
   unfold spec_l1Times.l0
   repeat' first
   | (with_reducible exact ih0 _ _ _)
   | (with_reducible exact LeO.refl _)
   | (with_reducible exact LeO.none _)
   | (with_reducible refine LeO.ite ?_ ?_)
   | (with_reducible refine LeO.bind ?_ (fun _ => ?_))
   | exact ih0 _ _ _
   | exact LeO.none _
   | refine LeO.ite ?_ ?_
   | refine LeO.bind ?_ (fun _ => ?_)
theorem spec_l1Times.mono : ∀ a0 a1 k, LeO (spec_l1Times.f k a0 a1) (spec_l1Times.f (k + 1) a0 a1) := by
 intro a0 a1 k
 have ih0 := spec_l1Times.mono_l k
 unfold spec_l1Times.f
 repeat' first
   | (with_reducible exact ih0 _ _ _)
   | (with_reducible exact LeO.refl _)
   | (with_reducible exact LeO.none _)
   | (with_reducible refine LeO.ite ?_ ?_)
   | (with_reducible refine LeO.bind ?_ (fun _ => ?_))
   | exact ih0 _ _ _
   | exact LeO.none _
   | refine LeO.ite ?_ ?_
   | refine LeO.bind ?_ (fun _ => ?_)
set_option maxHeartbeats 8000000 in
set_option maxRecDepth 100000 in
theorem spec_l1Times.calls (k : Nat) (a0 : Int) (a1 : Int) (r : Int) (w : World) (h : spec_l1Times.f k a0 a1 = some r) :
  Calls Try.prog 169 #[.int .u8 a0, .int .u8 a1] w fun e w' => e = .returned (.int .u8 r) ∧ Drawn0 w w' := by
 have H : (spec_l1Times.l0 k 0 (wrap64 (a0)) (wrap64 (a1))) = some r := h
 clear h
 have H' := Aside0.mk H
 clear H
 go_enter Try.func169, Try.ntmps169
 go_wp2
 go_loopg [5, 6, 7] k (fun kq v5 v6 v7 w' => ∃ (x5_1 : Int) (x6_1 : Int) (x7_1 : Int), v5 = .int .i64 x5_1 ∧ v6 = .int .i64 x6_1 ∧ v7 = .int .i64 x7_1 ∧ Aside0 (spec_l1Times.l0 kq x5_1 x6_1 x7_1 = some r) ∧ Aside0 (kq ≤ k) ∧ Drawn0 w w')
 case atStart => exact ⟨(0), (wrap64 (a0)), (wrap64 (a1)), (by first | rfl | (simp; done) | (simp [*]; done)), (by first | rfl | (simp; done) | (simp [*]; done)), (by first | rfl | (simp; done) | (simp [*]; done)), H', ⟨Nat.le_refl _⟩, by repeat (first | exact Drawn0.refl _ | apply Drawn0.step)⟩
 case round =>
  clear H'
  try clear c1
  try clear p2
  obtain ⟨x5_1, x6_1, x7_1, rfl, rfl, rfl, HA, HK1, ⟨m1, rfl⟩⟩ := hrel
  cases gk with
  | zero => exact absurd HA.out (by simp [spec_l1Times.l0])
  | succ k1 =>
   have H := HA.out
   clear HA
   simp only [spec_l1Times.l0] at H
   by_cases c3 : x7_1 > 0
   ·rw [if_pos c3] at H
    have c3b0 : decide (0 < x7_1) = true := decide_eq_true c3
    clear c3
    by_cases c4 : (Go.bits .and .i64 x7_1 1) = 1
    ·rw [if_pos c4] at H
     have c4b0 : ((Go.bits .and .i64 x7_1 1) == 1) = true := beq_iff_eq.mpr c4
     have c4b1 : ((Go.bits .and .i64 x7_1 1) != 1) = false := bne_eq_false_iff_eq.mpr c4
     clear c4
     by_cases c5 : (wrap64 (x6_1 * 2)) > 255
     ·rw [if_pos c5] at H
      have c5b0 : decide (255 < (wrap64 (x6_1 * 2))) = true := decide_eq_true c5
      clear c5
      have H' := Aside0.mk H
      clear H
      go_wp2
      go_roundg k1
      case measure => have := HK1.out; omega
      case rel => exact ⟨(Go.bits .xor .i64 x5_1 x6_1), (Go.bits .xor .i64 (wrap64 (x6_1 * 2)) 283), (x7_1 / 2), (by first | rfl | (simp; done) | (simp [*]; done)), (by first | rfl | (simp; done) | (simp [*]; done)), (by first | rfl | (simp; done) | (simp [*]; done)), H', ⟨by have := HK1.out; omega⟩, by repeat (first | exact Drawn0.refl _ | apply Drawn0.step)⟩
     ·rw [if_neg c5] at H
      have c5b0 : decide (255 < (wrap64 (x6_1 * 2))) = false := decide_eq_false c5
      clear c5
      have H' := Aside0.mk H
      clear H
      go_wp2
      go_roundg k1
      case measure => have := HK1.out; omega
      case rel => exact ⟨(Go.bits .xor .i64 x5_1 x6_1), (wrap64 (x6_1 * 2)), (x7_1 / 2), (by first | rfl | (simp; done) | (simp [*]; done)), (by first | rfl | (simp; done) | (simp [*]; done)), (by first | rfl | (simp; done) | (simp [*]; done)), H', ⟨by have := HK1.out; omega⟩, by repeat (first | exact Drawn0.refl _ | apply Drawn0.step)⟩
    ·rw [if_neg c4] at H
     have c4b0 : ((Go.bits .and .i64 x7_1 1) == 1) = false := beq_eq_false_iff_ne.mpr c4
     have c4b1 : ((Go.bits .and .i64 x7_1 1) != 1) = true := bne_iff_ne.mpr c4
     by_cases c6 : (wrap64 (x6_1 * 2)) > 255
     ·rw [if_pos c6] at H
      have c6b0 : decide (255 < (wrap64 (x6_1 * 2))) = true := decide_eq_true c6
      clear c6
      have H' := Aside0.mk H
      clear H
      go_wp2
      go_roundg k1
      case measure => have := HK1.out; omega
      case rel => exact ⟨(x5_1), (Go.bits .xor .i64 (wrap64 (x6_1 * 2)) 283), (x7_1 / 2), (by first | rfl | (simp; done) | (simp [*]; done)), (by first | rfl | (simp; done) | (simp [*]; done)), (by first | rfl | (simp; done) | (simp [*]; done)), H', ⟨by have := HK1.out; omega⟩, by repeat (first | exact Drawn0.refl _ | apply Drawn0.step)⟩
     ·rw [if_neg c6] at H
      have c6b0 : decide (255 < (wrap64 (x6_1 * 2))) = false := decide_eq_false c6
      clear c6
      have H' := Aside0.mk H
      clear H
      go_wp2
      go_roundg k1
      case measure => have := HK1.out; omega
      case rel => exact ⟨(x5_1), (wrap64 (x6_1 * 2)), (x7_1 / 2), (by first | rfl | (simp; done) | (simp [*]; done)), (by first | rfl | (simp; done) | (simp [*]; done)), (by first | rfl | (simp; done) | (simp [*]; done)), H', ⟨by have := HK1.out; omega⟩, by repeat (first | exact Drawn0.refl _ | apply Drawn0.step)⟩
   ·rw [if_neg c3] at H
    have c3b0 : decide (0 < x7_1) = false := decide_eq_false c3
    clear c3
    obtain rfl := Option.some.inj H
    go_wp2
    go_ret
    exact ⟨by first | rfl | (simp; done) | (simp [*]; done), by repeat (first | exact Drawn0.refl _ | apply Drawn0.step)⟩

end Go.Proofs.Ytgdjjghdjpaofaa.PFnAnyFew

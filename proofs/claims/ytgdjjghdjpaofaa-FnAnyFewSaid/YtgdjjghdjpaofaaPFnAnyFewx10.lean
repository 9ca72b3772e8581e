/- What the functions that FnAnyFew reaches compute, each as a Lean function, with the proof that the Go code computes it (written by our driver round the kit's printer, partly by hand). No conditions. -/
import Derived.Test.YtgdjjghdjpaofaaPFnAnyFewx0
import Derived.Test.YtgdjjghdjpaofaaPFnAnyFewx3
import Derived.Test.YtgdjjghdjpaofaaPFnAnyFewx5
namespace Go.Proofs.Ytgdjjghdjpaofaa.PFnAnyFew
open Go.RowKit Go.Proofs.YtgdjjghdjpaofaaW.PrintWords Go.Proofs.YtgdjjghdjpaofaaW.PrintLast Go.Proofs.YtgdjjghdjpaofaaW.PrintMore
attribute [local go_sem] max2_int min2_int max_two min_two max_three min_three max_four min_four   -- for this text's walks alone
set_option linter.unusedVariables false
set_option linter.unusedSimpArgs false

/-! ### impl_eliminate: function 193 -/
/-- Where p holds first, -1 for nowhere. -/
def fIdx {α : Type} (p : α → Bool) (l : List α) : Int := match l.findIdx? p with | some j => (j : Int) | none => -1
theorem fIdx_at {α : Type} {p : α → Bool} {l : List α} {k : Nat} (hk : k < l.length) (h : p l[k] = true) (h2 : (l.take k).any p = false) : fIdx p l = (k : Int) := by
 have : l.findIdx? p = some k := by
  rw [List.findIdx?_eq_some_iff_getElem]
  refine ⟨hk, h, fun j hj => ?_⟩
  have h3 := List.any_eq_false.mp h2 l[j] (by rw [List.mem_take_iff_getElem]; exact ⟨j, by omega, rfl⟩)
  simpa using h3
 unfold fIdx; rw [this]
theorem fIdx_no {α : Type} {p : α → Bool} {l : List α} (h : l.any p = false) : fIdx p l = -1 := by
 have : l.findIdx? p = none := by
  rw [List.findIdx?_eq_none_iff]
  intro x hx
  have := List.any_eq_false.mp h x hx
  simpa using this
 unfold fIdx; rw [this]
/-- slices.IndexFunc over rows of bytes: asked of the function value: at each row, in every later world, it hands back p and only draws. -/
theorem idxFuncR (g : Nat) (lb : Array Value) (eg : ∀ args w, (callFunc g args).run Try.prog w = .ok (.enter g args) w) (p : List Int → Bool) (A0 : Option Addr) (n0 c0 : Nat) (l0 : List (List Int)) (w : World) (hn0 : n0 = l0.length) (i : Int) (hi : fIdx p l0 = i)
  (hr0 : Kd.C (Kd.slice 5 (Kd.int .u8)) w A0 l0.length l0) (hp : ∀ x, x ∈ l0 → ∀ A c W, Drawn0 w W → Kd.C (Kd.int .u8) W A x.length x → x.length ≤ c → Calls Try.prog g (#[.slice A x.length c] ++ lb) W fun e w' => e = .returned (.bool (p x)) ∧ Drawn0 W w') :
  Calls Try.prog 218 #[.slice A0 n0 c0, .func (.func g) #[] lb] w fun e w' => e = .returned (.int .i64 i) ∧ Drawn0 w w' := by
 subst hn0
 subst hi
 have HR0 := Aside0.mk hr0
 have HP := Aside0.mk hp
 have hlen := Aside0.mk hr0.2.1
 clear hr0 hp
 go_enter Try.func218, Try.ntmps218
 go_wp2
 go_loopg [5, 8] l0.length (fun gg _ s8 wr => ∃ kk : Nat, kk ≤ l0.length ∧ l0.length - kk ≤ gg ∧ s8 = .int .i64 kk ∧ Drawn0 w wr ∧ Aside0 ((l0.take kk).any p = false))
 case atStart => exact ⟨0, Nat.zero_le _, by omega, rfl, by repeat (first | exact Drawn0.refl _ | apply Drawn0.step), ⟨by simp⟩⟩
 case round =>
  obtain ⟨kk, hkk, hg, rfl, ⟨m1, rfl⟩, HA⟩ := hrel
  by_cases hlt : kk < l0.length
  ·have hltz : decide ((kk : Int) < (l0.length : Int)) = true := decide_eq_true (by omega)
   have p101 : 0 ≤ (kk : Int) := by omega
   have q101 : (kk : Int) < (l0.length : Int) := by omega
   obtain ⟨ad101, A1, c1, e101, hx101_0, hl101, hi101⟩ := at_L1 HR0.out (kk : Int) p101 q101
   cases e101
   have hmem : rd_L1 l0 (kk : Int) = l0[kk] := by simp [rd_L1, hlt]
   rw [hmem, Int.toNat_natCast] at hx101_0
   rw [hmem] at hl101 hi101
   have hcall := fun W (hW : Drawn0 w W) => HP.out l0[kk] (List.getElem_mem hlt) A1 c1 W hW (by obtain ⟨m, rfl⟩ := hW; exact Kd.C_drewN hi101 m) hl101
   clear hi101
   replace p101 := eq_true p101
   replace q101 := eq_true q101
   cases hq : p l0[kk] with
   | true =>
    rw [hq] at hcall
    go_wp2_with (go_at_fn g; refine (hcall _ (by repeat (first | exact Drawn0.refl _ | apply Drawn0.step))).mono ?_; rintro e w' ⟨rfl, ⟨n2, rfl⟩⟩)
    go_ret
    refine ⟨?_, by repeat (first | exact Drawn0.refl _ | apply Drawn0.step)⟩
    rw [fIdx_at hlt hq HA.out]; rfl
   | false =>
    rw [hq] at hcall
    go_wp2_with (go_at_fn g; refine (hcall _ (by repeat (first | exact Drawn0.refl _ | apply Drawn0.step))).mono ?_; rintro e w' ⟨rfl, ⟨n2, rfl⟩⟩)
    go_roundg (l0.length - (kk + 1))
    case measure => omega
    case rel =>
     refine ⟨kk + 1, by omega, by omega, by have := hlen.out; rw [IntWalk.wrap64_in _ (by omega)]; go_num, by repeat (first | exact Drawn0.refl _ | apply Drawn0.step), ⟨?_⟩⟩
     rw [List.take_succ_eq_append_getElem hlt, List.any_append, HA.out]
     simp [hq]
  ·have hltz : decide ((kk : Int) < (l0.length : Int)) = false := decide_eq_false (by omega)
   have : kk = l0.length := by omega
   subst this
   go_wp2
   go_ret
   refine ⟨?_, by repeat (first | exact Drawn0.refl _ | apply Drawn0.step)⟩
   have h2 := HA.out
   rw [List.take_length] at h2
   rw [fIdx_no h2]; rfl
/-- The function value of elimination: has this row no 0 in the column. -/
theorem elim_clo (A0 : Option Addr) (c0 : Nat) (l0 : List Int) (g c : Nat) (W : World) (hr0 : Kd.C (Kd.int .u8) W A0 l0.length l0) (hlt : c < l0.length) (hg : W.cell? ⟨g, 0, none⟩ = some (.int .i64 (c : Int))) :
  Calls Try.prog 219 (#[.slice A0 l0.length c0] ++ #[.pointer (some ⟨g, 0, none⟩)]) W fun e w' => e = .returned (.bool (rd l0 (c : Int) != 0)) ∧ Drawn0 W w' := by
 obtain ⟨ad1, e1, hx1⟩ := Kd.at_int hr0 (c : Int) (by omega) (by omega)
 cases e1
 clear hr0
 rw [Int.toNat_natCast] at hx1
 have p1 : (0 ≤ (c : Int)) = True := eq_true (by omega)
 have q1 : ((c : Int) < (l0.length : Int)) = True := eq_true (by omega)
 clear hlt
 go_enter Try.func219, Try.ntmps219
 go_wp2
 repeat (go_quiet (fail); try go_wp2)
 go_ret
 exact ⟨by first | rfl | (simp; done) | (simp [*]; done), by repeat (first | exact Drawn0.refl _ | apply Drawn0.step)⟩
/-- A row of rows of one's own: a row put into a place. -/
theorem R_put1 {W : World} {base g n cap : Nat} {ok okp : Nat → Prop} {L : List (List Int)} {u : Value} {x : List Int} (HO : (Kd.slice 5 (Kd.int .u8)).R 22 W base ok (.slice (some ⟨g, 0, none⟩) n cap) L) (i : Nat) (hi : i < n) (hR : (Kd.int .u8).R 5 W base okp u x) (hokp : ∀ k, okp k → ok k) :
  (Kd.slice 5 (Kd.int .u8)).R 22 (W.setCell ⟨g, i, none⟩ u) base ok (.slice (some ⟨g, 0, none⟩) n cap) (L.set i x) := by
 obtain ⟨c, hcl, _, hcc, _⟩ := Kd.R_elem HO ([] : List Int) (i : Int) (by omega) (by omega)
 have hg : ∃ cells, W.heap[g]? = some (.cells cells 22 (0, 0)) := Kd.R_typed HO g (by simp [Value.ownBlock])
 obtain ⟨cells, hg⟩ := hg
 have hcl1 : c.length = 1 := hcl
 obtain ⟨c0, rfl⟩ : ∃ c0, c = [c0] := by
  match c, hcl1 with
  | [c0], _ => exact ⟨c0, rfl⟩
 have h := (Kd.R_seg HO (i : Int) (by omega) (by omega) (x' := x) (seg := [u]) (j := 0) hcl hcc (Nat.le_refl _) (Kd.M_row (Kd.R_types hR hg (by decide))) (fun k hk => ⟨hokp k hk.1, hk.2⟩)).1
 rw [Int.toNat_natCast, show i * (Kd.slice 5 (Kd.int IntKind.u8)).sz + 0 = i from by rw [Nat.add_zero]; exact Nat.mul_one i] at h
 exact h
/-- A row in a row of rows of one's own: its cell, what it reads as, whose it is. -/
theorem R_row {W : World} {base g n cap N : Nat} {ok : Nat → Prop} {L : List (List Int)} (HO : (Kd.slice 5 (Kd.int .u8)).R 22 W base ok (.slice (some ⟨g, 0, none⟩) n cap) L) (hN : ∀ x ∈ L, x.length = N) (i : Nat) (hi : i < n) :
  ∃ A c, W.cell? ⟨g, i, none⟩ = some (.slice A N c) ∧ W.frozen? ⟨g, i, none⟩ = false ∧ N ≤ c ∧ (L.getD i []).length = N ∧ Kd.C (Kd.int .u8) W A N (L.getD i []) ∧ (Kd.int .u8).R 5 W base ok (.slice A N c) (L.getD i []) := by
 obtain ⟨cs, hcl, hM, hcc, hfz⟩ := Kd.R_elem HO ([] : List Int) (i : Int) (by omega) (by omega)
 rw [Int.toNat_natCast] at hM hcc hfz
 obtain ⟨v, rfl, hR⟩ := hM
 have hc := hcc 0 v rfl
 have hf := hfz 0
 rw [show i * (Kd.slice 5 (Kd.int IntKind.u8)).sz + 0 = i from by rw [Nat.add_zero]; exact Nat.mul_one i] at hc hf
 have hlen : (L.getD i []).length = N := by
  have hl : i < L.length := by have := (Kd.R_reads' HO).1; omega
  rw [List.getD_eq_getElem?_getD, List.getElem?_eq_getElem hl]
  exact hN _ (List.getElem_mem hl)
 obtain ⟨A, c, rfl, hl, hC⟩ := Kd.R_reads hR
 rw [hlen] at hc hl hC hR
 exact ⟨A, c, hc, hf, hl, hlen, hC, Kd.R_mono hR (fun _ hk => hk.1)⟩
theorem set_len {N : Nat} {L : List (List Int)} {x : List Int} (h : ∀ y ∈ L, y.length = N) (hx : x.length = N) (i : Nat) : ∀ y ∈ L.set i x, y.length = N := by
 intro y hy
 rcases List.mem_or_eq_of_mem_set hy with h1 | rfl
 ·exact h y h1
 ·exact hx
theorem swap_at (L : List (List Int)) (a b : Nat) (ha : a < L.length) (hb : b < L.length) : (((L.set a (L.getD b [])).set b (L.getD a [])).getD a []) = L.getD b [] := by
 rw [List.getD_eq_getElem?_getD, List.getElem?_set]
 by_cases h : b = a
 ·subst h; rw [if_pos rfl, if_pos (by simpa using ha)]; rfl
 ·rw [if_neg h, List.getElem?_set, if_pos rfl, if_pos ha]; rfl
def impl_eliminate.T7 : Bool × List (List Nat × List Nat) := (true, [([], []), ([], []), ([], []), ([], []), ([], []), ([3, 4], [3, 4]), ([], []), ([], []), ([], []), ([7, 8], [7, 8]), ([6, 9], [6, 9]), ([10], [10]), ([], []), ([], []), ([12, 13], [12, 13]), ([14], [14]), ([0, 1, 0, 1, 6, 7, 8, 9, 10, 11, 15], [0, 1]), ([16, 11, 0, 1, 6, 7, 8, 9, 10, 11, 15], [11, 16]), ([2, 5, 0, 1, 2, 3, 4, 5, 6, 7, 8, 9, 10, 11, 12, 13, 14, 15, 16, 17], [2, 5]), ([18, 15, 17, 0, 1, 2, 3, 4, 5, 6, 7, 8, 9, 10, 11, 12, 13, 14, 15, 16, 17], [15, 18])])
def impl_eliminate.B7 : List Nat := [0, 0, 0, 0, 0, 24, 0, 0, 0, 384, 960, 1984, 0, 0, 12288, 28672, 65475, 131011, 262143, 524287]
theorem impl_eliminate.tab7 : rtab .any (opsOf Try.f193 7) = impl_eliminate.T7 := by kernel_rfl
theorem impl_eliminate.bits7 : waitsOk impl_eliminate.T7.2 impl_eliminate.B7 = true := by kernel_rfl
def impl_eliminate.T8 : Bool × List (List Nat × List Nat) := (true, [([], []), ([], []), ([], []), ([], []), ([2, 3], [2, 3]), ([4], [4]), ([], []), ([5, 6], [5, 6]), ([7], [7]), ([8], [8]), ([], []), ([], []), ([10, 11], [10, 11]), ([12], [12]), ([9, 13, 9], [9, 13]), ([0, 1, 0, 1, 2, 3, 4, 5, 6, 7, 8, 9, 10, 11, 12, 13, 14], [0, 1]), ([15, 14, 14, 0, 1, 2, 3, 4, 5, 6, 7, 8, 9, 10, 11, 12, 13, 14], [14, 15])])
def impl_eliminate.B8 : List Nat := [0, 0, 0, 0, 12, 28, 0, 124, 252, 508, 0, 0, 3072, 7168, 16380, 32767, 65535]
theorem impl_eliminate.tab8 : rtab .any (opsOf Try.f193 8) = impl_eliminate.T8 := by kernel_rfl
theorem impl_eliminate.bits8 : waitsOk impl_eliminate.T8.2 impl_eliminate.B8 = true := by kernel_rfl
def impl_eliminate.T13 : Bool × List (List Nat × List Nat) := (true, [([], []), ([], []), ([], []), ([], []), ([], []), ([3, 4], [3, 4]), ([5], [5]), ([], []), ([], []), ([7, 8], [7, 8]), ([9], [9]), ([6, 10], [6, 10]), ([2, 11, 11], [2, 11]), ([0, 1, 0, 1, 2, 3, 4, 5, 6, 7, 8, 9, 10, 11, 12], [0, 1]), ([13, 12, 12, 0, 1, 2, 3, 4, 5, 6, 7, 8, 9, 10, 11, 12], [12, 13])])
def impl_eliminate.B13 : List Nat := [0, 0, 0, 0, 0, 24, 56, 0, 0, 384, 896, 2040, 4092, 8191, 16383]
theorem impl_eliminate.tab13 : rtab .any (opsOf Try.f193 13) = impl_eliminate.T13 := by kernel_rfl
theorem impl_eliminate.bits13 : waitsOk impl_eliminate.T13.2 impl_eliminate.B13 = true := by kernel_rfl
mutual
def impl_eliminate.l0 : Nat → Nat → Nat → List (List Int) → Nat → Nat → Option (List (List Int) × Nat)
 | 0, _, _, _, _, _ => none
 | k + 1, N, n, L, c, rk =>
  if c < n ∧ rk < L.length then
   match (L.drop rk).findIdx? (fun r => rd r (c : Int) != 0) with
   | none => impl_eliminate.l0 k N n L (c + 1) rk
   | some i => (impl_Inverse.f k (rd (L.getD (rk + i) []) (c : Int))).bind fun t => (impl_scaled.f k t (L.getD (rk + i) [])).bind fun y =>
     if y.length = N then impl_eliminate.l1 k N n (((L.set rk (L.getD (rk + i) [])).set (rk + i) (L.getD rk [])).set rk y) c rk 0 else none
  else some (L, rk)
def impl_eliminate.l1 : Nat → Nat → Nat → List (List Int) → Nat → Nat → Nat → Option (List (List Int) × Nat)
 | 0, _, _, _, _, _, _ => none
 | k + 1, N, n, L, c, rk, r =>
  if r < L.length then
   if r ≠ rk ∧ rd (L.getD r []) (c : Int) ≠ 0 then
    (impl_scaled.f k (rd (L.getD r []) (c : Int)) (L.getD rk [])).bind fun s => (impl_added.f k (L.getD r []) s).bind fun y =>
     if y.length = N then impl_eliminate.l1 k N n (L.set r y) c rk (r + 1) else none
   else impl_eliminate.l1 k N n L c rk (r + 1)
  else impl_eliminate.l0 k N n L (c + 1) (rk + 1)
end
set_option maxHeartbeats 800000 in
set_option maxRecDepth 100000 in
theorem impl_eliminate.calls (k N n g m cap : Nat) (L L' : List (List Int)) (rk' : Nat) (W0 w : World) (hm : m = L.length) (hr : (Kd.slice 5 (Kd.int .u8)).R 22 w W0.heap.size (fun _ => True) (.slice (some ⟨g, 0, none⟩) m cap) L)
  (hN : ∀ x ∈ L, x.length = N) (hn : n ≤ N) (hNm : N ≤ 1000000) (hB : Below W0.heap.size W0 w) (h : impl_eliminate.l0 k N n L 0 0 = some (L', rk')) :
  Calls Try.prog 193 #[.slice (some ⟨g, 0, none⟩) m cap, .int .i64 (n : Int)] w fun e w' => e = .returned (.int .i64 (rk' : Int)) ∧ (Kd.slice 5 (Kd.int .u8)).R 22 w' W0.heap.size (fun _ => True) (.slice (some ⟨g, 0, none⟩) m cap) L' ∧ L'.length = m ∧ Below W0.heap.size W0 w' := by
 have HO := Aside0.mk hr
 have HN := Aside0.mk hN
 have HB := Aside0.mk hB
 have H' := Aside0.mk h
 have hm2 : m ≤ 9223372036854775807 := by rw [hm]; exact (Kd.R_reads' hr).2.2.2.1
 have HM := Aside0.mk hm
 have HM2 := Aside0.mk hm2
 have HnN := Aside0.mk hn
 have HNm := Aside0.mk hNm
 clear hr hN hB h hm hm2 hn hNm
 go_enter Try.func193, Try.ntmps193
 go_wp2_with (first | ((with_reducible refine gate_dst (N := 6) rfl ?_); refine box_event ?hg (N := 6) ?hd (cs := #[.int .i64 0]) (t := 3) ?hr ?_; (case hd => rfl); (case hg => rfl); (case hr => first | (go_simp; done) | (go_simp; rfl)); intro gb hg w4 hbox hb; have BK := Aside0.mk hbox; have HGK := Aside0.mk (by rw [hg]; exact HB.out.size : W0.heap.size ≤ gb); have HB2 := Aside0.mk (below_step HB.out hb); have HO2 := Aside0.mk (Kd.R_below HO.out hb); have hcz := blk_cell hbox 0; have hfz := blk_frozen hbox 0; clear hb hbox hg))
 go_loopg [5, 6] k (fun kq v5 v6 w' => ∃ (c rk gb : Nat) (L1 : List (List Int)), v5 = .int .i64 (rk : Int) ∧ v6 = .pointer (some ⟨gb, 0, none⟩) ∧ Aside0 (impl_eliminate.l0 kq N n L1 c rk = some (L', rk')) ∧ Aside0 (kq ≤ k) ∧
  Aside0 ((Kd.slice 5 (Kd.int .u8)).R 22 w' W0.heap.size (fun _ => True) (.slice (some ⟨g, 0, none⟩) m cap) L1) ∧ Aside0 (w'.heap[gb]? = some (.cells #[.int .i64 (c : Int)] 3 (0, 0))) ∧ Aside0 (W0.heap.size ≤ gb) ∧ Aside0 (∀ x ∈ L1, x.length = N) ∧ Aside0 (L1.length = m) ∧ Aside0 (c ≤ n) ∧ Aside0 (Below W0.heap.size W0 w'))
 case atStart => exact ⟨0, 0, gb, L, rfl, rfl, H', ⟨Nat.le_refl _⟩, ⟨Kd.R_set HO2.out BK.out (by decide) _ _⟩, ⟨blk_put BK.out 0 _ rfl⟩, HGK, HN, ⟨HM.out.symm⟩, ⟨Nat.zero_le _⟩, ⟨below_set HB2.out HGK.out⟩⟩
 case round =>
  clear H' hcz hfz BK HGK HB2 HO2 HO HN HM HB
  obtain ⟨c, rk, gb, L1, rfl, rfl, HA, HK1, HO, BK, HGK, HN, HM, Hcn, HB⟩ := hrel
  cases gk with
  | zero => exact absurd HA.out (by simp [impl_eliminate.l0])
  | succ k1 =>
   have H := HA.out
   clear HA
   simp only [impl_eliminate.l0] at H
   have hcz := blk_cell BK.out 0
   have hfz := blk_frozen BK.out 0
   have hcap := Aside0.mk (Kd.R_reads' HO.out).2.1
   by_cases hc : c < n ∧ rk < L1.length
   ·rw [if_pos hc] at H
    obtain ⟨hc1, hc2⟩ := hc
    have h1a : decide ((c : Int) < (n : Int)) = true := decide_eq_true (by omega)
    have h1b : decide ((rk : Int) < (m : Int)) = true := decide_eq_true (by have := HM.out; omega)
    have h1c : decide (c < n) = true := decide_eq_true (by omega)
    have h1d : decide (rk < m) = true := decide_eq_true (by have := HM.out; omega)
    have HC1 := Aside0.mk hc1
    have HC2 := Aside0.mk hc2
    have H' := Aside0.mk H
    clear H hc1 hc2
    have h2a : (0 ≤ (rk : Int)) = True := eq_true (by omega)
    have h2b : ((rk : Int) ≤ (m : Int)) = True := eq_true (by have := HM.out; have := HC2.out; omega)
    have h2c : (cap = rk) = False := eq_false (by have := HM.out; have := HC2.out; have := hcap.out; omega)
    have hCd : Kd.C (Kd.slice 5 (Kd.int .u8)) wr (some ⟨g, rk, none⟩) (L1.drop rk).length (L1.drop rk) := by
     have h := Kd.C_drop (m := rk) (Kd.R_reads' HO.out).2.2 (by have := HC2.out; omega) (by have := HM.out; have := hcap.out; omega : L1.length ≤ cap)
     rw [if_neg (by have := HM.out; have := HC2.out; have := hcap.out; omega)] at h
     have e : (Option.map (fun x => x.add (rk * (Kd.slice 5 (Kd.int IntKind.u8)).sz)) (some (⟨g, 0, none⟩ : Addr))) = some ⟨g, rk, none⟩ := by
      rw [show rk * (Kd.slice 5 (Kd.int IntKind.u8)).sz = rk from Nat.mul_one rk]
      show some ((⟨g, 0, none⟩ : Addr).add rk) = _
      rw [add_plain]
     rw [e] at h
     exact h
    have HCd := Aside0.mk hCd
    clear hCd
    have eg : ∀ args w, (callFunc 219 args).run Try.prog w = .ok (.enter 219 args) w := enters_of Try.func219 (by kernel_rfl) rfl
    have hclo : ∀ W, Drawn0 wr W → ∀ x, x ∈ L1.drop rk → ∀ A c' W', Drawn0 W W' → Kd.C (Kd.int .u8) W' A x.length x → x.length ≤ c' → Calls Try.prog 219 (#[.slice A x.length c'] ++ #[.pointer (some ⟨gb, 0, none⟩)]) W' fun e w' => e = .returned (.bool (rd x (c : Int) != 0)) ∧ Drawn0 W' w' := by
     intro W hW x hx A c' W' hW' hxr hxc
     refine elim_clo A c' x gb c W' hxr (by rw [HN.out x (List.mem_of_mem_drop hx)]; have := HC1.out; have := HnN.out; omega) ?_
     obtain ⟨m1, rfl⟩ := hW
     obtain ⟨m2, rfl⟩ := hW'
     have := blk_cell BK.out 0
     go_simp
    have Hclo := Aside0.mk hclo
    clear hclo
    have e6 : (0 ≤ (c : Int)) := by omega
    have e7 : ((c : Int) ≤ 1000000) := by have := HC1.out; have := HnN.out; have := HNm.out; omega
    cases hf : (L1.drop rk).findIdx? (fun r => rd r (c : Int) != 0) with
    | none =>
     have hfi : fIdx (fun r => rd r (c : Int) != 0) (L1.drop rk) = -1 := by unfold fIdx; rw [hf]
     have HFI := Aside0.mk hfi
     have H := H'.out
     rw [hf] at H
     replace H' := Aside0.mk H
     clear H hf hfi
     go_wp2_with (first | (go_at_call 218; refine (idxFuncR 219 _ eg (fun r => rd r (c : Int) != 0) _ _ _ (L1.drop rk) _ (by rw [List.length_drop, HM.out]) (-1) HFI.out HCd.out (Hclo.out _ ⟨0, rfl⟩)).mono ?_; rintro e w' ⟨rfl, ⟨n2, rfl⟩⟩) | ((with_reducible refine gate_dst (N := 6) rfl ?_); refine box_event ?hg (N := 6) ?hd (cs := #[.int .i64 0]) (t := 3) ?hr ?_; (case hd => rfl); (case hg => rfl); (case hr => first | (go_simp; done) | (go_simp; rfl)); intro g2 hg w5 hbox hb; have BK2 := Aside0.mk hbox; have HGK2 := Aside0.mk (by rw [hg]; exact (below_size (by repeat (first | (with_reducible first | exact HB.out | apply below_alloc | apply pw_below_drewN | apply below_drew1) | exact HB.out))) : W0.heap.size ≤ g2); have HB2 := Aside0.mk (below_step (by repeat (first | (with_reducible first | exact HB.out | apply below_alloc | apply pw_below_drewN | apply below_drew1) | exact HB.out)) hb); have HO2 := Aside0.mk (Kd.R_below (Kd.R_drewN HO.out _) hb); have hcz2 := blk_cell hbox 0; have hfz2 := blk_frozen hbox 0; clear hb hbox hg))
     go_roundg k1
     case measure => have := HK1.out; omega
     case rel => exact ⟨c + 1, rk, g2, L1, rfl, rfl, H', ⟨by have := HK1.out; omega⟩, ⟨Kd.R_set (Kd.R_set HO2.out BK2.out (by decide) _ _) (blk_put BK2.out 0 _ rfl) (by decide) _ _⟩, ⟨by have h := blk_put (blk_put BK2.out 0 (.int .i64 (c : Int)) rfl) 0 (.int .i64 ((c + 1 : Nat) : Int)) rfl; exact h⟩, HGK2, HN, HM, ⟨HC1.out⟩, ⟨below_set (below_set HB2.out HGK2.out) HGK2.out⟩⟩
    | some i =>
     have hfi : fIdx (fun r => rd r (c : Int) != 0) (L1.drop rk) = (i : Int) := by unfold fIdx; rw [hf]
     have hil : i < (L1.drop rk).length := (List.findIdx?_eq_some_iff_getElem.mp hf).1
     have HFI := Aside0.mk hfi
     have H := H'.out
     rw [hf] at H
     dsimp only at H
     obtain ⟨t, A1, H⟩ := Option.bind_eq_some_iff.mp H
     obtain ⟨y, A2, H⟩ := Option.bind_eq_some_iff.mp H
     by_cases hyN : y.length = N
     case neg => rw [if_neg hyN] at H; exact absurd H (by simp)
     rw [if_pos hyN] at H
     obtain ⟨q, hq⟩ : ∃ q, q = rk + i := ⟨_, rfl⟩
     rw [← hq] at A1 A2 H
     have HYN := Aside0.mk hyN
     have HA1 := Aside0.mk A1
     have HA2 := Aside0.mk A2
     replace H' := Aside0.mk H
     have hqm : q < m := by have := HM.out; rw [List.length_drop] at hil; omega
     have HQ := Aside0.mk hq
     have HQM := Aside0.mk hqm
     have hqi : (rk : Int) + (i : Int) = (q : Int) := by omega
     have i0 : decide ((i : Int) < 0) = false := decide_eq_false (by omega)
     have i1 : 0 ≤ (q : Int) := by omega
     have i2 : (q : Int) ≤ 9223372036854775807 := by have := HM2.out; omega
     have i3 : wrap64 (q : Int) = (q : Int) := by unfold wrap64; omega
     have i4 : IntKind.i64.wrap (q : Int) = (q : Int) := by rw [i64_w]; exact i3
     clear H hf hfi hil A1 A2 hyN hq
     go_wp2_with (first | (go_at_call 218; refine (idxFuncR 219 _ eg (fun r => rd r (c : Int) != 0) _ _ _ (L1.drop rk) _ (by rw [List.length_drop, HM.out]) (i : Int) HFI.out HCd.out (Hclo.out _ ⟨0, rfl⟩)).mono ?_; rintro e w' ⟨rfl, ⟨n2, rfl⟩⟩))
     have HB7 := Aside0.mk (show Below W0.heap.size W0 (wr.drewN n2).drew by repeat (first | (with_reducible first | exact HB.out | apply below_alloc | apply pw_below_drewN | apply below_drew1) | exact HB.out))
     have HO7 := Aside0.mk (Kd.R_drew (Kd.R_drewN HO.out n2))
     have BK7 : Aside0 ((wr.drewN n2).drew.heap[gb]? = some (.cells #[.int .i64 (c : Int)] 3 (0, 0))) := ⟨BK.out⟩
     have hrm : rk < m := by have := HM.out; have := HC2.out; omega
     obtain ⟨Aq, cq, hxq, hfq, hlq, hNq, hCq, hRq⟩ := R_row HO7.out HN.out q hqm
     obtain ⟨Ak, ck, hxk, hfk, hlk, hNk, hCk, hRk⟩ := R_row HO7.out HN.out rk hrm
     have HRq := Aside0.mk hRq
     have HRk := Aside0.mk hRk
     have HNq := Aside0.mk hNq
     have HNk := Aside0.mk hNk
     have Hxq := Aside0.mk hxq
     have Hxk := Aside0.mk hxk
     have Hfk := Aside0.mk hfk
     clear hRq hRk hNq hNk hCq hCk hlq hlk hfq hfk hxq hxk
     have r1 : ((0 : Int) ≤ (q : Int)) = True := eq_true (by omega)
     have r2 : ((q : Int) < (m : Int)) = True := eq_true (by omega)
     have r3 : ((0 : Int) ≤ (rk : Int)) = True := eq_true (by omega)
     have r4 : ((rk : Int) < (m : Int)) = True := eq_true (by omega)
     have r5 : (q < m) = True := eq_true hqm
     have r6 : (rk < m) = True := eq_true hrm
     refine start_ (n := 20) (S := fun w' => w'.cell? ⟨g, q, none⟩ = some (.slice Aq N cq) ∧ w'.cell? ⟨g, rk, none⟩ = some (.slice Ak N ck)) (ds := [17, 19]) #[false, false, false, false, false, false, false, false, false, false, false, false, false, false, false, false, false, false, false, false] (by kernel_rfl) rfl rfl ⟨Hxq.out, Hxk.out⟩ (fun hHeld => ?_)
     refine with_tabW impl_eliminate.tab7 impl_eliminate.bits7 (fun HT_ HW_ => ?_)
     generalize (wr.drewN n2).drew = w7 at HB7 HO7 BK7 HRq HRk Hxq Hxk Hfk hHeld ⊢
     refine puR 0 ?_
     refine puR 1 ?_
     refine puR 2 ?_
     refine puR 3 ?_
     refine puR 4 ?_
     refine puR 5 ?_
     refine puR 6 ?_
     refine puR 7 ?_
     refine puR 8 ?_
     refine puR 9 ?_
     refine puR 10 ?_
     refine taR 11 ?_
     refine puR 12 ?_
     refine puR 13 ?_
     refine puR 14 ?_
     refine taR 15 ?_
     refine puR 16 ?_
     refine last_ (i := 17) (N := none) #[true, true, true, true, true, true, true, true, true, true, true, true, true, true, true, true, true, true, false, false] rfl rfl (one_of HT_.out (by kernel_rfl)) (by decide) (fun K hK => ?_)
     refine skip_ (w1 := ?_) (by rfl) rfl ?_ ?_
     rotate_left
     ·have h1_ := Hxk.out; have h2_ := Hfk.out; go_simp
      rfl
     refine hK.out _ _ ?_
     clear hK K
     have HOa := Aside0.mk (R_put1 HO7.out rk hrm HRq.out (fun _ h => h))
     have hgt : ∃ cells, w7.heap[g]? = some (.cells cells 22 (0, 0)) := Kd.R_typed HO7.out g (by simp [Value.ownBlock])
     have HGT := Aside0.mk hgt
     have HGB := Aside0.mk (Kd.R_base HO7.out g (by simp [Value.ownBlock]))
     have HGE := Aside0.mk (show gb ≠ g by intro e_; exact Kd.R_ne HO7.out BK7.out (by decide) (by rw [e_]; rfl))
     have hNa := set_len HN.out HNq.out rk
     obtain ⟨Ab, cb, hxb, hfb, _, _, _, _⟩ := R_row HOa.out hNa q hqm
     have Hxb := Aside0.mk hxb
     have Hfb := Aside0.mk hfb
     have HNa := Aside0.mk hNa
     have HRk2 : Aside0 ((Kd.int .u8).R 5 (w7.setCell ⟨g, rk, none⟩ (.slice Aq N cq)) W0.heap.size (fun _ => True) (.slice Ak N ck) (L1.getD rk [])) := by
      obtain ⟨cells, hc⟩ := HGT.out
      exact ⟨Kd.R_set HRk.out hc (by decide) _ _⟩
     have HB8 := Aside0.mk (below_set (j := rk) (v := .slice Aq N cq) HB7.out HGB.out)
     have BK8 := Aside0.mk (blk_far BK7.out (p := ⟨g, rk, none⟩) HGE.out (.slice Aq N cq))
     clear hgt hNa hxb hfb HO7 HRq HRk Hxq Hxk Hfk hHeld BK7 HB7 HGT
     refine puR 18 ?_
     refine last_ (i := 19) (N := none) #[true, true, true, true, true, true, true, true, true, true, true, true, true, true, true, true, true, true, true, true] rfl rfl (one_of HT_.out (by kernel_rfl)) (by decide) (fun K hK => ?_)
     refine skip_ (w1 := ?_) (by rfl) rfl ?_ ?_
     rotate_left
     ·have h1_ := Hxb.out; have h2_ := Hfb.out; go_simp
      rfl
     refine hK.out _ _ ?_
     clear hK K
     refine done_ (done_of HT_.out (by kernel_rfl)) ?_
     have HO9 := Aside0.mk (R_put1 HOa.out q hqm HRk2.out (fun _ h => h))
     have HB9 := Aside0.mk (below_set (j := q) (v := .slice Ak N ck) HB8.out HGB.out)
     have BK9 := Aside0.mk (blk_far BK8.out (p := ⟨g, q, none⟩) HGE.out (.slice Ak N ck))
     have HN9 := Aside0.mk (set_len HNa.out HNk.out q)
     have hat := swap_at L1 rk q (by have := HM.out; omega) (by have := HM.out; omega)
     have HAT := Aside0.mk hat
     have HM9 := Aside0.mk (show ((L1.set rk (L1.getD q [])).set q (L1.getD rk [])).length = m by rw [List.length_set, List.length_set]; exact HM.out)
     clear hat Hxb Hfb HRk2 HOa HNa HB8 BK8 HT_ HW_
     generalize (w7.setCell ⟨g, rk, none⟩ (.slice Aq N cq)).setCell ⟨g, q, none⟩ (.slice Ak N ck) = w9 at HO9 HB9 BK9 ⊢
     generalize (L1.set rk (L1.getD q [])).set q (L1.getD rk []) = L2 at HO9 HN9 HAT HM9 H' ⊢
     go_wp2
     obtain ⟨Ar, cr, hxr, hfr, hlr, hNr, hCr, hRr⟩ := R_row (Kd.R_drew HO9.out) HN9.out rk hrm
     have hc64 : (c : Int) < (N : Int) := by have := HC1.out; have := HnN.out; omega
     obtain ⟨adr, ear, hxc⟩ := Kd.at_int hCr (c : Int) (by omega) hc64
     subst ear
     rw [Int.toNat_natCast] at hxc
     rw [← HAT.out] at HA1 HA2
     have HCr := Aside0.mk hCr
     have HNr := Aside0.mk hNr
     have Hlr := Aside0.mk hlr
     clear hRr hCr hNr hlr hfr
     have t1 : ((0 : Int) ≤ (c : Int)) = True := eq_true (by omega)
     have t2 : ((c : Int) < (N : Int)) = True := eq_true hc64
     have t3 : (c < N) = True := eq_true (by omega)
     refine start_ (n := 17) (S := fun w' => w'.cell? ⟨g, rk, none⟩ = some (.slice (some adr) N cr) ∧ w'.cell? ⟨gb, 0, none⟩ = some (.int .i64 (c : Int)) ∧ w'.cell? (adr.add c) = some (.int .u8 (rd (L2.getD rk []) (c : Int)))) (ds := [16]) #[false, false, false, false, false, false, false, false, false, false, false, false, false, false, false, false, false] (by kernel_rfl) rfl rfl ⟨hxr, (blk_cell BK9.out 0).trans rfl, hxc⟩ (fun hHeld => ?_)
     refine with_tabW impl_eliminate.tab8 impl_eliminate.bits8 (fun HT_ HW_ => ?_)
     have HO10 := Aside0.mk (Kd.R_drew HO9.out)
     have HB10 := Aside0.mk (show Below W0.heap.size W0 w9.drew by repeat (first | (with_reducible first | exact HB9.out | apply below_alloc | apply pw_below_drewN | apply below_drew1) | exact HB9.out))
     have BK10 : Aside0 (w9.drew.heap[gb]? = some (.cells #[.int .i64 (c : Int)] 3 (0, 0))) := ⟨BK9.out⟩
     clear HO9 HB9 BK9 hxr hxc
     generalize w9.drew = w10 at HO10 HB10 BK10 HCr hHeld ⊢
     refine puR 0 ?_
     refine puR 1 ?_
     refine puR 2 ?_
     refine puR 3 ?_
     refine puR 4 ?_
     refine puR 10 ?_
     refine puR 11 ?_
     refine puR 12 ?_
     refine taR 5 ?_
     refine taR 6 ?_
     refine puR 7 ?_
     refine taR 8 ?_
     refine taR 13 ?_
     refine onR 9 (fun K hK => ?_)
     refine gS Try.func204 #[.int .u8 (rd (L2.getD rk []) (c : Int))] ?_
     with_reducible refine (impl_Inverse.calls k1 _ t _ HA1.out).mono ?_
     rintro e w' ⟨rfl, ⟨nd, rfl⟩⟩
     refine ⟨_, rfl, ?_⟩
     refine hK.out _ _ hHeld (fun hHeld => ?_)
     clear hK K
     refine noR ?_
     refine onR 14 (fun K hK => ?_)
     refine gS Try.func167 #[.int .u8 t, .slice (some adr) N cr] ?_
     have hsc := impl_scaled.calls k1 t (some adr) cr (L2.getD rk []) y (w10.drewN nd) (by rw [HNr.out]; exact Kd.C_drewN HCr.out nd) (by rw [HNr.out]; exact Hlr.out) HA2.out
     rw [HNr.out] at hsc
     with_reducible refine hsc.mono ?_
     rintro e w11 ⟨v60, rfl, hRy, hb⟩
     obtain ⟨A6, c6, rfl⟩ := Kd.R_slice hRy
     rw [HYN.out] at hRy ⊢
     refine ⟨_, rfl, ?_⟩
     refine hK.out _ _ ⟨pw_cell_below hb hHeld.1, pw_cell_below hb hHeld.2.1, pw_cell_below hb hHeld.2.2⟩ (fun hHeld => ?_)
     clear hK K hsc
     refine noR ?_
     have HB11 := Aside0.mk (below_step (show Below W0.heap.size W0 (w10.drewN nd) by repeat (first | (with_reducible first | exact HB10.out | apply below_alloc | apply pw_below_drewN | apply below_drew1) | exact HB10.out)) hb)
     have HO11 := Aside0.mk (Kd.R_below (Kd.R_drewN HO10.out nd) hb)
     have BK11 : Aside0 (w11.heap[gb]? = some (.cells #[.int .i64 (c : Int)] 3 (0, 0))) := ⟨(hb.block gb (blk_lt BK10.out)).trans BK10.out⟩
     have HRy := Aside0.mk (Kd.R_lower hRy (by have := HB10.out.size; exact this : W0.heap.size ≤ (w10.drewN nd).heap.size))
     clear hb hRy
     obtain ⟨Ab2, cb2, hxb2, hfb2, _, _, _, _⟩ := R_row HO11.out HN9.out rk hrm
     have Hxb2 := Aside0.mk hxb2
     have Hfb2 := Aside0.mk hfb2
     clear hxb2 hfb2 HO10 HB10 BK10 HCr
     refine puR 15 ?_
     refine last_ (i := 16) (N := none) #[true, true, true, true, true, true, true, true, true, true, true, true, true, true, true, true, true] rfl rfl (one_of HT_.out (by kernel_rfl)) (by decide) (fun K hK => ?_)
     refine skip_ (w1 := ?_) (by rfl) rfl ?_ ?_
     rotate_left
     ·have h1_ := Hxb2.out; have h2_ := Hfb2.out; go_simp
      rfl
     refine hK.out _ _ ?_
     clear hK K
     refine done_ (done_of HT_.out (by kernel_rfl)) ?_
     have HO12 := Aside0.mk (R_put1 HO11.out rk hrm HRy.out (fun _ h => h))
     have HB12 := Aside0.mk (below_set (j := rk) (v := .slice A6 N c6) HB11.out HGB.out)
     have BK12 := Aside0.mk (blk_far BK11.out (p := ⟨g, rk, none⟩) HGE.out (.slice A6 N c6))
     have HN12 := Aside0.mk (set_len HN9.out HYN.out rk)
     have HM12 := Aside0.mk (show (L2.set rk y).length = m by rw [List.length_set]; exact HM9.out)
     clear Hxb2 Hfb2 HRy HO11 HB11 BK11 HT_ HW_ HN9 HM9 HYN HA1 HA2 HAT hHeld
     generalize w11.setCell ⟨g, rk, none⟩ (.slice A6 N c6) = w12 at HO12 HB12 BK12 ⊢
     generalize L2.set rk y = L3 at HO12 HN12 HM12 H' ⊢
     go_wp2
     go_loopg [64] k1 (fun kq v64 w' => ∃ (r : Nat) (L4 : List (List Int)), v64 = .int .i64 (r : Int) ∧ Aside0 (impl_eliminate.l1 kq N n L4 c rk r = some (L', rk')) ∧ Aside0 (kq ≤ k1) ∧ Aside0 ((Kd.slice 5 (Kd.int .u8)).R 22 w' W0.heap.size (fun _ => True) (.slice (some ⟨g, 0, none⟩) m cap) L4) ∧
      Aside0 (w'.heap[gb]? = some (.cells #[.int .i64 (c : Int)] 3 (0, 0))) ∧ Aside0 (∀ x ∈ L4, x.length = N) ∧ Aside0 (L4.length = m) ∧ Aside0 (Below W0.heap.size W0 w'))
     case atStart => exact ⟨0, L3, rfl, H', ⟨Nat.le_refl _⟩, HO12, BK12, HN12, HM12, HB12⟩
     case round =>
      clear H' HO12 BK12 HN12 HM12 HB12 HO BK HN HM HB HCd Hclo eg hcz hfz HFI HNq HNk i0 h1a h1b h1c h1d h2a h2b h2c hqi r1 r2 r5 HQ HQM i1 i2 i3 i4 hqm HC2
      obtain ⟨r, L4, rfl, HA, HK2, HO, BK, HN, HM, HB⟩ := hrel
      cases gk with
      | zero => exact absurd HA.out (by simp [impl_eliminate.l1])
      | succ k2 =>
       have H := HA.out
       clear HA
       simp only [impl_eliminate.l1] at H
       have hcz := (blk_cell BK.out 0).trans rfl
       have hfz := blk_frozen BK.out 0
       by_cases hr1 : r < L4.length
       ·rw [if_pos hr1] at H
        have hrm' : r < m := by have := HM.out; omega
        obtain ⟨Ar, cr, hxr, hfr, hlr, hNr, hCr, hRr⟩ := R_row HO.out HN.out r hrm'
        have hc64 : (c : Int) < (N : Int) := by have := HC1.out; have := HnN.out; omega
        obtain ⟨adr, ear, hxc⟩ := Kd.at_int hCr (c : Int) (by omega) hc64
        subst ear
        rw [Int.toNat_natCast] at hxc
        have HCr := Aside0.mk hCr
        have HNr := Aside0.mk hNr
        have Hlr := Aside0.mk hlr
        clear hRr hCr hNr hlr hfr hr1
        have t1 : ((0 : Int) ≤ (c : Int)) = True := eq_true (by omega)
        have t2 : ((c : Int) < (N : Int)) = True := eq_true hc64
        have t3 : (c < N) = True := eq_true (by omega)
        have t4 : ((0 : Int) ≤ (r : Int)) = True := eq_true (by omega)
        have t5 : ((r : Int) < (m : Int)) = True := eq_true (by omega)
        have t6 : (r < m) = True := eq_true hrm'
        have t7 : decide ((r : Int) < (m : Int)) = true := decide_eq_true (by omega)
        have t8 : decide (r < m) = true := decide_eq_true hrm'
        have t9 : 0 ≤ (r : Int) := by omega
        have ta : (r : Int) ≤ 9223372036854775806 := by have := HM2.out; omega
        by_cases hrr : r = rk
        ·subst hrr
         rw [if_neg (fun h => h.1 rfl)] at H
         have H' := Aside0.mk H
         clear H
         have b1 : ((r : Int) != (r : Int)) = false := by simp
         go_wp2
         go_roundg k2
         case measure => have := HK1.out; have := HK2.out; omega
         case rel => exact ⟨r + 1, L4, by go_num, H', ⟨by have := HK2.out; omega⟩, HO, BK, HN, HM, HB⟩
        ·by_cases hx0 : rd (L4.getD r []) (c : Int) = 0
         ·rw [if_neg (fun h => h.2 hx0)] at H
          have H' := Aside0.mk H
          clear H
          rw [hx0] at hxc
          have b1 : ((r : Int) != (rk : Int)) = true := by simp; omega
          have b2 : ((r : Int) == (rk : Int)) = false := by simp; omega
          have b3 : (r = rk) = False := eq_false hrr
          have b4 : (r != rk) = true := by simp; omega
          clear hx0 hrr
          go_wp2
          go_roundg k2
          case measure => have := HK1.out; have := HK2.out; omega
          case rel => exact ⟨r + 1, L4, by go_num, H', ⟨by have := HK2.out; omega⟩, HO, BK, HN, HM, HB⟩
         ·rw [if_pos ⟨hrr, hx0⟩] at H
          obtain ⟨s, A1, H⟩ := Option.bind_eq_some_iff.mp H
          obtain ⟨y, A2, H⟩ := Option.bind_eq_some_iff.mp H
          by_cases hyN : y.length = N
          case neg => rw [if_neg hyN] at H; exact absurd H (by simp)
          rw [if_pos hyN] at H
          have H' := Aside0.mk H
          have HYN := Aside0.mk hyN
          have HA1 := Aside0.mk A1
          have HA2 := Aside0.mk A2
          have b1 : ((r : Int) != (rk : Int)) = true := by simp; omega
          have b2 : ((r : Int) == (rk : Int)) = false := by simp; omega
          have b3 : (r = rk) = False := eq_false hrr
          have b4 : (r != rk) = true := by simp; omega
          have b5 : (rd (L4.getD r []) (c : Int) != 0) = true := by simpa using hx0
          have b6 : (rd (L4.getD r []) (c : Int) == 0) = false := by simpa using hx0
          have b7 : (rd (L4.getD r []) (c : Int) = 0) = False := eq_false hx0
          have b8 : (rd (L4[r]?.getD []) (c : Int) != 0) = true := b5
          have b9 : (rd (L4[r]?.getD []) (c : Int) == 0) = false := b6
          obtain ⟨Ak, ck, hxk, hfk, hlk, hNk, hCk, hRk⟩ := R_row HO.out HN.out rk hrm
          have HCk := Aside0.mk hCk
          have HNk := Aside0.mk hNk
          have Hlk := Aside0.mk hlk
          have Hxk := Aside0.mk hxk
          clear H hx0 hrr A1 A2 hyN hCk hNk hlk hfk hRk hxk
          go_wp2
          refine start_ (n := 15) (S := fun w' => w'.cell? ⟨g, rk, none⟩ = some (.slice Ak N ck) ∧ w'.cell? ⟨gb, 0, none⟩ = some (.int .i64 (c : Int)) ∧ w'.cell? (adr.add c) = some (.int .u8 (rd (L4.getD r []) (c : Int)))) (ds := [14]) #[false, false, false, false, false, false, false, false, false, false, false, false, false, false, false] (by kernel_rfl) rfl rfl ⟨Hxk.out, (blk_cell BK.out 0).trans rfl, hxc⟩ (fun hHeld => ?_)
          refine with_tabW impl_eliminate.tab13 impl_eliminate.bits13 (fun HT_ HW_ => ?_)
          have HO10 := Aside0.mk (Kd.R_drew HO.out)
          have HB10 := Aside0.mk (show Below W0.heap.size W0 wr.drew by repeat (first | (with_reducible first | exact HB.out | apply below_alloc | apply pw_below_drewN | apply below_drew1) | exact HB.out))
          have BK10 : Aside0 (wr.drew.heap[gb]? = some (.cells #[.int .i64 (c : Int)] 3 (0, 0))) := ⟨BK.out⟩
          have HCr2 := Aside0.mk (Kd.C_drew HCr.out)
          have HCk2 := Aside0.mk (Kd.C_drew HCk.out)
          clear HO HB BK hxr hxc Hxk HCr HCk hcz hfz
          generalize wr.drew = w10 at HO10 HB10 BK10 HCr2 HCk2 hHeld ⊢
          refine puR 0 ?_
          refine puR 1 ?_
          refine puR 2 ?_
          refine puR 3 ?_
          refine puR 7 ?_
          refine puR 8 ?_
          refine puR 9 ?_
          refine taR 4 ?_
          refine puR 5 ?_
          refine taR 6 ?_
          refine taR 10 ?_
          refine onR 11 (fun K hK => ?_)
          refine gS Try.func167 #[.int .u8 (rd (L4.getD r []) (c : Int)), .slice Ak N ck] ?_
          have hsc := impl_scaled.calls k2 (rd (L4.getD r []) (c : Int)) Ak ck (L4.getD rk []) s w10 (by rw [HNk.out]; exact HCk2.out) (by rw [HNk.out]; exact Hlk.out) HA1.out
          rw [HNk.out] at hsc
          with_reducible refine hsc.mono ?_
          rintro e w11 ⟨v60, rfl, hRy, hb⟩
          obtain ⟨A6, c6, rfl⟩ := Kd.R_slice hRy
          refine ⟨_, rfl, ?_⟩
          refine hK.out _ _ ⟨pw_cell_below hb hHeld.1, pw_cell_below hb hHeld.2.1, pw_cell_below hb hHeld.2.2⟩ (fun hHeld => ?_)
          clear hK K hsc
          refine noR ?_
          have HB11 := Aside0.mk (below_step HB10.out hb)
          have HO11 := Aside0.mk (Kd.R_below HO10.out hb)
          have BK11 : Aside0 (w11.heap[gb]? = some (.cells #[.int .i64 (c : Int)] 3 (0, 0))) := ⟨(hb.block gb (blk_lt BK10.out)).trans BK10.out⟩
          have HCr3 := Aside0.mk (Kd.C_below HCr2.out hb)
          have hR60 := Kd.R_reads' hRy
          have HC60 := Aside0.mk hR60.2.2
          have Hc60 := Aside0.mk hR60.2.1
          clear hb hRy hR60 HO10 HB10 BK10 HCr2 HCk2
          refine onR 12 (fun K hK => ?_)
          refine gS Try.func166 #[.slice (some adr) N cr, .slice A6 s.length c6] ?_
          have hsc := impl_added.calls k2 (some adr) cr (L4.getD r []) A6 c6 s y w11 (by rw [HNr.out]; exact HCr3.out) (by rw [HNr.out]; exact Hlr.out) HC60.out Hc60.out HA2.out
          rw [HNr.out] at hsc
          with_reducible refine hsc.mono ?_
          rintro e w12' ⟨v61, rfl, hRy, hb⟩
          obtain ⟨A7, c7, rfl⟩ := Kd.R_slice hRy
          rw [HYN.out] at hRy ⊢
          refine ⟨_, rfl, ?_⟩
          refine hK.out _ _ ⟨pw_cell_below hb hHeld.1, pw_cell_below hb hHeld.2.1, pw_cell_below hb hHeld.2.2⟩ (fun hHeld => ?_)
          clear hK K hsc
          refine noR ?_
          have HB13 := Aside0.mk (below_step HB11.out hb)
          have HO13 := Aside0.mk (Kd.R_below HO11.out hb)
          have BK13 : Aside0 (w12'.heap[gb]? = some (.cells #[.int .i64 (c : Int)] 3 (0, 0))) := ⟨(hb.block gb (blk_lt BK11.out)).trans BK11.out⟩
          have HRy := Aside0.mk (Kd.R_lower hRy HB11.out.size)
          clear hb hRy HO11 HB11 BK11 HCr3 HC60 Hc60
          obtain ⟨Ab2, cb2, hxb2, hfb2, _, _, _, _⟩ := R_row HO13.out HN.out r hrm'
          have Hxb2 := Aside0.mk hxb2
          have Hfb2 := Aside0.mk hfb2
          clear hxb2 hfb2
          refine puR 13 ?_
          refine last_ (i := 14) (N := none) #[true, true, true, true, true, true, true, true, true, true, true, true, true, true, true] rfl rfl (one_of HT_.out (by kernel_rfl)) (by decide) (fun K hK => ?_)
          refine skip_ (w1 := ?_) (by rfl) rfl ?_ ?_
          rotate_left
          ·have h1_ := Hxb2.out; have h2_ := Hfb2.out; go_simp
           rfl
          refine hK.out _ _ ?_
          clear hK K
          refine done_ (done_of HT_.out (by kernel_rfl)) ?_
          have HO14 := Aside0.mk (R_put1 HO13.out r hrm' HRy.out (fun _ h => h))
          have HB14 := Aside0.mk (below_set (j := r) (v := .slice A7 N c7) HB13.out HGB.out)
          have BK14 := Aside0.mk (blk_far BK13.out (p := ⟨g, r, none⟩) HGE.out (.slice A7 N c7))
          have HN14 := Aside0.mk (set_len HN.out HYN.out r)
          have HM14 := Aside0.mk (show (L4.set r y).length = m by rw [List.length_set]; exact HM.out)
          clear Hxb2 Hfb2 HRy HO13 HB13 BK13 HT_ HW_ HYN HA1 HA2 hHeld
          go_wp2
          go_roundg k2
          case measure => have := HK1.out; have := HK2.out; omega
          case rel => exact ⟨r + 1, L4.set r y, by go_num, H', ⟨by have := HK2.out; omega⟩, HO14, BK14, HN14, HM14, HB14⟩
       ·rw [if_neg hr1] at H
        have H' := Aside0.mk H
        have t7 : decide ((r : Int) < (m : Int)) = false := decide_eq_false (by have := HM.out; omega)
        have t8 : decide (r < m) = false := decide_eq_false (by have := HM.out; omega)
        have u1 : (rk : Int) ≤ 9223372036854775806 := by have := HM2.out; omega
        have u2 : 0 ≤ (rk : Int) := by omega
        clear H hr1
        go_wp2_with (first | ((with_reducible refine gate_dst (N := 6) rfl ?_); refine box_event ?hg (N := 6) ?hd (cs := #[.int .i64 0]) (t := 3) ?hr ?_; (case hd => rfl); (case hg => rfl); (case hr => first | (go_simp; done) | (go_simp; rfl)); intro g2 hg w5 hbox hb; have BK2 := Aside0.mk hbox; have HGK2 := Aside0.mk (by rw [hg]; exact (below_size (by repeat (first | (with_reducible first | exact HB.out | apply below_alloc | apply pw_below_drewN | apply below_drew1) | exact HB.out))) : W0.heap.size ≤ g2); have HB2 := Aside0.mk (below_step (by repeat (first | (with_reducible first | exact HB.out | apply below_alloc | apply pw_below_drewN | apply below_drew1) | exact HB.out)) hb); have HO2 := Aside0.mk (Kd.R_below HO.out hb); have hcz2 := blk_cell hbox 0; have hfz2 := blk_frozen hbox 0; clear hb hbox hg))
        go_roundg k2
        case measure => have := HK1.out; have := HK2.out; omega
        case rel => exact ⟨c + 1, rk + 1, g2, L4, by go_num, rfl, H', ⟨by have := HK1.out; have := HK2.out; omega⟩, ⟨Kd.R_set (Kd.R_set HO2.out BK2.out (by decide) _ _) (blk_put BK2.out 0 _ rfl) (by decide) _ _⟩, ⟨by have h := blk_put (blk_put BK2.out 0 (.int .i64 (c : Int)) rfl) 0 (.int .i64 ((c + 1 : Nat) : Int)) rfl; exact h⟩, HGK2, HN, HM, ⟨HC1.out⟩, ⟨below_set (below_set HB2.out HGK2.out) HGK2.out⟩⟩
   ·rw [if_neg hc] at H
    obtain ⟨rfl, rfl⟩ := Prod.mk.inj (Option.some.inj H)
    by_cases hc1 : c < n
    ·have h1a : decide ((c : Int) < (n : Int)) = true := decide_eq_true (by omega)
     have h1b : decide ((rk : Int) < (m : Int)) = false := decide_eq_false (by have := HM.out; omega)
     have h1c : decide (c < n) = true := decide_eq_true (by omega)
     have h1d : decide (rk < m) = false := decide_eq_false (by have := HM.out; omega)
     clear hc hc1
     go_wp2
     go_ret
     exact ⟨rfl, HO.out, HM.out, HB.out⟩
    ·have h1a : decide ((c : Int) < (n : Int)) = false := decide_eq_false (by omega)
     have h1c : decide (c < n) = false := decide_eq_false (by omega)
     clear hc hc1
     go_wp2
     go_ret
     exact ⟨rfl, HO.out, HM.out, HB.out⟩
def impl_eliminate.f (k : Nat) (l0 : List (List Int)) (a1 : Int) : Option (List (List Int) × Int) :=
 if 0 ≤ a1 ∧ a1 ≤ ((l0.headD []).length : Int) ∧ (l0.headD []).length ≤ 1000000 ∧ 0 < l0.length ∧ ∀ x ∈ l0, x.length = (l0.headD []).length then
  (impl_eliminate.l0 k (l0.headD []).length a1.toNat l0 0 0).map fun p => (p.1, (p.2 : Int))
 else none
theorem impl_eliminate.mono_l : ∀ k N n, (∀ L c rk, LeO (impl_eliminate.l0 k N n L c rk) (impl_eliminate.l0 (k + 1) N n L c rk)) ∧ (∀ L c rk r, LeO (impl_eliminate.l1 k N n L c rk r) (impl_eliminate.l1 (k + 1) N n L c rk r))
 | 0, _, _ => ⟨fun _ _ _ r h => by simp [impl_eliminate.l0] at h, fun _ _ _ _ r h => by simp [impl_eliminate.l1] at h⟩
 | k + 1, N, n => by
  obtain ⟨ih0, ih1⟩ := impl_eliminate.mono_l k N n
  refine ⟨fun L c rk => ?_, fun L c rk r => ?_⟩
  ·unfold impl_eliminate.l0
   refine LeO.ite ?_ (LeO.refl _)
   cases (L.drop rk).findIdx? (fun r => rd r (c : Int) != 0) with
   | none => exact ih0 _ _ _
   | some i => exact LeO.bind (impl_Inverse.mono _ _) (fun _ => LeO.bind (impl_scaled.mono _ _ _) (fun _ => LeO.ite (ih1 _ _ _ _) (LeO.none _)))
  ·unfold impl_eliminate.l1
   exact LeO.ite (LeO.ite (LeO.bind (impl_scaled.mono _ _ _) (fun _ => LeO.bind (impl_added.mono _ _ _) (fun _ => LeO.ite (ih1 _ _ _ _) (LeO.none _)))) (ih1 _ _ _ _)) (ih0 _ _ _)
theorem impl_eliminate.mono : ∀ a0 a1 k, LeO (impl_eliminate.f k a0 a1) (impl_eliminate.f (k + 1) a0 a1) := by
 intro a0 a1 k
 unfold impl_eliminate.f
 refine LeO.ite ?_ (LeO.refl _)
 intro r h
 obtain ⟨p, hp, rfl⟩ := Option.map_eq_some_iff.mp h
 rw [(impl_eliminate.mono_l k _ _).1 _ _ _ p hp]; rfl
/-- Elimination in rows of one's own, made since W0. -/
theorem impl_eliminate.callsR (k : Nat) (A : Option Addr) (c : Nat) (L L' : List (List Int)) (n r : Int) (W0 w : World) {ok : Nat → Prop} (hr : (Kd.slice 5 (Kd.int .u8)).R 22 w W0.heap.size ok (.slice A L.length c) L) (hB : Below W0.heap.size W0 w) (h : impl_eliminate.f k L n = some (L', r)) :
  Calls Try.prog 193 #[.slice A L.length c, .int .i64 n] w fun e w' => e = .returned (.int .i64 r) ∧ (Kd.slice 5 (Kd.int .u8)).R 22 w' W0.heap.size (fun _ => True) (.slice A L.length c) L' ∧ L'.length = L.length ∧ Below W0.heap.size W0 w' := by
 unfold impl_eliminate.f at h
 by_cases hc : 0 ≤ n ∧ n ≤ ((L.headD []).length : Int) ∧ (L.headD []).length ≤ 1000000 ∧ 0 < L.length ∧ ∀ x ∈ L, x.length = (L.headD []).length
 case neg => rw [if_neg hc] at h; exact absurd h (by simp)
 rw [if_pos hc] at h
 obtain ⟨h0, h1, h2, h3, h4⟩ := hc
 obtain ⟨⟨L2, r2⟩, hp, he⟩ := Option.map_eq_some_iff.mp h
 obtain ⟨rfl, rfl⟩ := Prod.mk.inj he
 obtain ⟨g, cap, hv, _⟩ := Kd.R_form hr h3
 injection hv with hA _ hcap
 subst hA
 subst hcap
 have hn : n = ((n.toNat : Nat) : Int) := by omega
 rw [hn]
 exact impl_eliminate.calls k _ n.toNat g L.length c L L2 r2 W0 w rfl (Kd.R_mono hr (fun _ _ => trivial)) h4 (by omega) h2 hB hp
theorem impl_eliminate.callsS (k : Nat) (A : Option Addr) (c : Nat) (L L' : List (List Int)) (n r : Int) (W0 w : World) {ok : Nat → Prop} (hr : Kd.S (Kd.slice 5 (Kd.int .u8)) 22 w W0.heap.size ok (.slice A L.length c) L) (hB : Below W0.heap.size W0 w) (h : impl_eliminate.f k L n = some (L', r)) :
  Calls Try.prog 193 #[.slice A L.length c, .int .i64 n] w fun e w' => e = .returned (.int .i64 r) ∧ (Kd.slice 5 (Kd.int .u8)).R 22 w' W0.heap.size (fun _ => True) (.slice A L.length c) L' ∧ L'.length = L.length ∧ Below W0.heap.size W0 w' :=
 impl_eliminate.callsR k A c L L' n r W0 w (Kd.S_R hr) hB h


end Go.Proofs.Ytgdjjghdjpaofaa.PFnAnyFew

/-
  PartsFor: what the program and the reference compute is one list, and the marks that are put into it stay. No conditions.
-/
import Derived.Test.YtgdjjghdjpaofaaPartsFnExactPartsFor
namespace Go.Proofs.Ytgdjjghdjpaofaa.PureFnExactPartsFor
open Go.RowKit Go.Proofs.Ytgdjjghdjpaofaa.PFnExactPartsFor Go.Proofs.YtgdjjghdjpaofaaW.PrintWords Go.Proofs.YtgdjjghdjpaofaaW.PrintLast Go.Proofs.YtgdjjghdjpaofaaW.PrintMore Go.Proofs.Ytgdjjghdjpaofaa.GF

def yb (l : List UInt8) (k i : Nat) : UInt8 := val (UInt8.ofNat (k + 1)) [l.getD i 0, UInt8.ofNat (i + 1)]
def col (l : List UInt8) (k i : Nat) : List UInt8 := (List.range i).map (yb l k)
theorem col_succ (l : List UInt8) (k i : Nat) : col l k (i + 1) = col l k i ++ [yb l k i] := by unfold col; rw [List.range_succ, List.map_append]; rfl
theorem col_len (l : List UInt8) (k i : Nat) : (col l k i).length = i := by simp [col]
def mid (l : List UInt8) (i p : Nat) : List (List UInt8) := (List.range 4).map fun k => col l k (if k < p then i + 1 else i)
theorem mid_len (l : List UInt8) (i p : Nat) : (mid l i p).length = 4 := by simp [mid]
theorem mid_get (l : List UInt8) (i p : Nat) (h : p < (mid l i p).length) : (mid l i p)[p] = col l p i := by simp [mid]
theorem mid_set (l : List UInt8) (i p : Nat) (h : p < 4) : (mid l i p).set p (col l p (i + 1)) = mid l i (p + 1) := by
  apply List.ext_getElem?
  intro q
  rw [List.getElem?_set]
  by_cases hq : q < 4
  · by_cases e : p = q
    · subst e; rw [if_pos rfl, if_pos (by rw [mid_len]; exact h)]; simp [mid, h]
    · rw [if_neg e]
      simp only [mid, List.getElem?_map, List.getElem?_range hq, Option.map_some]
      by_cases h2 : q < p
      · rw [if_pos h2, if_pos (by omega)]
      · rw [if_neg h2, if_neg (by omega)]
  · rw [if_neg (by omega), List.getElem?_eq_none (by rw [mid_len]; omega), List.getElem?_eq_none (by rw [mid_len]; omega)]
theorem mid_end (l : List UInt8) (i : Nat) : mid l i 4 = mid l (i + 1) 0 := by
  unfold mid
  apply List.map_congr_left
  intro k hk
  rw [if_pos (List.mem_range.mp hk), if_neg (by omega)]
theorem rd_sh (c r : UInt8) (p : Nat) (h : p < 4) : rd_T172 (shs c r) (p : Int) = sh c r p := by
  simp [rd_T172, shs, h]
theorem shs_len (c r : UInt8) : (shs c r).length = 4 := by simp [shs]
theorem getD_at (l : List UInt8) (i : Nat) (h : i < l.length) : l.getD i 0 = l[i] := by rw [List.getD_eq_getElem?_getD, List.getElem?_eq_getElem h]; rfl
theorem one_str (a : UInt8) : strOfNums [ib a] = str [a] := strOf_li [a]

theorem parts_i_end (X : List (List UInt8)) (hX : X.length ≤ 100) : ∀ (m i : Nat) (outs : List (List UInt8)), m + i = X.length → outs.length = i → Ev (fun k => impl_partsFor.l2 k (ts outs) (lr X) (X.length : Int) (i : Int)) (ts (outs ++ X.drop i))
  | 0, i, outs, h, _ => by
    rw [List.drop_eq_nil_of_le (by omega), List.append_nil]
    exact Ev.step (f := fun _ => some (ts outs)) (fun k => by simp only [impl_partsFor.l2]; rw [if_neg (by omega)]) (Ev.now _)
  | m + 1, i, outs, h, ho => by
    have ih := parts_i_end X hX m (i + 1) (outs ++ [X[i]]) (by omega) (by simp [ho])
    rw [List.append_assoc] at ih
    rw [List.drop_eq_getElem_cons (by omega : i < X.length)]
    refine Ev.step (fun k => ?_) ih
    simp only [impl_partsFor.l2]
    rw [if_pos (by omega), if_pos (by omega), lr_len, if_pos (by omega), ts_len, if_pos (by omega), rd_lr X i (by omega), strOf_li, v64 (by omega) (by omega), ts_app]
    rfl
theorem m32_row (r : List UInt8) (h : r ∈ M32) : r.length = 3 := by
  have : ∀ r ∈ M32, r.length = 3 := by decide +kernel
  exact this r h

section
variable (l : List UInt8) (hl : l.length ≤ 60)
include hl
theorem parts_s_inner (i : Nat) (hi : i < l.length) (res : List ByteArray) (next : Ev (fun k => spec_l17Parts.l0 k (str l) (ts (mid l (i + 1) 0)) ((i + 1 : Nat) : Int)) res) : ∀ (m p : Nat), m + p = 4 →
    Ev (fun k => spec_l17Parts.l1 k (str l) (ts (mid l i p)) (i : Int) (shs l[i] (UInt8.ofNat (i + 1))) 4 (p : Int)) res
  | 0, p, h => by
    obtain rfl : p = 4 := by omega
    refine Ev.step (fun k => ?_) next
    simp only [spec_l17Parts.l1]
    rw [if_neg (by omega), v64 (by omega) (by omega), mid_end]; rfl
  | m + 1, p, h => by
    have ih := parts_s_inner i hi res next m (p + 1) (by omega)
    refine Ev.step (fun k => ?_) ih
    have hm := mid_len l i p
    simp only [spec_l17Parts.l1]
    rw [if_pos (by omega), if_pos (by omega), shs_len, if_pos (by omega), ts_len, if_pos (by omega), rd_sh _ _ _ (by omega), rd_ts _ _ (by omega), mid_get]
    unfold l17One.f
    rw [Option.bind_some, show (sh l[i] (UInt8.ofNat (i + 1)) p).f1 = ib (yb l p i) by unfold yb sh; rw [getD_at l i hi], one_str, if_pos (by rw [str_size, str_size, col_len]; simp; omega), str_app, ← col_succ, v64 (by omega) (by omega), Int.toNat_natCast]
    rw [show (ts (mid l i p)).set p (str (col l p (i + 1))) = ts (mid l i (p + 1)) by unfold ts; rw [← List.map_set, mid_set l i p (by omega)]]
    rfl
theorem parts_i_inner (i : Nat) (hi : i < l.length) (res : List ByteArray) (next : Ev (fun k => impl_partsFor.l0 k (str l) (lr (mid l (i + 1) 0)) (l.length : Int) ((i + 1 : Nat) : Int)) res) : ∀ (m p : Nat), m + p = 4 →
    Ev (fun k => impl_partsFor.l1 k (str l) (lr (mid l i p)) (l.length : Int) (i : Int) (shs l[i] (UInt8.ofNat (i + 1))) 4 (p : Int)) res
  | 0, p, h => by
    obtain rfl : p = 4 := by omega
    refine Ev.step (fun k => ?_) next
    simp only [impl_partsFor.l1]
    rw [if_neg (by omega), v64 (by omega) (by omega), mid_end]; rfl
  | m + 1, p, h => by
    have ih := parts_i_inner i hi res next m (p + 1) (by omega)
    refine Ev.step (fun k => ?_) ih
    have hm := mid_len l i p
    simp only [impl_partsFor.l1]
    rw [if_pos (by omega), if_pos (by omega), shs_len, if_pos (by omega), lr_len, if_pos (by omega), rd_sh _ _ _ (by omega), rd_lr _ _ (by omega), mid_get]
    rw [show (sh l[i] (UInt8.ofNat (i + 1)) p).f1 = ib (yb l p i) by unfold yb sh; rw [getD_at l i hi], if_pos (by rw [li_len, col_len]; omega), ← li_one, ← li_app, ← col_succ, v64 (by omega) (by omega), Int.toNat_natCast]
    rw [show (lr (mid l i p)).set p (li (col l p (i + 1))) = lr (mid l i (p + 1)) by unfold lr; rw [← List.map_set, mid_set l i p (by omega)]]
    rfl
theorem parts_s_loop : ∀ (m i : Nat), m + i = l.length → Ev (fun k => spec_l17Parts.l0 k (str l) (ts (mid l i 0)) (i : Int)) (ts (mid l l.length 0))
  | 0, i, h => by
    obtain rfl : i = l.length := by omega
    exact Ev.step (f := fun _ => some (ts (mid l l.length 0))) (fun k => by simp only [spec_l17Parts.l0]; rw [if_neg (by rw [str_size]; omega)]) (Ev.now _)
  | m + 1, i, h => by
    have ih := parts_s_loop m (i + 1) (by omega)
    have hin := parts_s_inner l hl i (by omega) _ ih 4 0 rfl
    have e : (wrap64 ((Int.tmod (i : Int) 251) + 1)) % 256 = ib (UInt8.ofNat (i + 1)) := by
      rw [ofNat_ib _ (by omega), Int.tmod_eq_emod_of_nonneg (by omega), v64 (by omega) (by omega)]; omega
    refine Ev.step (fun k => ?_) (Ev.bind (f := fun k bt195 => spec_l17Parts.l1 k (str l) (ts (mid l i 0)) (i : Int) bt195.1 (bt195.1.length : Int) 0) (share_s l[i] (UInt8.ofNat (i + 1))) (hin.congr fun k => by simp only []; rw [shs_len]; rfl))
    simp only [spec_l17Parts.l0]
    rw [if_pos (by rw [str_size]; omega), if_pos (by omega), e, bt_str l i (by omega)]
theorem parts_i_loop : ∀ (m i : Nat), m + i = l.length → Ev (fun k => impl_partsFor.l0 k (str l) (lr (mid l i 0)) (l.length : Int) (i : Int)) (ts (mid l l.length 0))
  | 0, i, h => by
    obtain rfl : i = l.length := by omega
    refine Ev.step (fun k => ?_) (parts_i_end (mid l l.length 0) (by rw [mid_len]; omega) 4 0 [] (by rw [mid_len]) rfl)
    simp only [impl_partsFor.l0]
    rw [if_neg (by omega), lr_len]; rfl
  | m + 1, i, h => by
    have ih := parts_i_loop m (i + 1) (by omega)
    have hin := parts_i_inner l hl i (by omega) _ ih 4 0 rfl
    have e : (wrap64 (1 + (Int.tmod (i : Int) 251))) % 256 = ib (UInt8.ofNat (i + 1)) := by
      rw [ofNat_ib _ (by omega), Int.tmod_eq_emod_of_nonneg (by omega), v64 (by omega) (by omega)]; omega
    refine Ev.step (fun k => ?_) (Ev.bind (f := fun k bt272 => impl_partsFor.l1 k (str l) (lr (mid l i 0)) (l.length : Int) (i : Int) bt272.1 (bt272.1.length : Int) 0) (share_i l[i] (UInt8.ofNat (i + 1))) (hin.congr fun k => by simp only []; rw [shs_len]; rfl))
    simp only [impl_partsFor.l0]
    rw [if_pos (by omega), if_pos (by omega), str_size, if_pos (by omega), e, bt_str l i (by omega)]
/-- The parts. -/
def parts (l : List UInt8) (a : Int) : List (List UInt8) := if a = 1 then [l, l, l] else if a = 2 then M32.map (comb ((l.length + 3 - 1) / 3) (pieces l)) else mid l l.length 0
omit hl in
theorem pieces_len : (pieces l).length = 3 := by simp [pieces]
theorem parts_s (a : Int) : Ev (fun k => spec_l17Parts.f k (str l) a) (ts (parts l a)) := by
  unfold parts spec_l17Parts.f
  by_cases h1 : a = 1
  · rw [if_pos h1]; exact (Ev.now _).congr fun k => by rw [if_pos h1]; rfl
  · by_cases h2 : a = 2
    · rw [if_neg h1, if_pos h2]
      have hr := rows_ok M32 (pieces l) ((l.length + 3 - 1) / 3) (fun t ht => piece_len l t ht) (by omega) (by rw [pieces_len l]; omega) (by rw [pieces_len l]; omega) (fun r hr => by rw [pieces_len l, m32_row r hr]; omega) (by decide)
      refine (Ev.bind (f := fun k t180 => (spec_l3Split.f k (str l) 3).bind fun t183 => ((spec_l3Rows.f k t180 t183).bind fun t186 => (some t186))) mat_s (Ev.bind (f := fun k t183 => (spec_l3Rows.f k (lr M32) t183).bind fun t186 => (some t186)) (split_s l hl) (Ev.bind (f := fun _ t => some t) hr (Ev.now _)))).congr fun k => ?_
      rw [if_neg h1, if_pos h2]
    · rw [if_neg h1, if_neg h2]
      refine (parts_s_loop l hl l.length 0 (by omega)).congr fun k => ?_
      rw [if_neg h1, if_neg h2, if_pos (by decide)]; rfl
theorem parts_i (a : Int) : Ev (fun k => impl_partsFor.f k (str l) a) (ts (parts l a)) := by
  unfold parts impl_partsFor.f
  by_cases h1 : a = 1
  · rw [if_pos h1]; exact (Ev.now _).congr fun k => by rw [if_pos h1]; rfl
  · by_cases h2 : a = 2
    · rw [if_neg h1, if_pos h2]
      have hr := combined_ok M32 (pieces l) ((l.length + 3 - 1) / 3) (fun t ht => piece_len l t ht) (by omega) (by rw [pieces_len l]; omega) (by rw [pieces_len l]; omega) (fun r hr => by rw [pieces_len l, m32_row r hr]; omega) (by decide)
      refine (Ev.bind (f := fun k bt256 => (impl_codeRows.f k 3 2).bind fun t260 => ((impl_combined.f k t260 bt256.1).bind fun t263 => (some t263))) (split_i l hl) (Ev.bind (f := fun k t260 => (impl_combined.f k t260 (ts (pieces l))).bind fun t263 => (some t263)) mat_i (Ev.bind (f := fun _ t => some t) hr (Ev.now _)))).congr fun k => ?_
      rw [if_neg h1, if_pos h2]
    · rw [if_neg h1, if_neg h2]
      refine (parts_i_loop l hl l.length 0 (by omega)).congr fun k => ?_
      rw [if_neg h1, if_neg h2, if_pos (by decide), str_size]; rfl
end
theorem parts_len (l : List UInt8) (a : Int) : (parts l a).length ≤ 5 := by
  unfold parts
  split
  · simp
  · split
    · simp [M32]
    · rw [mid_len]; omega
def resL (l : List UInt8) (a : Int) : List ByteArray := if l.length ≤ 60 ∧ 1 ≤ a ∧ a ≤ 3 then ts (parts l a) else []
def resB (l : List UInt8) (a : Int) : Bool := decide (l.length ≤ 60 ∧ 1 ≤ a ∧ a ≤ 3)
theorem resL_len (l : List UInt8) (a : Int) : (resL l a).length ≤ 5 := by
  unfold resL; split
  · rw [ts_len]; exact parts_len l a
  · simp
theorem tier_s (a : Int) : spec_l17Tier.f a = some (decide (1 ≤ a ∧ a ≤ 3)) := by
  unfold spec_l17Tier.f spec_l1In.f
  by_cases h : a ≥ 1
  · rw [if_pos h, Option.bind_some]; congr 1; by_cases h2 : a ≤ 3
    · rw [decide_eq_true h2, decide_eq_true ⟨h, h2⟩]
    · rw [decide_eq_false h2, decide_eq_false (fun e => h2 e.2)]
  · rw [if_neg h, Option.bind_some, decide_eq_false (fun e => h e.1)]
theorem tier_i (a : Int) : impl_isTier.f a = some (decide (1 ≤ a ∧ a ≤ 3)) := by
  unfold impl_isTier.f impl_within.f
  by_cases h : a ≥ 1
  · rw [if_pos h, Option.bind_some]; congr 1; by_cases h2 : a ≤ 3
    · rw [decide_eq_true h2, decide_eq_true ⟨h, h2⟩]
    · rw [decide_eq_false h2, decide_eq_false (fun e => h2 e.2)]
  · rw [if_neg h, Option.bind_some, decide_eq_false (fun e => h e.1)]
theorem for_s (l : List UInt8) (a : Int) : Ev (fun k => spec_PartsFor.f k (str l) a) (resL l a, resB l a) := by
  unfold resL resB spec_PartsFor.f
  by_cases hl : l.length ≤ 60
  · by_cases ht : 1 ≤ a ∧ a ≤ 3
    · rw [if_pos ⟨hl, ht⟩, decide_eq_true ⟨hl, ht⟩]
      refine (Ev.bind (f := fun _ t => some (t, true)) (parts_s l hl a) (Ev.now _)).congr fun k => ?_
      rw [if_neg (by rw [str_size]; omega), tier_s, decide_eq_true ht, Option.bind_some, if_pos rfl]
    · rw [if_neg (fun e => ht e.2), decide_eq_false (fun e => ht e.2)]
      refine (Ev.now _).congr fun k => ?_
      rw [if_neg (by rw [str_size]; omega), tier_s, decide_eq_false ht, Option.bind_some, if_neg (by decide)]
  · rw [if_neg (fun e => hl e.1), decide_eq_false (fun e => hl e.1)]
    exact (Ev.now _).congr fun k => by rw [if_pos (by rw [str_size]; omega)]
theorem for_i (l : List UInt8) (a : Int) : Ev (fun k => impl_PartsFor.f k (str l) a) (resL l a, resB l a) := by
  unfold resL resB impl_PartsFor.f
  by_cases hl : l.length ≤ 60
  · by_cases ht : 1 ≤ a ∧ a ≤ 3
    · rw [if_pos ⟨hl, ht⟩, decide_eq_true ⟨hl, ht⟩]
      refine (Ev.bind (f := fun _ t => some (t, true)) (parts_i l hl a) (Ev.now _)).congr fun k => ?_
      rw [if_neg (by rw [str_size]; omega), tier_i, decide_eq_true ht, Option.bind_some, if_pos rfl]
    · rw [if_neg (fun e => ht e.2), decide_eq_false (fun e => ht e.2)]
      refine (Ev.now _).congr fun k => ?_
      rw [if_neg (by rw [str_size]; omega), tier_i, decide_eq_false ht, Option.bind_some, if_neg (by decide)]
  · rw [if_neg (fun e => hl e.1), decide_eq_false (fun e => hl e.1)]
    exact (Ev.now _).congr fun k => by rw [if_pos (by rw [str_size]; omega)]

/-! ### the law -/
theorem eq_loop (L : List ByteArray) (hL : L.length ≤ 1000) : ∀ (m i : Nat), m + i = L.length → Ev (fun k => laws_eqStringS.l0 k L L (i : Int)) true
  | 0, i, h => Ev.step (f := fun _ => some true) (fun k => by simp only [laws_eqStringS.l0]; rw [if_neg (by omega)]) (Ev.now _)
  | m + 1, i, h => by
    refine Ev.step (fun k => ?_) (eq_loop L hL m (i + 1) (by omega))
    simp only [laws_eqStringS.l0]
    rw [if_pos (by omega), if_pos (by omega), if_pos (by omega), if_pos trivial, v64 (by omega) (by omega)]; rfl
theorem eq_ok (L : List ByteArray) (hL : L.length ≤ 1000) : Ev (fun k => laws_eqStringS.f k L L) true := by
  refine (eq_loop L hL L.length 0 (by omega)).congr fun k => ?_
  unfold laws_eqStringS.f
  rw [if_pos rfl]; rfl
theorem mark_ok : ∀ (L : List ByteArray), L.length ≤ 5 → ∃ (n : Int) (L2 : List ByteArray), 0 < n ∧ Ev (fun k => laws_markStringS.f k L 1) (n, L2) ∧ Ev (fun k => laws_heldStringS.f k L2 1) n
  | [], _ => ⟨1, [], by decide, Ev.of (fun k => laws_markStringS.mono _ _ k) (k := 20) (by kernel_rfl), Ev.of (fun k => laws_heldStringS.mono _ _ k) (k := 20) (by kernel_rfl)⟩
  | [_], _ => ⟨2, [⟨#[109, 49]⟩], by decide, Ev.of (fun k => laws_markStringS.mono _ _ k) (k := 20) (by kernel_rfl), Ev.of (fun k => laws_heldStringS.mono _ _ k) (k := 20) (by kernel_rfl)⟩
  | [_, _], _ => ⟨3, [⟨#[109, 49]⟩, ⟨#[109, 50]⟩], by decide, Ev.of (fun k => laws_markStringS.mono _ _ k) (k := 20) (by kernel_rfl), Ev.of (fun k => laws_heldStringS.mono _ _ k) (k := 20) (by kernel_rfl)⟩
  | [_, _, _], _ => ⟨4, [⟨#[109, 49]⟩, ⟨#[109, 50]⟩, ⟨#[109, 51]⟩], by decide, Ev.of (fun k => laws_markStringS.mono _ _ k) (k := 20) (by kernel_rfl), Ev.of (fun k => laws_heldStringS.mono _ _ k) (k := 20) (by kernel_rfl)⟩
  | [_, _, _, _], _ => ⟨5, [⟨#[109, 49]⟩, ⟨#[109, 50]⟩, ⟨#[109, 51]⟩, ⟨#[109, 52]⟩], by decide, Ev.of (fun k => laws_markStringS.mono _ _ k) (k := 20) (by kernel_rfl), Ev.of (fun k => laws_heldStringS.mono _ _ k) (k := 20) (by kernel_rfl)⟩
  | [_, _, _, _, _], _ => ⟨6, [⟨#[109, 49]⟩, ⟨#[109, 50]⟩, ⟨#[109, 51]⟩, ⟨#[109, 52]⟩, ⟨#[109, 53]⟩], by decide, Ev.of (fun k => laws_markStringS.mono _ _ k) (k := 20) (by kernel_rfl), Ev.of (fun k => laws_heldStringS.mono _ _ k) (k := 20) (by kernel_rfl)⟩
  | _ :: _ :: _ :: _ :: _ :: _ :: L, h => by simp at h
theorem law_ok (l : List UInt8) (a : Int) : Ev (fun k => laws_FnExactPartsFor.f k (str l) a) true := by
  by_cases hb : (l.length : Int) > 1048576
  · exact (Ev.now _).congr fun k => by unfold laws_FnExactPartsFor.f; rw [if_pos (by rw [str_size]; exact hb)]
  · obtain ⟨n, L2, hn, hm, hh⟩ := mark_ok (resL l a) (resL_len l a)
    have heq := eq_ok (resL l a) (by have := resL_len l a; omega)
    have hj1 : Ev (fun k => laws_FnExactPartsFor.j1 k L2 n false) true := by
      refine Ev.step (fun k => ?_) (Ev.bind (f := fun _ t => if t < 0 then some false else if t = n then some true else some false) hh (r := true) ((Ev.now _).congr fun k => by rw [if_neg (by omega), if_pos rfl]))
      simp only [laws_FnExactPartsFor.j1]
      rw [if_neg (by decide)]
    have hj0 : Ev (fun k => laws_FnExactPartsFor.j0 k (str l) a (resL l a) (resB l a) (resL l a) false) true := by
      have h1 := Ev.bind (f := fun k t319 => if t319 = true then laws_FnExactPartsFor.j1 k L2 n (resB l a != resB l a) else laws_FnExactPartsFor.j1 k L2 n true) heq (r := true) (hj1.congr fun k => by rw [if_pos rfl, bne_self_eq_false])
      have h2 := Ev.bind (f := fun k (bt315 : List ByteArray × Bool) => (laws_eqStringS.f k bt315.1 (resL l a)).bind fun t319 => if t319 = true then laws_FnExactPartsFor.j1 k L2 n (bt315.2 != resB l a) else laws_FnExactPartsFor.j1 k L2 n true) (for_i l a) h1
      have h3 := Ev.bind (f := fun k (t314 : Int) => if t314 < 0 then some false else if t314 = n then (impl_PartsFor.f k (str l) a).bind fun bt315 => (laws_eqStringS.f k bt315.1 (resL l a)).bind fun t319 => if t319 = true then laws_FnExactPartsFor.j1 k L2 n (bt315.2 != resB l a) else laws_FnExactPartsFor.j1 k L2 n true else some false) hh (r := true) (h2.congr fun k => by rw [if_neg (by omega), if_pos rfl])
      refine Ev.step (fun k => ?_) (Ev.bind (f := fun k (bt312 : Int × List ByteArray) => (laws_heldStringS.f k bt312.2 1).bind fun t314 => if t314 < 0 then some false else if t314 = bt312.1 then (impl_PartsFor.f k (str l) a).bind fun bt315 => (laws_eqStringS.f k bt315.1 (resL l a)).bind fun t319 => if t319 = true then laws_FnExactPartsFor.j1 k bt312.2 bt312.1 (bt315.2 != resB l a) else laws_FnExactPartsFor.j1 k bt312.2 bt312.1 true else some false) hm h3)
      simp only [laws_FnExactPartsFor.j0]
      rw [if_neg (by decide)]
    have h1 := Ev.bind (f := fun k t311 => if t311 = true then laws_FnExactPartsFor.j0 k (str l) a (resL l a) (resB l a) (resL l a) (resB l a != resB l a) else laws_FnExactPartsFor.j0 k (str l) a (resL l a) (resB l a) (resL l a) true) heq (r := true) (hj0.congr fun k => by rw [if_pos rfl, bne_self_eq_false])
    have h2 := Ev.bind (f := fun k (bt307 : List ByteArray × Bool) => (laws_eqStringS.f k bt307.1 (resL l a)).bind fun t311 => if t311 = true then laws_FnExactPartsFor.j0 k (str l) a (resL l a) (resB l a) bt307.1 (bt307.2 != resB l a) else laws_FnExactPartsFor.j0 k (str l) a (resL l a) (resB l a) bt307.1 true) (for_i l a) h1
    refine (Ev.bind (f := fun k (bt303 : List ByteArray × Bool) => (impl_PartsFor.f k (str l) a).bind fun bt307 => (laws_eqStringS.f k bt307.1 bt303.1).bind fun t311 => if t311 = true then laws_FnExactPartsFor.j0 k (str l) a bt303.1 bt303.2 bt307.1 (bt307.2 != bt303.2) else laws_FnExactPartsFor.j0 k (str l) a bt303.1 bt303.2 bt307.1 true) (for_s l a) h2).congr fun k => ?_
    unfold laws_FnExactPartsFor.f
    rw [if_neg (by rw [str_size]; exact hb)]
end Go.Proofs.Ytgdjjghdjpaofaa.PureFnExactPartsFor
namespace Go.Proofs.Ytgdjjghdjpaofaa.Pure
theorem FnExactPartsFor : Go.Proofs.Ytgdjjghdjpaofaa.PFnExactPartsFor.laws_FnExactPartsFor.Pure := by
  intro a0 a1 _ _
  obtain ⟨l, rfl⟩ := PureFnExactPartsFor.str_all a0
  exact (PureFnExactPartsFor.law_ok l a1).rounds
end Go.Proofs.Ytgdjjghdjpaofaa.Pure

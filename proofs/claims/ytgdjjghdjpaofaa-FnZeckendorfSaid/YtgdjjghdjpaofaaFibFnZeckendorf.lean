/-
  What the program's and the reference's functions over the row 1, 2, 3, 5, 8 .. compute: the row, the chosen elements, the code, and the number taken from a code. No conditions beyond those that each lemma names.
-/
import Derived.Test.YtgdjjghdjpaofaaPFnZeckendorfx2
import Derived.Test.YtgdjjghdjpaofaaPFnZeckendorfx3
import Derived.Test.YtgdjjghdjpaofaaPFnZeckendorfx4
import Derived.Test.YtgdjjghdjpaofaaPFnZeckendorfx7
import Derived.Test.YtgdjjghdjpaofaaCurFnZeckendorf
import Derived.Test.YtgdjjghdjpaofaaZeckFnZeckendorf
namespace Go.Proofs.Ytgdjjghdjpaofaa.PureFnZeckendorf
open Go.RowKit Go.Proofs.Ytgdjjghdjpaofaa.PFnZeckendorf Go.Proofs.YtgdjjghdjpaofaaW.PrintWords Go.Proofs.YtgdjjghdjpaofaaW.PrintLast Go.Proofs.YtgdjjghdjpaofaaW.PrintMore Go.Proofs.Ytgdjjghdjpaofaa.Zeck

theorem rd_nat (l : List Int) (i : Nat) (h : i < l.length) : rd l (i : Int) = l[i] := by
  show l.getD ((i : Int)).toNat 0 = _
  rw [Int.toNat_natCast, List.getD_eq_getElem?_getD, List.getElem?_eq_getElem h]; rfl
def seqL (m : Nat) : List Int := (List.range m).map fun i => (fb i : Int)
theorem seqL_len (m : Nat) : (seqL m).length = m := by simp [seqL]
theorem seqL_succ (m : Nat) : seqL (m + 1) = seqL m ++ [(fb m : Int)] := by unfold seqL; rw [List.range_succ, List.map_append]; rfl
theorem rd_seq (m i : Nat) (h : i < m) : rd (seqL m) (i : Int) = fb i := by
  rw [rd_nat _ _ (by rw [seqL_len]; exact h)]; simp [seqL]
theorem fb33 {i : Nat} (h : i ≤ 33) : fb i ≤ 9227465 := by
  have := fb_mono h
  have e : fb 33 = 9227465 := by decide +kernel
  omega

theorem seq_ok : Ev (fun k => impl_sequence.f k) (seqL 29) :=
  Ev.of (fun k => impl_sequence.mono k) (k := 40) (by decide +kernel)

theorem row_loop (n M : Nat) (hM : M ≤ 31) (hlt : n < fb M) (hge : ∀ i, i < M → fb i ≤ n) (d : Nat) : ∀ i, i + d = M → Ev (fun k => spec_l13Row.l0 k (n : Int) (seqL i) (fb i : Int) (fb (i + 1) : Int)) (seqL M) := by
  induction d with
  | zero =>
    intro i hi
    obtain rfl : i = M := by omega
    exact Ev.step (f := fun _ => some (seqL i)) (fun k => by simp only [spec_l13Row.l0]; rw [if_neg (by omega)]) (Ev.now _)
  | succ d ih =>
    intro i hi
    refine Ev.step (fun k => ?_) (ih (i + 1) (by omega))
    simp only [spec_l13Row.l0]
    have h1 := hge i (by omega)
    have h2 := fb33 (i := i) (by omega); have h3 := fb33 (i := i + 1) (by omega)
    rw [if_pos (by omega), if_pos (by rw [seqL_len]; omega), ← seqL_succ, w64 (by omega) (by omega)]
    congr 1
theorem row_ok (n M : Nat) (hM : M ≤ 31) (hlt : n < fb M) (hge : ∀ i, i < M → fb i ≤ n) : Ev (fun k => spec_l13Row.f k (n : Int)) (seqL M) :=
  (row_loop n M hM hlt hge M 0 (by omega)).congr fun k => rfl
/-- The number of elements up to n. -/
def top (n : Nat) : Nat := cnt n 31
theorem top_ok (n : Nat) (h : n < fb 31) : n < fb (top n) ∧ top n ≤ 31 ∧ ∀ i, i < top n → fb i ≤ n := by
  obtain ⟨h1, h2, h3⟩ := cnt_ok n 31 h
  refine ⟨h1, h2, fun i hi => ?_⟩
  have h0 : 0 < n := by
    rcases Nat.eq_zero_or_pos n with e | e
    · subst e
      have : cnt 0 31 = 0 := by decide +kernel
      unfold top at hi; omega
    · exact e
  obtain ⟨h4, h5⟩ := h3 h0
  have := fb_mono (show i ≤ cnt n 31 - 1 by unfold top at hi; omega)
  omega
theorem fb31 : fb 31 = 3524578 := by decide +kernel
theorem fb29 : fb 29 = 1346269 := by decide +kernel

theorem rev_loop (L : List Int) (hL : L.length ≤ 1000000) (d : Nat) : ∀ (x : List Int) (i : Nat), L.length ≤ 2 * i + d → i ≤ L.length → x.length = L.length →
    (∀ t, t < L.length → x[t]? = if t < i ∨ L.length ≤ t + i then L[L.length - 1 - t]? else L[t]?) →
    Ev (fun k => slices_Reverse_int_int.l0 k x (i : Int) ((L.length : Int) - 1 - i)) L.reverse := by
  induction d using Nat.strongRecOn with
  | _ d ih =>
  intro x i hd hi hx hv
  by_cases h : (i : Int) < (L.length : Int) - 1 - i
  · obtain ⟨a, ha⟩ : ∃ a, x[i]? = some a := ⟨_, List.getElem?_eq_getElem (by omega)⟩
    obtain ⟨b, hb⟩ : ∃ b, x[L.length - 1 - i]? = some b := ⟨_, List.getElem?_eq_getElem (by omega)⟩
    have ra : rd x (i : Int) = a := by rw [rd_nat x i (by omega)]; have := List.getElem?_eq_getElem (l := x) (i := i) (by omega); rw [ha] at this; exact (Option.some.inj this).symm
    have rb : rd x ((L.length : Int) - 1 - i) = b := by
      rw [show ((L.length : Int) - 1 - i) = ((L.length - 1 - i : Nat) : Int) by omega, rd_nat x _ (by omega)]; have := List.getElem?_eq_getElem (l := x) (i := L.length - 1 - i) (by omega); rw [hb] at this; exact (Option.some.inj this).symm
    refine Ev.step (fun k => ?_) (ih (d - 2) (by omega) ((x.set i b).set (L.length - 1 - i) a) (i + 1) (by omega) (by omega) (by simp [hx]) ?_)
    · simp only [slices_Reverse_int_int.l0]
      rw [if_pos h, if_pos (by omega), if_pos (by omega), if_pos (by omega), if_pos (by omega), ra, rb, w64 (by omega) (by omega), w64 (by omega) (by omega), Int.toNat_natCast,
        show ((L.length : Int) - 1 - i).toNat = L.length - 1 - i by omega]
      congr 1 <;> omega
    · intro t ht
      rw [List.getElem?_set, List.getElem?_set]
      by_cases e1 : L.length - 1 - i = t
      · subst e1
        rw [if_pos rfl, if_pos (by simp; omega), if_pos (by omega), show L.length - 1 - (L.length - 1 - i) = i by omega]
        rw [← ha, hv i (by omega), if_neg (by omega)]
      · rw [if_neg e1]
        by_cases e2 : i = t
        · subst e2
          rw [if_pos rfl, if_pos (by omega), if_pos (by omega), ← hb, hv _ (by omega), if_neg (by omega)]
        · rw [if_neg e2, hv t ht]
          by_cases e3 : t < i ∨ L.length ≤ t + i
          · rw [if_pos e3, if_pos (by omega)]
          · rw [if_neg e3, if_neg (by omega)]
  · have e : x = L.reverse := by
      apply List.ext_getElem? 
      intro t
      by_cases ht : t < L.length
      · rw [hv t ht, List.getElem?_reverse ht]
        by_cases e3 : t < i ∨ L.length ≤ t + i
        · rw [if_pos e3]
        · rw [if_neg e3, show L.length - 1 - t = t by omega]
      · rw [List.getElem?_eq_none (by omega), List.getElem?_eq_none (by simp; omega)]
    refine Ev.step (f := fun _ => some x) (fun k => ?_) (e ▸ Ev.now _)
    simp only [slices_Reverse_int_int.l0]; rw [if_neg h]
theorem rev_ok (L : List Int) (hL : L.length ≤ 1000000) : Ev (fun k => slices_Reverse_int_int.f k L) L.reverse := by
  refine (rev_loop L hL L.length L 0 (by omega) (by omega) rfl (fun t ht => by rw [if_neg (by omega)])).congr fun k => ?_
  unfold slices_Reverse_int_int.f
  rw [w64 (by omega) (by omega)]
  all_goals (congr 1 <;> omega)

theorem sums_loop (m0 : Nat) (hm0 : m0 ≤ 31) (m : Nat) : ∀ (n : Nat) (acc : List Int), m ≤ m0 → n < 4000000 → acc.length + m ≤ 100 →
    Ev (fun k => impl_sumsOf.l0 k (n : Int) (seqL m0) acc ((m : Int) - 1)) (els (gb m n) m ++ acc.reverse) := by
  induction m with
  | zero =>
    intro n acc hm hn ha
    refine Ev.step (fun k => ?_) (Ev.bind (f := fun _ t => some t) (rev_ok acc (by omega)) (Ev.now _))
    simp only [impl_sumsOf.l0]; rw [if_neg (by omega)]
  | succ m ih =>
    intro n acc hm hn ha
    by_cases h : fb m ≤ n
    · have e : els (gb (m + 1) n) (m + 1) ++ acc.reverse = els (gb m (n - fb m)) m ++ (acc ++ [(fb m : Int)]).reverse := by
        have e1 : els (gb (m + 1) n) m = els (gb m (n - fb m)) m := els_congr m fun i hi => by simp only [gb]; rw [if_pos h, if_neg (by omega)]
        have e2 : gb (m + 1) n m = true := by simp [gb, h]
        simp only [els, e1, e2, if_true, List.reverse_append, List.reverse_singleton, List.append_assoc]
      rw [e]
      refine Ev.step (fun k => ?_) (ih (n - fb m) (acc ++ [(fb m : Int)]) (by omega) (by omega) (by simp; omega))
      simp only [impl_sumsOf.l0]
      rw [show ((m + 1 : Nat) : Int) - 1 = (m : Int) by omega, if_pos (by omega), if_pos (by omega), if_pos (by rw [seqL_len]; omega), rd_seq _ _ (by omega), if_pos (by omega), if_pos (by omega), w64 (by omega) (by omega), w64 (by omega) (by omega)]
      all_goals (congr 1 <;> omega)
    · have e : els (gb (m + 1) n) (m + 1) = els (gb m n) m := by
        have e1 : els (gb (m + 1) n) m = els (gb m n) m := els_congr m fun i hi => by simp only [gb]; rw [if_neg h]
        have e2 : gb (m + 1) n m = false := by simp only [gb]; rw [if_neg h]; exact gb_out m n m (Nat.le_refl _)
        simp [els, e1, e2]
      rw [e]
      refine Ev.step (fun k => ?_) (ih n acc (by omega) hn (by omega))
      simp only [impl_sumsOf.l0]
      rw [show ((m + 1 : Nat) : Int) - 1 = (m : Int) by omega, if_pos (by omega), if_pos (by omega), if_pos (by rw [seqL_len]; omega), rd_seq _ _ (by omega), if_neg (by omega), w64 (by omega) (by omega)]
theorem impl_sums (n : Nat) (hn : n ≤ 1000000) : Ev (fun k => impl_sumsOf.f k (n : Int)) (els (gb (top n) n) (top n)) := by
  have hl := sums_loop 29 (by omega) 29 n [] (by omega) (by omega) (by simp)
  obtain ⟨h1, h2, h3⟩ := top_ok n (by rw [fb31]; omega)
  have hM : top n ≤ 29 := by
    rcases Nat.lt_or_ge 29 (top n) with h | h
    · have := h3 29 h; rw [fb29] at this; omega
    · exact h
  rw [els_grow (top n) n h1 29 hM] at hl
  simp only [List.reverse_nil, List.append_nil] at hl
  refine (Ev.bind (f := fun k t => impl_sumsOf.l0 k (n : Int) t [] (wrap64 ((t.length : Int) - 1))) seq_ok (hl.congr fun k => ?_)).congr fun k => rfl
  simp only [seqL_len]; rw [w64 (by omega) (by omega)]

theorem spec_loop (m0 : Nat) (hm0 : m0 ≤ 31) (m : Nat) : ∀ (n : Nat) (acc : List Int), m ≤ m0 → n < 4000000 → acc.length + m ≤ 100 →
    Ev (fun k => spec_l13Sums.l0 k (n : Int) (seqL m0) acc ((m : Int) - 1)) (els (gb m n) m ++ acc) := by
  induction m with
  | zero =>
    intro n acc hm hn ha
    exact Ev.step (f := fun _ => some acc) (fun k => by simp only [spec_l13Sums.l0]; rw [if_neg (by omega)]) (Ev.now _)
  | succ m ih =>
    intro n acc hm hn ha
    by_cases h : fb m ≤ n
    · have e : els (gb (m + 1) n) (m + 1) ++ acc = els (gb m (n - fb m)) m ++ ((fb m : Int) :: acc) := by
        have e1 : els (gb (m + 1) n) m = els (gb m (n - fb m)) m := els_congr m fun i hi => by simp only [gb]; rw [if_pos h, if_neg (by omega)]
        have e2 : gb (m + 1) n m = true := by simp [gb, h]
        simp only [els, e1, e2, if_true, List.append_assoc]; rfl
      rw [e]
      refine Ev.step (fun k => ?_) (ih (n - fb m) ((fb m : Int) :: acc) (by omega) (by omega) (by simp; omega))
      simp only [spec_l13Sums.l0]
      rw [show ((m + 1 : Nat) : Int) - 1 = (m : Int) by omega, if_pos (by omega), if_pos (by omega), if_pos (by rw [seqL_len]; omega), rd_seq _ _ (by omega), if_pos (by omega), Option.bind_some, if_pos (by simp; omega), w64 (by omega) (by omega), w64 (by omega) (by omega)]
      simp only [List.singleton_append]
      all_goals (congr 1 <;> omega)
    · have e : els (gb (m + 1) n) (m + 1) = els (gb m n) m := by
        have e1 : els (gb (m + 1) n) m = els (gb m n) m := els_congr m fun i hi => by simp only [gb]; rw [if_neg h]
        have e2 : gb (m + 1) n m = false := by simp only [gb]; rw [if_neg h]; exact gb_out m n m (Nat.le_refl _)
        simp [els, e1, e2]
      rw [e]
      refine Ev.step (fun k => ?_) (ih n acc (by omega) hn (by omega))
      simp only [spec_l13Sums.l0]
      rw [show ((m + 1 : Nat) : Int) - 1 = (m : Int) by omega, if_pos (by omega), if_pos (by omega), if_pos (by rw [seqL_len]; omega), rd_seq _ _ (by omega), if_neg (by omega), w64 (by omega) (by omega)]
theorem spec_sums (n : Nat) (hn : n ≤ 1000000) : Ev (fun k => spec_l13Sums.f k (n : Int)) (els (gb (top n) n) (top n)) := by
  obtain ⟨h1, h2, h3⟩ := top_ok n (by rw [fb31]; omega)
  have hl := spec_loop (top n) h2 (top n) n [] (by omega) (by omega) (by simp; omega)
  simp only [List.append_nil] at hl
  refine (Ev.bind (f := fun k t => spec_l13Sums.l0 k (n : Int) t [] (wrap64 ((t.length : Int) - 1))) (row_ok n (top n) h2 h1 h3) (hl.congr fun k => ?_)).congr fun k => rfl
  simp only [seqL_len]; rw [w64 (by omega) (by omega)]

theorem index_loop (l : List Int) (hl : l.length ≤ 1000000) (x : Int) (d : Nat) : ∀ i, i + d = l.length → ∃ r, Ev (fun k => slices_Index_int_int.l0 k l x (l.length : Int) (i : Int)) r ∧ (r ≥ 0 ↔ ∃ j, i ≤ j ∧ l[j]? = some x) := by
  induction d with
  | zero =>
    intro i hi
    refine ⟨-1, Ev.step (f := fun _ => some (-1)) (fun k => by simp only [slices_Index_int_int.l0]; rw [if_neg (by omega)]) (Ev.now _), ?_⟩
    constructor
    · intro h; omega
    · rintro ⟨j, h1, h2⟩
      rw [List.getElem?_eq_none (by omega)] at h2; cases h2
  | succ d ih =>
    intro i hi
    obtain ⟨a, ha⟩ : ∃ a, l[i]? = some a := ⟨_, List.getElem?_eq_getElem (by omega)⟩
    have ra : rd l (i : Int) = a := by rw [rd_nat l i (by omega)]; have := List.getElem?_eq_getElem (l := l) (i := i) (by omega); rw [ha] at this; exact (Option.some.inj this).symm
    by_cases e : x = a
    · refine ⟨i, Ev.step (f := fun _ => some (i : Int)) (fun k => by simp only [slices_Index_int_int.l0]; rw [if_pos (by omega), if_pos (by omega), if_pos (by omega), ra, if_pos e]) (Ev.now _), ?_⟩
      exact ⟨fun _ => ⟨i, Nat.le_refl _, by rw [ha, e]⟩, fun _ => by omega⟩
    · obtain ⟨r, h1, h2⟩ := ih (i + 1) (by omega)
      refine ⟨r, Ev.step (fun k => ?_) h1, ?_⟩
      · simp only [slices_Index_int_int.l0]
        rw [if_pos (by omega), if_pos (by omega), if_pos (by omega), ra, if_neg e, w64 (by omega) (by omega)]
        rfl
      · rw [h2]
        constructor
        · rintro ⟨j, h3, h4⟩; exact ⟨j, by omega, h4⟩
        · rintro ⟨j, h3, h4⟩
          refine ⟨j, ?_, h4⟩
          rcases Nat.lt_or_ge i j with h5 | h5
          · exact h5
          · obtain rfl : i = j := by omega
            rw [ha] at h4; exact absurd (Option.some.inj h4).symm e
theorem contains_ok (l : List Int) (hl : l.length ≤ 1000000) (x : Int) : Ev (fun k => slices_Contains_int_int.f k l x) (decide (x ∈ l)) := by
  obtain ⟨r, h1, h2⟩ := index_loop l hl x l.length 0 (by omega)
  refine (Ev.bind (f := fun _ t => some (decide (t ≥ 0))) h1 (r := decide (x ∈ l)) ⟨0, fun _ _ => ?_⟩).congr fun k => rfl
  show some (decide (r ≥ 0)) = _
  congr 1
  rw [decide_eq_decide, h2, List.mem_iff_getElem?]
  exact ⟨fun ⟨j, _, h⟩ => ⟨j, h⟩, fun ⟨j, h⟩ => ⟨j, Nat.zero_le _, h⟩⟩
theorem has_loop (l : List Int) (hl : l.length ≤ 1000000) (x : Int) (d : Nat) : ∀ i, i + d = l.length → ∃ r, Ev (fun k => spec_l1Has.l0 k x l (l.length : Int) (i : Int)) r ∧ (r = true ↔ ∃ j, i ≤ j ∧ l[j]? = some x) := by
  induction d with
  | zero =>
    intro i hi
    refine ⟨false, Ev.step (f := fun _ => some false) (fun k => by simp only [spec_l1Has.l0]; rw [if_neg (by omega)]) (Ev.now _), ?_⟩
    constructor
    · intro h; cases h
    · rintro ⟨j, h1, h2⟩
      rw [List.getElem?_eq_none (by omega)] at h2; cases h2
  | succ d ih =>
    intro i hi
    obtain ⟨a, ha⟩ : ∃ a, l[i]? = some a := ⟨_, List.getElem?_eq_getElem (by omega)⟩
    have ra : rd l (i : Int) = a := by rw [rd_nat l i (by omega)]; have := List.getElem?_eq_getElem (l := l) (i := i) (by omega); rw [ha] at this; exact (Option.some.inj this).symm
    by_cases e : a = x
    · refine ⟨true, Ev.step (f := fun _ => some true) (fun k => by simp only [spec_l1Has.l0]; rw [if_pos (by omega), if_pos (by omega), if_pos (by omega), ra, if_pos e]) (Ev.now _), ?_⟩
      exact ⟨fun _ => ⟨i, Nat.le_refl _, by rw [ha, e]⟩, fun _ => rfl⟩
    · obtain ⟨r, h1, h2⟩ := ih (i + 1) (by omega)
      refine ⟨r, Ev.step (fun k => ?_) h1, ?_⟩
      · simp only [spec_l1Has.l0]
        rw [if_pos (by omega), if_pos (by omega), if_pos (by omega), ra, if_neg e, w64 (by omega) (by omega)]
        rfl
      · rw [h2]
        constructor
        · rintro ⟨j, h3, h4⟩; exact ⟨j, by omega, h4⟩
        · rintro ⟨j, h3, h4⟩
          refine ⟨j, ?_, h4⟩
          rcases Nat.lt_or_ge i j with h5 | h5
          · exact h5
          · obtain rfl : i = j := by omega
            rw [ha] at h4; exact absurd (Option.some.inj h4) e
theorem has_ok (l : List Int) (hl : l.length ≤ 1000000) (x : Int) : Ev (fun k => spec_l1Has.f k l x) (decide (x ∈ l)) := by
  obtain ⟨r, h1, h2⟩ := has_loop l hl x l.length 0 (by omega)
  have e : r = decide (x ∈ l) := by
    rw [Bool.eq_iff_iff, h2, decide_eq_true_iff, List.mem_iff_getElem?]
    exact ⟨fun ⟨j, _, h⟩ => ⟨j, h⟩, fun ⟨j, h⟩ => ⟨j, Nat.zero_le _, h⟩⟩
  rw [← e]; exact h1.congr fun k => rfl
theorem mem_fb (b : Nat → Bool) (m i : Nat) (h : i < m) : decide ((fb i : Int) ∈ els b m) = b i := by
  rw [Bool.eq_iff_iff, decide_eq_true_iff, mem_els]
  constructor
  · rintro ⟨j, h1, h2, h3⟩
    have := fb_inj (i := i) (j := j) (by omega)
    rw [this]; exact h2
  · intro hb; exact ⟨i, h, hb, rfl⟩

/-- A text of characters. -/
abbrev str (l : List UInt8) : ByteArray := ⟨l.toArray⟩
theorem str_app (l m : List UInt8) : str l ++ str m = str (l ++ m) := by
  apply ByteArray.ext
  rw [ByteArray.data_append]
  simp
theorem str_size (l : List UInt8) : (str l).size = l.length := by simp [ByteArray.size]
theorem str_list (l : List UInt8) : (str l).data.toList = l := rfl
theorem str_one : (⟨#[49]⟩ : ByteArray) = str [49] := rfl
theorem str_zero : (⟨#[48]⟩ : ByteArray) = str [48] := rfl
/-- The code of n. -/
def code (n : Nat) : List UInt8 := chars (gb (top n) n) (top n) ++ [49]
theorem last_el (n : Nat) (h0 : 0 < n) (hn : n ≤ 1000000) : 0 < top n ∧ (els (gb (top n) n) (top n)).length ≤ 31 ∧ 0 < (els (gb (top n) n) (top n)).length ∧
    rd (els (gb (top n) n) (top n)) (((els (gb (top n) n) (top n)).length : Int) - 1) = fb (top n - 1) ∧ gb (top n) n (top n - 1) = true := by
  obtain ⟨h1, h2, h3⟩ := top_ok n (by rw [fb31]; omega)
  have ht : 0 < top n := by
    rcases Nat.eq_zero_or_pos (top n) with e | e
    · rw [e] at h1; simp only [fb] at h1; omega
    · exact e
  obtain ⟨m, hm⟩ : ∃ m, top n = m + 1 := ⟨top n - 1, by omega⟩
  have hg : gb (top n) n m = true := by rw [hm]; simp [gb, h3 m (by omega)]
  have he : els (gb (top n) n) (top n) = els (gb (top n) n) m ++ [(fb m : Int)] := by
    conv => lhs; arg 2; rw [hm]
    simp only [els]; rw [if_pos hg]
  have hlen := els_len (gb (top n) n) (top n)
  have hl2 : (els (gb (top n) n) (top n)).length = (els (gb (top n) n) m).length + 1 := by rw [he]; simp
  refine ⟨ht, by omega, by omega, ?_, ?_⟩
  · rw [show ((els (gb (top n) n) (top n)).length : Int) - 1 = ((els (gb (top n) n) m).length : Int) by omega, rd_nat _ _ (by omega)]
    have : (els (gb (top n) n) (top n))[(els (gb (top n) n) m).length]? = some (fb m : Int) := by rw [he, List.getElem?_append_right (Nat.le_refl _)]; simp
    rw [List.getElem?_eq_getElem (by omega)] at this
    rw [Option.some.inj this]; congr 2; omega
  · rw [show top n - 1 = m by omega]; exact hg

theorem fibo_loop (b : Nat → Bool) (S : List Int) (M : Nat) (hM0 : 0 < M) (hM : M ≤ 29) (hS : S = els b M) (hlen : 0 < S.length ∧ S.length ≤ 31) (hlast : rd S ((S.length : Int) - 1) = fb (M - 1)) (d : Nat) :
    ∀ i, i + d = M → Ev (fun k => impl_fibonacci.l0 k S (str (chars b i)) (seqL 29) 29 (i : Int)) (str (chars b M ++ [49])) := by
  induction d with
  | zero =>
    intro i hi
    obtain rfl : i = M := by omega
    refine Ev.step (f := fun _ => some (str (chars b i ++ [49]))) (fun k => ?_) (Ev.now _)
    simp only [impl_fibonacci.l0]
    rw [str_one, str_app, str_size, chars_len]
    by_cases h : (i : Int) < 29
    · have hm : fb (i - 1) < fb i := fb_smono (by omega)
      rw [if_pos h, if_pos (by omega), if_pos (by rw [seqL_len]; omega), w64 (by omega) (by omega), if_pos (by omega), if_pos (by omega), rd_seq _ _ (by omega), hlast, if_pos (by omega), if_pos (by omega)]
    · rw [if_neg h, if_pos (by omega)]
  | succ d ih =>
    intro i hi
    have hc := contains_ok S (by omega) (fb i : Int)
    rw [hS, mem_fb b M i (by omega), ← hS] at hc
    have hle : fb i ≤ fb (M - 1) := fb_mono (by omega)
    have hih := ih (i + 1) (by omega)
    refine Ev.step (fun k => ?_) (Ev.bind (f := fun k t => if t = true then (if (str (chars b i)).size + 1 ≤ 9223372036854775807 then impl_fibonacci.l0 k S (str (chars b i) ++ (⟨#[49]⟩ : ByteArray)) (seqL 29) 29 (wrap64 ((i : Int) + 1)) else none) else (if (str (chars b i)).size + 1 ≤ 9223372036854775807 then impl_fibonacci.l0 k S (str (chars b i) ++ (⟨#[48]⟩ : ByteArray)) (seqL 29) 29 (wrap64 ((i : Int) + 1)) else none)) hc (hih.congr fun k => ?_))
    · simp only [impl_fibonacci.l0]
      rw [if_pos (by omega), if_pos (by omega), if_pos (by rw [seqL_len]; omega), w64 (x := (S.length : Int) - 1) (by omega) (by omega), if_pos (by omega), if_pos (by omega), rd_seq _ _ (by omega), hlast, if_neg (by omega)]
    · rw [chars_succ]
      cases b i with
      | true =>
        show (if (str (chars b i)).size + 1 ≤ 9223372036854775807 then _ else _) = _
        rw [str_size, chars_len, if_pos (by omega), w64 (by omega) (by omega), str_one, str_app]; rfl
      | false =>
        show (if (str (chars b i)).size + 1 ≤ 9223372036854775807 then _ else _) = _
        rw [str_size, chars_len, if_pos (by omega), w64 (by omega) (by omega), str_zero, str_app]; rfl
theorem top29 (n : Nat) (hn : n ≤ 1000000) : top n ≤ 29 := by
  obtain ⟨h1, h2, h3⟩ := top_ok n (by rw [fb31]; omega)
  rcases Nat.lt_or_ge 29 (top n) with h | h
  · have := h3 29 h; rw [fb29] at this; omega
  · exact h
theorem impl_fib (n : Nat) (h0 : 0 < n) (hn : n ≤ 1000000) : Ev (fun k => impl_fibonacci.f k (n : Int)) (str (code n)) := by
  obtain ⟨ht, hl1, hl2, hlast, _⟩ := last_el n h0 hn
  have h := fibo_loop (gb (top n) n) _ (top n) ht (top29 n hn) rfl ⟨hl2, hl1⟩ hlast (top n) 0 (by omega)
  refine (Ev.bind (f := fun k t => (impl_sequence.f k).bind fun t2 => impl_fibonacci.l0 k t (⟨#[]⟩ : ByteArray) t2 (t2.length : Int) 0) (impl_sums n hn) (Ev.bind (f := fun k t2 => impl_fibonacci.l0 k (els (gb (top n) n) (top n)) (⟨#[]⟩ : ByteArray) t2 (t2.length : Int) 0) seq_ok (h.congr fun k => ?_))).congr fun k => rfl
  simp only [seqL_len]; rfl
theorem sfib_loop (b : Nat → Bool) (S : List Int) (M : Nat) (hM : M ≤ 31) (hS : S = els b M) (hlen : S.length ≤ 31) (d : Nat) :
    ∀ i, i + d = M → Ev (fun k => spec_l13Fibonacci.l0 k S (str (chars b i)) (seqL M) (M : Int) (i : Int)) (str (chars b M ++ [49])) := by
  induction d with
  | zero =>
    intro i hi
    obtain rfl : i = M := by omega
    refine Ev.step (f := fun _ => some (str (chars b i ++ [49]))) (fun k => ?_) (Ev.now _)
    simp only [spec_l13Fibonacci.l0]
    rw [str_one, str_app, str_size, chars_len, if_neg (by omega), if_pos (by omega)]
  | succ d ih =>
    intro i hi
    have hc := has_ok S (by omega) (fb i : Int)
    rw [hS, mem_fb b M i (by omega), ← hS] at hc
    have hih := ih (i + 1) (by omega)
    refine Ev.step (fun k => ?_) (Ev.bind (f := fun k t => if t = true then (if (str (chars b i)).size + 1 ≤ 9223372036854775807 then spec_l13Fibonacci.l0 k S (str (chars b i) ++ (⟨#[49]⟩ : ByteArray)) (seqL M) (M : Int) (wrap64 ((i : Int) + 1)) else none) else (if (str (chars b i)).size + 1 ≤ 9223372036854775807 then spec_l13Fibonacci.l0 k S (str (chars b i) ++ (⟨#[48]⟩ : ByteArray)) (seqL M) (M : Int) (wrap64 ((i : Int) + 1)) else none)) hc (hih.congr fun k => ?_))
    · simp only [spec_l13Fibonacci.l0]
      rw [if_pos (by omega), if_pos (by omega), if_pos (by rw [seqL_len]; omega), rd_seq _ _ (by omega)]
    · rw [chars_succ]
      cases b i with
      | true =>
        show (if (str (chars b i)).size + 1 ≤ 9223372036854775807 then _ else _) = _
        rw [str_size, chars_len, if_pos (by omega), w64 (by omega) (by omega), str_one, str_app]; rfl
      | false =>
        show (if (str (chars b i)).size + 1 ≤ 9223372036854775807 then _ else _) = _
        rw [str_size, chars_len, if_pos (by omega), w64 (by omega) (by omega), str_zero, str_app]; rfl
theorem spec_fib (n : Nat) (h0 : 0 < n) (hn : n ≤ 1000000) : Ev (fun k => spec_l13Fibonacci.f k (n : Int)) (str (code n)) := by
  obtain ⟨ht, hl1, hl2, hlast, _⟩ := last_el n h0 hn
  have h29 := top29 n hn
  have h := sfib_loop (gb (top n) n) _ (top n) (by omega) rfl hl1 (top n) 0 (by omega)
  have hrow := row_ok (fb (top n - 1)) (top n) (by omega) (fb_smono (by omega)) (fun i hi => fb_mono (by omega))
  refine (Ev.bind (f := fun k t => if 0 ≤ (wrap64 ((t.length : Int) - 1)) then (if (wrap64 ((t.length : Int) - 1)) < (t.length : Int) then ((spec_l13Row.f k (rd t (wrap64 ((t.length : Int) - 1)))).bind fun t2 => (spec_l13Fibonacci.l0 k t (⟨#[]⟩ : ByteArray) t2 (t2.length : Int) 0)) else (none)) else (none)) (spec_sums n hn) ?_).congr fun k => rfl
  refine (Ev.bind (f := fun k t2 => spec_l13Fibonacci.l0 k (els (gb (top n) n) (top n)) (⟨#[]⟩ : ByteArray) t2 (t2.length : Int) 0) hrow (h.congr fun k => ?_)).congr fun k => ?_
  · simp only [seqL_len]; rfl
  · rw [w64 (by omega) (by omega), if_pos (by omega), if_pos (by omega), hlast]
end Go.Proofs.Ytgdjjghdjpaofaa.PureFnZeckendorf

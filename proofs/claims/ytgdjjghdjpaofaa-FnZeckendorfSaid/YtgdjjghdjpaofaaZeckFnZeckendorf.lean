/-
  Zeckendorf in plain numbers: sums of elements of the row 1, 2, 3, 5, 8 .. without neighbours are below the next element, and the greedy choice finds them. No conditions beyond those that each lemma names.
-/
import Derived.Lib.Index
namespace Go.Proofs.Ytgdjjghdjpaofaa.Zeck

def fb : Nat → Nat
  | 0 => 1
  | 1 => 2
  | n + 2 => fb n + fb (n + 1)
theorem fb_two (n : Nat) : fb (n + 2) = fb n + fb (n + 1) := rfl
theorem fb_pos : ∀ n, 0 < fb n
  | 0 => by decide
  | 1 => by decide
  | n + 2 => by rw [fb_two]; have := fb_pos n; omega
theorem fb_lt (n : Nat) : fb n < fb (n + 1) := by
  cases n with
  | zero => decide
  | succ n => rw [fb_two]; have := fb_pos n; omega
theorem fb_mono {i j : Nat} (h : i ≤ j) : fb i ≤ fb j := by
  induction h with
  | refl => exact Nat.le_refl _
  | step _ ih => exact Nat.le_trans ih (Nat.le_of_lt (fb_lt _))
theorem fb_smono {i j : Nat} (h : i < j) : fb i < fb j := Nat.lt_of_lt_of_le (fb_lt i) (fb_mono h)
theorem fb_inj {i j : Nat} (h : fb i = fb j) : i = j := by
  rcases Nat.lt_trichotomy i j with h1 | h1 | h1
  · have := fb_smono h1; omega
  · exact h1
  · have := fb_smono h1; omega
theorem fb_double (i : Nat) : 2 * fb i ≤ fb (i + 2) := by rw [fb_two]; have := fb_lt i; omega

def val (b : Nat → Bool) : Nat → Nat
  | 0 => 0
  | m + 1 => val b m + if b m then fb m else 0
def NA (b : Nat → Bool) (m : Nat) : Prop := ∀ i, i + 1 < m → ¬ (b i = true ∧ b (i + 1) = true)
theorem NA.le {b : Nat → Bool} {m n : Nat} (h : NA b m) (hn : n ≤ m) : NA b n := fun i hi => h i (by omega)
theorem val_lt (b : Nat → Bool) : ∀ m, NA b m → val b m < fb m
  | 0, _ => by simp [val, fb]
  | 1, _ => by simp only [val, fb]; split <;> omega
  | m + 2, h => by
    have h1 := val_lt b m (h.le (by omega)); have h2 := val_lt b (m + 1) (h.le (by omega))
    have hl : fb (m + 1) < fb (m + 2) := fb_lt (m + 1)
    by_cases hb : b (m + 1) = true
    · have hm : b m = false := by
        cases hc : b m with
        | false => rfl
        | true => exact absurd ⟨hc, hb⟩ (h m (by omega))
      simp only [val, hb, hm, if_true]
      rw [fb_two]; simp; omega
    · have e : val b (m + 2) = val b (m + 1) := by show val b (m + 1) + _ = _; rw [if_neg hb]; rfl
      rw [e]; omega
theorem val_congr {b c : Nat → Bool} : ∀ m, (∀ i, i < m → b i = c i) → val b m = val c m
  | 0, _ => rfl
  | m + 1, h => by simp only [val]; rw [val_congr m (fun i hi => h i (by omega)), h m (by omega)]

/-- The greedy choice: does n's sum hold element i, of those below m? -/
def gb : Nat → Nat → Nat → Bool
  | 0, _, _ => false
  | m + 1, n, i => if fb m ≤ n then (if i = m then true else gb m (n - fb m) i) else gb m n i
theorem gb_out : ∀ m n i, m ≤ i → gb m n i = false
  | 0, _, _, _ => rfl
  | m + 1, n, i, h => by
    simp only [gb]
    split
    · rw [if_neg (by omega)]; exact gb_out m _ i (by omega)
    · exact gb_out m _ i (by omega)
theorem gb_small : ∀ m n j i, n < fb j → j ≤ i → gb m n i = false
  | 0, _, _, _, _, _ => rfl
  | m + 1, n, j, i, h, hi => by
    simp only [gb]
    by_cases hm : fb m ≤ n
    · rw [if_pos hm]
      have hmj : m < j := by
        rcases Nat.lt_or_ge m j with h1 | h1
        · exact h1
        · have := fb_mono h1; omega
      rw [if_neg (by omega)]
      exact gb_small m _ j i (by omega) hi
    · rw [if_neg hm]; exact gb_small m _ j i h hi
theorem gb_val : ∀ m n, n < fb m → val (gb m n) m = n
  | 0, n, h => by simp only [fb] at h; simp only [val]; omega
  | m + 1, n, h => by
    by_cases hm : fb m ≤ n
    · have hlt : n - fb m < fb m := by
        cases m with
        | zero => simp only [fb] at h hm ⊢; omega
        | succ k => rw [fb_two] at h; have := fb_lt k; omega
      have e : val (gb (m + 1) n) m = val (gb m (n - fb m)) m := val_congr m fun i hi => by simp only [gb]; rw [if_pos hm, if_neg (by omega)]
      have e2 : gb (m + 1) n m = true := by simp [gb, hm]
      simp only [val, e2, e, if_true]
      rw [gb_val m _ hlt]; omega
    · have e : val (gb (m + 1) n) m = val (gb m n) m := val_congr m fun i hi => by simp only [gb]; rw [if_neg hm]
      have e2 : gb (m + 1) n m = false := by simp only [gb]; rw [if_neg hm]; exact gb_out m n m (Nat.le_refl _)
      simp only [val, e2, e]
      rw [gb_val m n (by omega)]; simp
theorem gb_NA : ∀ m n, n < fb m → NA (gb m n) m
  | 0, _, _ => fun i hi => by omega
  | m + 1, n, h => by
    intro i hi
    by_cases hm : fb m ≤ n
    · have hlt : n - fb m < fb m := by
        cases m with
        | zero => simp only [fb] at h hm ⊢; omega
        | succ k => rw [fb_two] at h; have := fb_lt k; omega
      rintro ⟨h1, h2⟩
      simp only [gb] at h1 h2
      rw [if_pos hm, if_neg (by omega)] at h1
      rw [if_pos hm] at h2
      by_cases hi2 : i + 1 = m
      · subst hi2
        have : gb (i + 1) (n - fb (i + 1)) i = false := gb_small _ _ i i (by rw [fb_two] at h; omega) (Nat.le_refl _)
        rw [this] at h1; cases h1
      · rw [if_neg hi2] at h2
        exact gb_NA m _ hlt i (by omega) ⟨h1, h2⟩
    · rintro ⟨h1, h2⟩
      simp only [gb] at h1 h2
      rw [if_neg hm] at h1 h2
      by_cases hi2 : i + 1 = m
      · subst hi2; rw [gb_out _ _ _ (Nat.le_refl _)] at h2; cases h2
      · exact gb_NA m n (by omega) i (by omega) ⟨h1, h2⟩
theorem gb_uniq (b : Nat → Bool) : ∀ m, NA b m → ∀ i, i < m → gb m (val b m) i = b i
  | 0, _, i, hi => by omega
  | m + 1, h, i, hi => by
    have hl := val_lt b m (h.le (by omega))
    by_cases hb : b m = true
    · have e : val b (m + 1) = val b m + fb m := by simp only [val, hb, if_true]
      simp only [gb]
      rw [if_pos (by omega)]
      by_cases hi2 : i = m
      · rw [if_pos hi2, hi2, hb]
      · rw [if_neg hi2, show val b (m + 1) - fb m = val b m by omega]; exact gb_uniq b m (h.le (by omega)) i (by omega)
    · have e : val b (m + 1) = val b m := by simp only [val]; rw [if_neg hb]; rfl
      simp only [gb]
      rw [e, if_neg (by omega)]
      by_cases hi2 : i = m
      · rw [hi2, gb_out _ _ _ (Nat.le_refl _)]; cases hc : b m with
        | false => rfl
        | true => exact absurd hc hb
      · exact gb_uniq b m (h.le (by omega)) i (by omega)
/-- Elements that are too great change nothing. -/
theorem gb_grow (M n : Nat) (h : n < fb M) : ∀ m, M ≤ m → ∀ i, gb m n i = gb M n i
  | 0, hm, i => by obtain rfl : M = 0 := by omega
                   rfl
  | m + 1, hm, i => by
    by_cases e : M = m + 1
    · rw [e]
    · have hle : M ≤ m := by omega
      have := fb_mono hle
      simp only [gb]
      rw [if_neg (by omega)]
      exact gb_grow M n h m hle i

/-- The elements that are chosen, in rising order. -/
def els (b : Nat → Bool) : Nat → List Int
  | 0 => []
  | m + 1 => els b m ++ if b m then [(fb m : Int)] else []
theorem els_congr {b c : Nat → Bool} : ∀ m, (∀ i, i < m → b i = c i) → els b m = els c m
  | 0, _ => rfl
  | m + 1, h => by simp only [els]; rw [els_congr m (fun i hi => h i (by omega)), h m (by omega)]
theorem els_grow (M n : Nat) (h : n < fb M) (m : Nat) (hm : M ≤ m) : els (gb m n) m = els (gb M n) M := by
  rw [els_congr (c := gb M n) m (fun i _ => gb_grow M n h m hm i)]
  induction m with
  | zero => obtain rfl : M = 0 := by omega
            rfl
  | succ m ih =>
    by_cases e : M = m + 1
    · rw [e]
    · simp only [els]
      rw [gb_out M n m (by omega), ih (by omega)]; simp
theorem mem_els (b : Nat → Bool) : ∀ m (x : Int), x ∈ els b m ↔ ∃ i, i < m ∧ b i = true ∧ x = fb i
  | 0, x => by simp [els]
  | m + 1, x => by
    simp only [els, List.mem_append]
    rw [mem_els b m x]
    constructor
    · rintro (⟨i, h1, h2, h3⟩ | h)
      · exact ⟨i, by omega, h2, h3⟩
      · by_cases hb : b m = true
        · rw [if_pos hb] at h; exact ⟨m, by omega, hb, by simpa using h⟩
        · rw [if_neg hb] at h; simp at h
    · rintro ⟨i, h1, h2, h3⟩
      by_cases e : i = m
      · subst e; right; rw [if_pos h2]; simp [h3]
      · left; exact ⟨i, by omega, h2, h3⟩
theorem els_len (b : Nat → Bool) : ∀ m, (els b m).length ≤ m
  | 0 => by simp [els]
  | m + 1 => by
    have := els_len b m
    simp only [els, List.length_append]; split <;> simp <;> omega
/-- The sum, and that neighbours in the list lie two places apart at least. -/
theorem els_sum (b : Nat → Bool) : ∀ m, (els b m).foldl (· + ·) 0 = (val b m : Int)
  | 0 => rfl
  | m + 1 => by
    simp only [els, List.foldl_append, els_sum b m, val]
    split <;> simp
theorem els_apart (b : Nat → Bool) : ∀ m, NA b m → ∀ j (h : j + 1 < (els b m).length), 2 * (els b m)[j] ≤ (els b m)[j + 1]
  | 0, _, j, h => by simp [els] at h
  | m + 1, hn, j, h => by
    have ih := els_apart b m (hn.le (by omega))
    by_cases hb : b m = true
    · have e : els b (m + 1) = els b m ++ [(fb m : Int)] := by simp only [els]; rw [if_pos hb]
      have hlen : (els b (m + 1)).length = (els b m).length + 1 := by rw [e]; simp
      by_cases hj : j + 1 < (els b m).length
      · have := ih j hj
        simp only [e]
        rw [List.getElem_append_left (by omega), List.getElem_append_left (by omega)]; exact this
      · have hj2 : j + 1 = (els b m).length := by omega
        simp only [e]
        rw [List.getElem_append_left (by omega), List.getElem_append_right (by omega)]
        have hmem : (els b m)[j]'(by omega) ∈ els b m := List.getElem_mem _
        obtain ⟨i, h1, h2, h3⟩ := (mem_els b m _).mp hmem
        rw [h3]
        have hi : i + 2 ≤ m := by
          rcases Nat.lt_or_ge (i + 1) m with h4 | h4
          · omega
          · obtain rfl : m = i + 1 := by omega
            exact absurd ⟨h2, hb⟩ (hn i (by omega))
        have h5 := fb_double i; have h6 := fb_mono hi
        simp only [hj2, Nat.sub_self, List.getElem_cons_zero]
        omega
    · have e : els b (m + 1) = els b m := by simp only [els]; rw [if_neg hb]; simp
      simp only [e] at h ⊢
      exact ih j h

/-- How many elements of the row are no greater than n. -/
def cnt (n : Nat) : Nat → Nat
  | 0 => 0
  | m + 1 => if fb m ≤ n then m + 1 else cnt n m
theorem cnt_ok (n : Nat) : ∀ m, n < fb m → n < fb (cnt n m) ∧ cnt n m ≤ m ∧ (0 < n → 0 < cnt n m ∧ fb (cnt n m - 1) ≤ n)
  | 0, h => ⟨h, Nat.le_refl _, fun h0 => by simp only [fb] at h; omega⟩
  | m + 1, h => by
    simp only [cnt]
    by_cases hm : fb m ≤ n
    · rw [if_pos hm]; exact ⟨h, Nat.le_refl _, fun _ => ⟨by omega, by simpa using hm⟩⟩
    · rw [if_neg hm]
      obtain ⟨h1, h2, h3⟩ := cnt_ok n m (by omega)
      exact ⟨h1, by omega, h3⟩
/-- Bits as characters. -/
def chars (b : Nat → Bool) (m : Nat) : List UInt8 := (List.range m).map fun i => if b i then 49 else 48
theorem chars_succ (b : Nat → Bool) (m : Nat) : chars b (m + 1) = chars b m ++ [if b m then 49 else 48] := by
  unfold chars; rw [List.range_succ, List.map_append]; rfl
theorem chars_len (b : Nat → Bool) (m : Nat) : (chars b m).length = m := by simp [chars]
theorem chars_get (b : Nat → Bool) (m i : Nat) (h : i < m) : (chars b m)[i]? = some (if b i then 49 else 48) := by simp [chars, h]
theorem chars_congr {b c : Nat → Bool} (m : Nat) (h : ∀ i, i < m → b i = c i) : chars b m = chars c m := by
  unfold chars; apply List.map_congr_left; intro i hi; rw [h i (List.mem_range.mp hi)]
end Go.Proofs.Ytgdjjghdjpaofaa.Zeck

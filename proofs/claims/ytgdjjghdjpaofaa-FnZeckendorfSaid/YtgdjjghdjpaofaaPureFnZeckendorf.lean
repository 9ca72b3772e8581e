/-
  FnZeckendorf holds at every input: the sums and the codes of the drawn number are the reference's, without neighbours, and are taken back; so are all drawn bits without neighbours; and at every drawn text both ways of taking agree. No conditions.
-/
import Derived.Test.YtgdjjghdjpaofaaPFnZeckendorfx8
import Derived.Test.YtgdjjghdjpaofaaZDrawFnZeckendorf
namespace Go.Proofs.Ytgdjjghdjpaofaa.PureFnZeckendorf
open Go.RowKit Go.Proofs.Ytgdjjghdjpaofaa.PFnZeckendorf Go.Proofs.YtgdjjghdjpaofaaW.PrintWords Go.Proofs.YtgdjjghdjpaofaaW.PrintLast Go.Proofs.YtgdjjghdjpaofaaW.PrintMore Go.Proofs.Ytgdjjghdjpaofaa.Zeck

theorem same_loop (L : List Int) (hL : L.length ≤ 1000000) (d : Nat) : ∀ i, i + d = L.length → Ev (fun k => laws_sameInts.l0 k L L (L.length : Int) (i : Int)) true := by
  induction d with
  | zero => intro i hi; exact Ev.step (f := fun _ => some true) (fun k => by simp only [laws_sameInts.l0]; rw [if_neg (by omega)]) (Ev.now _)
  | succ d ih =>
    intro i hi
    refine Ev.step (fun k => ?_) (ih (i + 1) (by omega))
    simp only [laws_sameInts.l0]
    rw [if_pos (by omega), if_pos (by omega), if_pos (by omega), if_pos (by omega), if_pos True.intro, w64 (by omega) (by omega)]; rfl
theorem same_ok (L : List Int) (hL : L.length ≤ 1000000) : Ev (fun k => laws_sameInts.f k L L) true :=
  (same_loop L hL L.length 0 (by omega)).congr fun k => by unfold laws_sameInts.f; rw [if_pos rfl]; rfl

/-- Bits without neighbours. -/
def Good (B : List UInt8) : Prop := Plain B B.length ∧ NA (bitAt B) B.length
theorem bitAt_left (B C : List UInt8) (i : Nat) (h : i < B.length) : bitAt (B ++ C) i = bitAt B i := by unfold bitAt; rw [List.getElem?_append_left h]
theorem good_nil : Good [] := ⟨fun i hi => by simp at hi, fun i hi => by simp at hi⟩
theorem good_zero {B : List UInt8} (h : Good B) : Good (B ++ [48]) := by
  refine ⟨fun i hi => ?_, fun i hi => ?_⟩
  · rw [List.length_append, List.length_singleton] at hi
    by_cases e : i < B.length
    · rw [List.getElem?_append_left e]; exact h.1 i e
    · left; rw [List.getElem?_append_right (by omega), show i - B.length = 0 by omega]; rfl
  · rw [List.length_append, List.length_singleton] at hi
    rintro ⟨h1, h2⟩
    by_cases e : i + 1 < B.length
    · rw [bitAt_left _ _ _ (by omega)] at h1 h2; exact h.2 i e ⟨h1, h2⟩
    · unfold bitAt at h2; rw [List.getElem?_append_right (by omega), show i + 1 - B.length = 0 by omega] at h2; simp at h2
theorem good_one {B : List UInt8} (h : Good B) (hl : B = [] ∨ B[B.length - 1]? = some 48) : Good (B ++ [49]) := by
  refine ⟨fun i hi => ?_, fun i hi => ?_⟩
  · rw [List.length_append, List.length_singleton] at hi
    by_cases e : i < B.length
    · rw [List.getElem?_append_left e]; exact h.1 i e
    · right; rw [List.getElem?_append_right (by omega), show i - B.length = 0 by omega]; rfl
  · rw [List.length_append, List.length_singleton] at hi
    rintro ⟨h1, h2⟩
    by_cases e : i + 1 < B.length
    · rw [bitAt_left _ _ _ (by omega)] at h1 h2; exact h.2 i e ⟨h1, h2⟩
    · rcases hl with hl | hl
      · subst hl; simp at hi
      · rw [bitAt_left _ _ _ (by omega)] at h1
        unfold bitAt at h1
        rw [show i = B.length - 1 by omega, hl] at h1; simp at h1
/-- Good bits that end in a one, and one more. -/
theorem good_pair {B : List UInt8} (h : Good B) (h0 : 0 < B.length) (hl : B[B.length - 1]? = some 49) (C : List UInt8) : Pair (B ++ 49 :: C) (B.length - 1) ∧ Plain (B ++ 49 :: C) (B.length - 1 + 1) := by
  refine ⟨⟨?_, ?_, ?_⟩, ?_⟩
  · rw [List.getElem?_append_left (by omega)]; exact hl
  · rw [List.getElem?_append_right (by omega), show B.length - 1 + 1 - B.length = 0 by omega]; rfl
  · intro j hj
    rw [List.getElem?_append_left (by omega), List.getElem?_append_left (by omega)]
    rintro ⟨h1, h2⟩
    exact h.2 j (by omega) ⟨by simp [bitAt, h1], by simp [bitAt, h2]⟩
  · intro i hi
    rw [List.getElem?_append_left (by omega)]; exact h.1 i (by omega)
theorem good_chars (b : Nat → Bool) (m : Nat) (h : NA b m) : Good (chars b m) := by
  have hb : ∀ i, i < m → bitAt (chars b m) i = b i := fun i hi => by
    unfold bitAt; rw [chars_get _ _ _ hi]; cases b i <;> rfl
  refine ⟨fun i hi => ?_, fun i hi => ?_⟩
  · rw [chars_len] at hi
    rw [chars_get _ _ _ hi]
    cases b i
    · left; rfl
    · right; rfl
  · rw [chars_len] at hi
    rw [hb i (by omega), hb (i + 1) (by omega)]; exact h i hi

theorem ev_bind {α β : Type} {g : Nat → Option α} {a : α} {F : Nat → α → Option β} {r : β} (h : Ev g a) (h2 : Ev (fun k => F k a) r) : Ev (fun k => (g k).bind (F k)) r := Ev.bind h h2
theorem tail_ok (l : List Int) (hl : Bytes l) : Ev (fun k => (spec_DrawTakeFibonacci.f k l).bind fun t324 => ((impl_TakeFibonacci.f k t324).bind fun bt325 => ((spec_TakeFibonacci.f k t324).bind fun bt328 => (if (bt325.2.2 == bt328.2.2) = true then (if bt325.1 = bt328.1 then (some (bt325.2.1 == bt328.2.1)) else (some false)) else (some false))))) true := by
  obtain ⟨t, ht, hts⟩ := drawn_text l hl
  obtain ⟨R, h1, h2⟩ := take_same t (by omega)
  exact Ev.bind (f := fun k t324 => (impl_TakeFibonacci.f k t324).bind fun bt325 => ((spec_TakeFibonacci.f k t324).bind fun bt328 => (if (bt325.2.2 == bt328.2.2) = true then (if bt325.1 = bt328.1 then (some (bt325.2.1 == bt328.2.1)) else (some false)) else (some false)))) ht
    (Ev.bind (f := fun k bt325 => (spec_TakeFibonacci.f k t).bind fun bt328 => (if (bt325.2.2 == bt328.2.2) = true then (if bt325.1 = bt328.1 then (some (bt325.2.1 == bt328.2.1)) else (some false)) else (some false))) h1
      (Ev.bind (f := fun _ bt328 => if (R.2.2 == bt328.2.2) = true then (if R.1 = bt328.1 then (some (R.2.1 == bt328.2.1)) else (some false)) else (some false)) h2 ⟨0, fun _ _ => by show (if (R.2.2 == R.2.2) = true then _ else _) = _; rw [if_pos (by simp), if_pos rfl]; simp⟩))
theorem j7_no (l : List Int) (hl : Bytes l) (x : ByteArray) : Ev (fun k => laws_FnZeckendorf.j7 k l x false) true :=
  Ev.step (fun k => by simp only [laws_FnZeckendorf.j7]; rfl) (tail_ok l hl)
theorem j8_no (l : List Int) (hl : Bytes l) : Ev (fun k => laws_FnZeckendorf.j8 k l false) true :=
  Ev.step (fun k => by simp only [laws_FnZeckendorf.j8]; rfl) (tail_ok l hl)
theorem j7_yes (l : List Int) (hl : Bytes l) (B : List UInt8) (h : Good B) (h0 : 0 < B.length) (h14 : B.length ≤ 14) (hb : B[B.length - 1]? = some 49) : Ev (fun k => laws_FnZeckendorf.j7 k l (str B) true) true := by
  obtain ⟨hp, hpl⟩ := good_pair h h0 hb []
  have hlt : B.length - 1 < 29 := by omega
  obtain ⟨ht, hpos⟩ := pair_top hp hlt
  have hv := val_lt _ _ (pair_NA hp)
  have hf : fb (B.length - 1 + 1) ≤ fb 14 := fb_mono (by omega)
  have h14v : fb 14 = 987 := by decide +kernel
  have htk : took (B ++ [49]) (B.length - 1) = ((val (bitAt (B ++ [49])) (B.length - 1 + 1) : Int), ((B.length - 1 : Nat) : Int) + 2, true) := by unfold took; rw [if_pos ⟨hlt, hpl, by omega⟩]
  have hcode := (pair_code hp hlt (by simp; omega)).mpr hpl
  rw [List.take_of_length_le (by simp; omega)] at hcode
  have h1 := impl_take_pair (str (B ++ [49])) (by rw [str_size]; simp; omega) (B.length - 1) hp
  rw [str_list, htk] at h1
  obtain ⟨c, _, hc, _, hc1, _⟩ := both_fib (val (bitAt (B ++ [49])) (B.length - 1 + 1)) (by omega)
  have hce := hc1 ⟨hpos, by omega⟩
  rw [hce, hcode] at hc
  refine Ev.step (fun k => ?_) (Ev.bind (f := fun k bt319 => (impl_FibonacciOf.f k bt319.1).bind fun bt322 => (if bt319.2.2 = true then (if bt319.2.1 = ((str B ++ (⟨#[49]⟩ : ByteArray)).size : Int) then (if bt322.2 = true then (laws_FnZeckendorf.j8 k l (bt322.1.toList != (str B ++ (⟨#[49]⟩ : ByteArray)).toList)) else (laws_FnZeckendorf.j8 k l true)) else (laws_FnZeckendorf.j8 k l true)) else (laws_FnZeckendorf.j8 k l true))) h1 (Ev.bind (f := fun k (bt322 : ByteArray × Bool) => (if (((val (bitAt (B ++ [49])) (B.length - 1 + 1) : Int), ((B.length - 1 : Nat) : Int) + 2, true) : Int × Int × Bool).2.2 = true then (if (((val (bitAt (B ++ [49])) (B.length - 1 + 1) : Int), ((B.length - 1 : Nat) : Int) + 2, true) : Int × Int × Bool).2.1 = ((str B ++ (⟨#[49]⟩ : ByteArray)).size : Int) then (if bt322.2 = true then (laws_FnZeckendorf.j8 k l (bt322.1.toList != (str B ++ (⟨#[49]⟩ : ByteArray)).toList)) else (laws_FnZeckendorf.j8 k l true)) else (laws_FnZeckendorf.j8 k l true)) else (laws_FnZeckendorf.j8 k l true))) hc ((j8_no l hl).congr fun k => ?_)))
  · simp only [laws_FnZeckendorf.j7]
    rw [if_pos True.intro, str_size, if_pos (by omega), str_one, str_app]
  · simp only
    rw [if_pos True.intro, str_one, str_app, str_size, if_pos (by simp; omega), if_pos True.intro]
    congr 1
    simp
theorem bits_go (l : List Int) (hl : Bytes l) (d : Nat) : ∀ (B : List UInt8) (i : Nat), Good B → B.length = i → i ≤ 14 → i + d = 15 → Ev (fun k => laws_FnZeckendorf.l2 k l (str B) (i : Int)) true := by
  induction d with
  | zero => intro B i _ _ h1 h2; omega
  | succ d ih =>
    intro B i hB hBl h14 hd
    have stop : Ev (fun k => laws_FnZeckendorf.j6 k l (str B) (i : Int) false) true := by
      by_cases h0 : B = []
      · refine Ev.step (fun k => ?_) (j7_no l hl (str B))
        simp only [laws_FnZeckendorf.j6]
        rw [if_neg (by simp), str_toList, if_pos h0]
      · have hpos : 0 < B.length := List.length_pos_iff.mpr h0
        have hw : wrap64 (((str B).size : Int) - 1) = ((B.length - 1 : Nat) : Int) := by rw [str_size, w64 (by omega) (by omega)]; omega
        by_cases hb : B[B.length - 1]? = some 49
        · refine Ev.step (fun k => ?_) (j7_yes l hl B hB hpos (by omega) hb)
          simp only [laws_FnZeckendorf.j6]
          rw [if_neg (by simp), str_toList, if_neg h0, hw, if_pos (by omega), if_pos (by rw [str_size]; omega),
            show (bt (str B) ((B.length - 1 : Nat) : Int) == 49) = true from beq_iff_eq.mpr ((bt_49 _ _ (by rw [str_size]; omega)).mpr (by show bitAt B _ = true; simp [bitAt, hb]))]
        · refine Ev.step (fun k => ?_) (j7_no l hl (str B))
          simp only [laws_FnZeckendorf.j6]
          rw [if_neg (by simp), str_toList, if_neg h0, hw, if_pos (by omega), if_pos (by rw [str_size]; omega),
            show (bt (str B) ((B.length - 1 : Nat) : Int) == 49) = false from beq_eq_false_iff_ne.mpr (fun hc => hb (by have h1 := (bt_49 _ _ (by rw [str_size]; omega)).mp hc; change bitAt B _ = true at h1; simpa [bitAt] using h1))]
    by_cases h1 : (i : Int) < (l.length : Int)
    · by_cases h2 : i < 14
      · have hone : str B ++ (⟨#[49]⟩ : ByteArray) = str (B ++ [49]) := by rw [str_one, str_app]
        have hzero : str B ++ (⟨#[48]⟩ : ByteArray) = str (B ++ [48]) := by rw [str_zero, str_app]
        have hw1 : wrap64 ((i : Int) + 1) = ((i + 1 : Nat) : Int) := by rw [w64 (by omega) (by omega)]; omega
        have z := ih (B ++ [48]) (i + 1) (good_zero hB) (by simp; omega) (by omega) (by omega)
        have go : Ev (fun k => laws_FnZeckendorf.j6 k l (str B) (i : Int) true) true := by
          by_cases hm : Int.tmod (rd l (i : Int)) 2 = 1
          · by_cases h0 : B = []
            · refine Ev.step (fun k => ?_) (ih (B ++ [49]) (i + 1) (good_one hB (.inl h0)) (by simp; omega) (by omega) (by omega))
              simp only [laws_FnZeckendorf.j6]
              rw [if_pos True.intro, if_pos (by omega), if_pos (by omega), if_pos hm, str_toList, if_pos h0, str_size, if_pos (by omega), hone, hw1]
            · have hpos : 0 < B.length := List.length_pos_iff.mpr h0
              have hw : wrap64 (((str B).size : Int) - 1) = ((B.length - 1 : Nat) : Int) := by rw [str_size, w64 (by omega) (by omega)]; omega
              by_cases hb : B[B.length - 1]? = some 48
              · refine Ev.step (fun k => ?_) (ih (B ++ [49]) (i + 1) (good_one hB (.inr hb)) (by simp; omega) (by omega) (by omega))
                simp only [laws_FnZeckendorf.j6]
                rw [if_pos True.intro, if_pos (by omega), if_pos (by omega), if_pos hm, str_toList, if_neg h0, hw, if_pos (by omega), if_pos (by rw [str_size]; omega), if_pos ((bt_48 _ _ (by rw [str_size]; omega)).mpr hb), str_size, if_pos (by omega), hone, hw1]
              · refine Ev.step (fun k => ?_) z
                simp only [laws_FnZeckendorf.j6]
                rw [if_pos True.intro, if_pos (by omega), if_pos (by omega), if_pos hm, str_toList, if_neg h0, hw, if_pos (by omega), if_pos (by rw [str_size]; omega), if_neg (fun hc => hb ((bt_48 _ _ (by rw [str_size]; omega)).mp hc)), str_size, if_pos (by omega), hzero, hw1]
          · refine Ev.step (fun k => ?_) z
            simp only [laws_FnZeckendorf.j6]
            rw [if_pos True.intro, if_pos (by omega), if_pos (by omega), if_neg hm, str_size, if_pos (by omega), hzero, hw1]
        refine Ev.step (fun k => ?_) go
        simp only [laws_FnZeckendorf.l2]
        rw [if_pos h1, show decide ((i : Int) < 14) = true from decide_eq_true (by omega)]
      · refine Ev.step (fun k => ?_) stop
        simp only [laws_FnZeckendorf.l2]
        rw [if_pos h1, show decide ((i : Int) < 14) = false from decide_eq_false (by omega)]
    · refine Ev.step (fun k => ?_) stop
      simp only [laws_FnZeckendorf.l2]
      rw [if_neg h1]
theorem j4_ok (l : List Int) (hl : Bytes l) : Ev (fun k => laws_FnZeckendorf.j4 k l) true :=
  Ev.step (fun k => by simp only [laws_FnZeckendorf.j4]; rfl) (bits_go l hl 15 [] 0 good_nil rfl (by omega) (by omega))

theorem pairs_go (l : List Int) (hl : Bytes l) (b : Nat → Bool) (M : Nat) (hM : M ≤ 31) (hn : NA b M) (d : Nat) : ∀ i, i + d = M → Ev (fun k => laws_FnZeckendorf.l1 k l (str (chars b M ++ [49])) (i : Int)) true := by
  have hsz : (str (chars b M ++ [49])).size = M + 1 := by rw [str_size]; simp [chars_len]
  have hbit : ∀ i, i < M → (bt (str (chars b M ++ [49])) (i : Int) = 49 ↔ b i = true) := fun i hi => by
    rw [bt_49 _ _ (by omega), str_list, bitAt_left _ _ _ (by rw [chars_len]; exact hi)]
    unfold bitAt; rw [chars_get _ _ _ hi]; cases b i <;> simp
  induction d with
  | zero =>
    intro i hi
    refine Ev.step (fun k => ?_) (j4_ok l hl )
    simp only [laws_FnZeckendorf.l1]
    rw [w64 (by omega) (by omega), if_neg (by omega)]
  | succ d ih =>
    intro i hi
    by_cases h : i + 2 < M + 1
    · refine Ev.step (fun k => ?_) (ih (i + 1) (by omega))
      simp only [laws_FnZeckendorf.l1]
      rw [w64 (x := (i : Int) + 2) (by omega) (by omega), w64 (x := (i : Int) + 1) (by omega) (by omega), show ((i : Int) + 1) = ((i + 1 : Nat) : Int) by omega, if_pos (by omega), if_pos (by omega), if_pos (by omega)]
      by_cases hb : b i = true
      · rw [if_pos ((hbit i (by omega)).mpr hb), if_pos (by omega), if_pos (by omega), if_neg (fun hc => hn i (by omega) ⟨hb, (hbit (i + 1) (by omega)).mp hc⟩)]
      · rw [if_neg (fun hc => hb ((hbit i (by omega)).mp hc))]
    · refine Ev.step (fun k => ?_) (j4_ok l hl )
      simp only [laws_FnZeckendorf.l1]
      rw [w64 (by omega) (by omega), if_neg (by omega)]
theorem sum_bound (L : List Int) (hmem : ∀ x ∈ L, 0 ≤ x ∧ x ≤ 9227465) : ∀ j : Nat, j ≤ L.length → 0 ≤ (L.take j).foldl (· + ·) (0 : Int) ∧ (L.take j).foldl (· + ·) (0 : Int) ≤ 9227465 * (j : Int)
  | 0, _ => by simp
  | j + 1, hj => by
    have h3 := sum_bound L hmem j (by omega)
    have h4 := hmem _ (List.getElem_mem (show j < L.length by omega))
    rw [List.take_succ_eq_append_getElem (by omega), List.foldl_append, List.foldl_cons, List.foldl_nil]
    generalize (L.take j).foldl (· + ·) (0 : Int) = s at *
    generalize L[j] = x at *
    omega
theorem sum_step (L : List Int) (hl1 : L.length ≤ 31) (hap : ∀ j (h : j + 1 < L.length), 2 * L[j] ≤ L[j + 1]) (hmem : ∀ x ∈ L, 0 ≤ x ∧ x ≤ 9227465) (i : Nat) (hilt : i < L.length) :
    wrap64 ((L.take i).foldl (· + ·) 0 + rd L (i : Int)) = (L.take (i + 1)).foldl (· + ·) 0 ∧ wrap64 ((i : Int) + 1) = ((i + 1 : Nat) : Int) ∧
    ((i : Int) > 0 → 0 ≤ wrap64 ((i : Int) - 1) ∧ wrap64 ((i : Int) - 1) < (L.length : Int) ∧ ¬ (rd L (i : Int) < wrap64 (2 * rd L (wrap64 ((i : Int) - 1))))) := by
  refine ⟨?_, by rw [w64 (by omega) (by omega)]; omega, ?_⟩
  · have h3 := sum_bound L hmem i (by omega)
    have h4 := hmem _ (List.getElem_mem hilt)
    rw [rd_nat _ _ hilt, List.take_succ_eq_append_getElem hilt, List.foldl_append, List.foldl_cons, List.foldl_nil]
    generalize (L.take i).foldl (· + ·) (0 : Int) = s at *
    generalize L[i] = x at *
    exact w64 (by omega) (by omega)
  · intro hi0
    have h5 := hap (i - 1) (by omega)
    have h6 : L[i - 1 + 1]'(by omega) = L[i] := by congr 1; omega
    rw [h6] at h5
    have h7 := hmem _ (List.getElem_mem (show i - 1 < L.length by omega))
    rw [w64 (x := (i : Int) - 1) (by omega) (by omega), show ((i : Int) - 1) = ((i - 1 : Nat) : Int) by omega, rd_nat _ _ hilt, rd_nat _ _ (show i - 1 < L.length by omega), w64 (by omega) (by omega)]
    exact ⟨by omega, by omega, by omega⟩
theorem sum_go (l : List Int) (hl : Bytes l) (n : Nat) (h0 : 0 < n) (hn : n ≤ 1000000) (L : List Int) (hl1 : L.length ≤ 31) (hsum : L.foldl (· + ·) 0 = (n : Int)) (hap : ∀ j (h : j + 1 < L.length), 2 * L[j] ≤ L[j + 1]) (hmem : ∀ x ∈ L, 0 ≤ x ∧ x ≤ 9227465) (d : Nat) : ∀ i, i + d = L.length →
    Ev (fun k => laws_FnZeckendorf.l0 k l (n : Int) L (str (code n)) ((L.take i).foldl (· + ·) 0) L (L.length : Int) (i : Int)) true := by
  obtain ⟨t1, t2, t3⟩ := top_ok n (by rw [fb31]; omega)
  have h29 := top29 n hn
  obtain ⟨ht, _, _, _, hg⟩ := last_el n h0 hn
  have hval : val (gb (top n) n) (top n) = n := gb_val _ _ t1
  have hNA : NA (gb (top n) n) (top n) := gb_NA _ _ t1
  have hcs : (str (code n)).size = top n + 1 := by rw [str_size]; simp [code, chars_len]
  induction d with
  | zero =>
    intro i hi
    obtain rfl : i = L.length := by omega
    rw [List.take_length, hsum]
    have hgood := good_chars _ _ hNA
    obtain ⟨hp, hpl⟩ := good_pair hgood (by rw [chars_len]; exact ht) (by rw [chars_len, chars_get _ _ _ (by omega), hg]; rfl) [48, 49, 49]
    rw [chars_len] at hp hpl
    have hs : str (code n) ++ (⟨#[48, 49, 49]⟩ : ByteArray) = str (chars (gb (top n) n) (top n) ++ 49 :: [48, 49, 49]) := by
      rw [show (⟨#[48, 49, 49]⟩ : ByteArray) = str [48, 49, 49] from rfl, str_app]; simp [code]
    have hv : val (bitAt (chars (gb (top n) n) (top n) ++ 49 :: [48, 49, 49])) (top n - 1 + 1) = n := by
      rw [show top n - 1 + 1 = top n by omega, val_congr (c := gb (top n) n) (top n) (fun i hi => ?_), hval]
      rw [bitAt_left _ _ _ (by rw [chars_len]; exact hi)]
      unfold bitAt; rw [chars_get _ _ _ hi]; cases gb (top n) n i <;> rfl
    have htk : took (chars (gb (top n) n) (top n) ++ 49 :: [48, 49, 49]) (top n - 1) = ((n : Int), ((top n - 1 : Nat) : Int) + 2, true) := by
      unfold took; rw [hv, if_pos ⟨by omega, hpl, hn⟩]
    have h1 := impl_take_pair (str (chars (gb (top n) n) (top n) ++ 49 :: [48, 49, 49])) (by rw [str_size]; simp [chars_len]; omega) (top n - 1) hp
    rw [str_list, htk] at h1
    have hj2 : Ev (fun k => laws_FnZeckendorf.j2 k l (str (code n)) false) true := by
      refine Ev.step (fun k => ?_) (pairs_go l hl (gb (top n) n) (top n) t2 hNA (top n) 0 (by omega))
      simp only [laws_FnZeckendorf.j2]; rfl
    refine Ev.step (fun k => ?_) (Ev.bind (f := fun k bt315 => if (n : Int) = (n : Int) then (if bt315.2.2 = true then (if bt315.1 = (n : Int) then (if bt315.2.1 = ((str (code n)).size : Int) then (if ((str (code n)).size : Int) < 2 then (laws_FnZeckendorf.j2 k l (str (code n)) true) else (if 0 ≤ (wrap64 (((str (code n)).size : Int) - 2)) then (if (wrap64 (((str (code n)).size : Int) - 2)) ≤ ((str (code n)).size : Int) then (laws_FnZeckendorf.j2 k l (str (code n)) (((str (code n)).extract ((wrap64 (((str (code n)).size : Int) - 2)) : Int).toNat (str (code n)).size).toList != ([49, 49] : List UInt8))) else (none)) else (none))) else (laws_FnZeckendorf.j2 k l (str (code n)) true)) else (laws_FnZeckendorf.j2 k l (str (code n)) true)) else (laws_FnZeckendorf.j2 k l (str (code n)) true)) else (laws_FnZeckendorf.j2 k l (str (code n)) true)) h1 (hj2.congr fun k => ?_))
    · simp only [laws_FnZeckendorf.l0]
      rw [if_neg (by omega), if_pos (by omega), hs]
    · simp only
      rw [if_pos True.intro, if_pos True.intro, if_pos True.intro, hcs, if_pos (by omega), if_neg (by omega), w64 (by omega) (by omega), if_pos (by omega), if_pos (by omega), show (((top n + 1 : Nat) : Int) - 2).toNat = top n - 1 by omega]
      have he : ((str (code n)).extract (top n - 1) (top n + 1)).toList = [49, 49] := by
        rw [ByteArray.toList_eq, ByteArray.data_extract]
        apply List.ext_getElem?
        intro j
        have hc : (chars (gb (top n) n) (top n) ++ [49])[top n - 1]? = some 49 := by rw [List.getElem?_append_left (by rw [chars_len]; omega), chars_get _ _ _ (by omega), hg]; rfl
        have hd : (chars (gb (top n) n) (top n) ++ [49])[top n]? = some 49 := by rw [List.getElem?_append_right (by rw [chars_len]; omega), chars_len]; simp
        simp only [Array.toList_extract, List.extract_eq_take_drop, List.getElem?_take, List.getElem?_drop]
        change (if j < top n + 1 - (top n - 1) then (chars (gb (top n) n) (top n) ++ [49])[top n - 1 + j]? else none) = _
        match j with
        | 0 => rw [if_pos (by omega)]; exact hc
        | 1 => rw [if_pos (by omega), show top n - 1 + 1 = top n by omega]; exact hd
        | j + 2 => rw [if_neg (by omega)]; rfl
      rw [he]; rfl
  | succ d ih =>
    intro i hi
    have hilt : i < L.length := by omega
    have hnext := ih (i + 1) (by omega)
    obtain ⟨hstep, hw1, hrest⟩ := sum_step L hl1 hap hmem i hilt
    have ha : (i : Int) < (L.length : Int) := Int.ofNat_lt.mpr hilt
    have hb0 : 0 ≤ (i : Int) := Int.natCast_nonneg _
    clear hsum hap hmem ih
    refine Ev.step (fun k => ?_) hnext
    simp only [laws_FnZeckendorf.l0]
    rw [if_pos ha, if_pos hb0, if_pos ha, hstep, hw1]
    by_cases hi0 : (i : Int) > 0
    · obtain ⟨r1, r2, r3⟩ := hrest hi0
      rw [if_pos hi0, if_pos r1, if_pos r2, if_neg r3]
    · rw [if_neg hi0]

theorem law_holds : laws_FnZeckendorf.Pure := by
  intro l0 l1 h1 h2 h3 h4 h5 h6
  have hl0 := Bytes.of h3
  have hl1 := Bytes.of h6
  by_cases hbig : (wrap64 ((l0.length : Int) + (l1.length : Int))) > 1048576
  · exact ⟨0, by unfold laws_FnZeckendorf.f; rw [if_pos hbig]⟩
  obtain ⟨n, hn, hn1⟩ := drawn_number l0 hl0
  obtain ⟨c, hc1, hc2, hcs, hcy, hcn⟩ := both_fib n hn1
  obtain ⟨q, hq1, hq2, hqy, hqn⟩ := both_sums n hn1
  have hqlen : q.1.length ≤ 1000000 := by
    by_cases h : 0 < n ∧ n ≤ 1000000
    · rw [hqy h]; have := (last_el n h.1 h.2).2.1; show (els _ _).length ≤ _; omega
    · rw [hqn h]; show 0 ≤ _; omega
  have main : Ev (fun k => laws_FnZeckendorf.j0 k l1 (n : Int) q.1 q.2 c.1 false) true := by
    by_cases h : 0 < n ∧ n ≤ 1000000
    · rw [hqy h, hcy h]
      obtain ⟨t1, t2, t3⟩ := top_ok n (by rw [fb31]; omega)
      refine Ev.step (fun k => ?_) (sum_go l1 hl1 n h.1 h.2 (els (gb (top n) n) (top n)) (last_el n h.1 h.2).2.1 (by rw [els_sum, gb_val _ _ t1]) (els_apart _ _ (gb_NA _ _ t1)) (fun x hx => by
        obtain ⟨j, j1, _, rfl⟩ := (mem_els _ _ x).mp hx
        have := fb33 (i := j) (by omega); omega) _ 0 (Nat.zero_add _))
      simp only [laws_FnZeckendorf.j0]; rfl
    · rw [hqn h]
      refine Ev.step (fun k => ?_) (j4_ok l1 hl1)
      simp only [laws_FnZeckendorf.j0]; rfl
  refine Ev.rounds ?_
  simp only [laws_FnZeckendorf.f, if_neg hbig, hn, Option.bind_some]
  refine ev_bind hq2 (ev_bind hq1 (ev_bind hc2 (ev_bind hc1 ?_)))
  simp only [bne_self_eq_false, Bool.false_eq_true, if_false]
  refine ev_bind (same_ok q.1 hqlen) ?_
  simp only [if_true]
  exact main
end Go.Proofs.Ytgdjjghdjpaofaa.PureFnZeckendorf
namespace Go.Proofs.Ytgdjjghdjpaofaa.Pure
theorem FnZeckendorf : Go.Proofs.Ytgdjjghdjpaofaa.PFnZeckendorf.laws_FnZeckendorf.Pure := PureFnZeckendorf.law_holds
end Go.Proofs.Ytgdjjghdjpaofaa.Pure

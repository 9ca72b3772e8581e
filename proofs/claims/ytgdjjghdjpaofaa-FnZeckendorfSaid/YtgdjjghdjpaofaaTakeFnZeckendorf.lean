/-
  Taking a number from its code: the program's and the reference's ways agree at every text, and the code of a number gives it back. No conditions beyond those that each lemma names.
-/
import Derived.Test.YtgdjjghdjpaofaaFibFnZeckendorf
namespace Go.Proofs.Ytgdjjghdjpaofaa.PureFnZeckendorf
open Go.RowKit Go.Proofs.Ytgdjjghdjpaofaa.PFnZeckendorf Go.Proofs.YtgdjjghdjpaofaaW.PrintWords Go.Proofs.YtgdjjghdjpaofaaW.PrintLast Go.Proofs.YtgdjjghdjpaofaaW.PrintMore Go.Proofs.Ytgdjjghdjpaofaa.Zeck

/-- Where two ones stand side by side for the first time. -/
def Pair (s : List UInt8) (e : Nat) : Prop := s[e]? = some 49 ∧ s[e + 1]? = some 49 ∧ ∀ j : Nat, j < e → ¬ (s[j]? = some 49 ∧ s[j + 1]? = some 49)
def NoPair (s : List UInt8) : Prop := ∀ j : Nat, ¬ (s[j]? = some 49 ∧ s[j + 1]? = some 49)
theorem occ2 (s : List UInt8) (i : Nat) : Lib.occAt s [49, 49] i = true ↔ (s[i]? = some 49 ∧ s[i + 1]? = some 49) := by
  unfold Lib.occAt
  have h0 : s[i]? = (s.drop i)[0]? := by simp
  have h1 : s[i + 1]? = (s.drop i)[1]? := by simp
  rw [h0, h1]
  rcases s.drop i with _ | ⟨a, _ | ⟨b, t⟩⟩
  · simp [List.isPrefixOf]
  · simp [List.isPrefixOf]
  · simp only [List.isPrefixOf, List.getElem?_cons_zero, List.getElem?_cons_succ, Option.some.injEq, Bool.and_eq_true, beq_iff_eq]
    constructor
    · rintro ⟨h1, h2, _⟩; exact ⟨h1.symm, h2.symm⟩
    · rintro ⟨h1, h2⟩; exact ⟨h1.symm, h2.symm, trivial⟩
theorem pair_index {s : List UInt8} {e : Nat} (h : Pair s e) : Lib.index s [49, 49] = e := by
  obtain ⟨h1, h2, h3⟩ := h
  have hlt : e < s.length := by
    rcases Nat.lt_or_ge e s.length with h | h
    · exact h
    · rw [List.getElem?_eq_none h] at h1; cases h1
  refine Lib.index_first (by omega) ((occ2 s e).mpr ⟨h1, h2⟩) fun j hj => ?_
  rw [Bool.eq_false_iff]
  exact fun hc => h3 j hj ((occ2 s j).mp hc)
theorem nopair_index {s : List UInt8} (h : NoPair s) : Lib.index s [49, 49] = -1 :=
  Lib.index_none fun j _ => by rw [Bool.eq_false_iff]; exact fun hc => h j ((occ2 s j).mp hc)
theorem pair_or (s : List UInt8) : NoPair s ∨ ∃ e, Pair s e := by
  by_cases h : NoPair s
  · exact .inl h
  · right
    have h2 : ∃ j : Nat, s[j]? = some 49 ∧ s[j + 1]? = some 49 := Classical.byContradiction fun hc => h fun j hj => hc ⟨j, hj⟩
    obtain ⟨j, hj⟩ := h2
    induction j using Nat.strongRecOn with
    | _ j ih =>
      by_cases hm : ∃ i : Nat, i < j ∧ s[i]? = some 49 ∧ s[i + 1]? = some 49
      · obtain ⟨i, hi, h3⟩ := hm; exact ih i hi h3
      · exact ⟨j, hj.1, hj.2, fun i hi h3 => hm ⟨i, hi, h3⟩⟩

/-- The bits of a text. -/
def bitAt (s : List UInt8) (i : Nat) : Bool := s[i]? == some 49
def Plain (s : List UInt8) (m : Nat) : Prop := ∀ i : Nat, i < m → s[i]? = some 48 ∨ s[i]? = some 49
open Classical in
/-- What is taken from a text with a pair at e. -/
noncomputable def took (s : List UInt8) (e : Nat) : Int × Int × Bool :=
  if e < 29 ∧ Plain s (e + 1) ∧ val (bitAt s) (e + 1) ≤ 1000000 then ((val (bitAt s) (e + 1) : Int), (e : Int) + 2, true) else (0, 0, false)
theorem bt_str (s : ByteArray) (i : Nat) (h : i < s.size) : (bt s (i : Int) : Int) = ((s.data.toList[i]?).getD 0).toNat := by
  have h2 := (bt_at s (i : Int) (by simpa using h)).symm
  rw [h2]
  have : s.data.toList[i]? = some (s[i]'h) := by rw [List.getElem?_eq_getElem (by simpa using h)]; rfl
  rw [this]; rfl
theorem bt_49 (s : ByteArray) (i : Nat) (h : i < s.size) : (bt s (i : Int) = 49) ↔ bitAt s.data.toList i = true := by
  rw [bt_str s i h]
  unfold bitAt
  obtain ⟨c, hc⟩ : ∃ c, s.data.toList[i]? = some c := ⟨_, List.getElem?_eq_getElem (by simpa using h)⟩
  rw [hc]
  simp only [Option.getD_some, beq_iff_eq, Option.some.injEq]
  constructor
  · intro h; apply UInt8.toNat_inj.mp; have : c.toNat = 49 := by omega
    rw [this]; rfl
  · rintro rfl; rfl
theorem bt_48 (s : ByteArray) (i : Nat) (h : i < s.size) : (bt s (i : Int) = 48) ↔ s.data.toList[i]? = some 48 := by
  rw [bt_str s i h]
  obtain ⟨c, hc⟩ : ∃ c, s.data.toList[i]? = some c := ⟨_, List.getElem?_eq_getElem (by simpa using h)⟩
  rw [hc]
  simp only [Option.getD_some, Option.some.injEq]
  constructor
  · intro h; apply UInt8.toNat_inj.mp; have : c.toNat = 48 := by omega
    rw [this]; rfl
  · rintro rfl; rfl

theorem number_impl (n : Int) : impl_isNumber.f n = some (decide (1 ≤ n ∧ n ≤ 1000000)) := by
  unfold impl_isNumber.f impl_within.f
  by_cases h : n ≥ 1
  · rw [if_pos h]; simp only [Option.bind_some]; congr 1; rw [decide_eq_decide]; omega
  · rw [if_neg h]; simp only [Option.bind_some]; congr 1; symm; rw [decide_eq_false_iff_not]; omega
theorem number_spec (n : Int) : spec_l13Number.f n = some (decide (1 ≤ n ∧ n ≤ 1000000)) := by
  unfold spec_l13Number.f spec_l1In.f
  by_cases h : n ≥ 1
  · rw [if_pos h]; simp only [Option.bind_some]; congr 1; rw [decide_eq_decide]; omega
  · rw [if_neg h]; simp only [Option.bind_some]; congr 1; symm; rw [decide_eq_false_iff_not]; omega

/-- A pair's bits have no neighbours, and their value's code is the text up to the pair. -/
theorem pair_NA {s : List UInt8} {e : Nat} (h : Pair s e) : NA (bitAt s) (e + 1) := by
  intro i hi
  rintro ⟨h1, h2⟩
  simp only [bitAt, beq_iff_eq] at h1 h2
  exact h.2.2 i (by omega) ⟨h1, h2⟩
theorem pair_top {s : List UInt8} {e : Nat} (h : Pair s e) (he : e < 29) : top (val (bitAt s) (e + 1)) = e + 1 ∧ 0 < val (bitAt s) (e + 1) := by
  have hl := val_lt _ _ (pair_NA h)
  have hb : bitAt s e = true := by simp only [bitAt, beq_iff_eq]; exact h.1
  have hge : fb e ≤ val (bitAt s) (e + 1) := by simp only [val, hb, if_true]; omega
  have hb31 : val (bitAt s) (e + 1) < fb 31 := Nat.lt_of_lt_of_le hl (fb_mono (by omega))
  obtain ⟨h1, h2, h3⟩ := top_ok _ hb31
  have hp := fb_pos e
  refine ⟨?_, by omega⟩
  rcases Nat.lt_trichotomy (top (val (bitAt s) (e + 1))) (e + 1) with h4 | h4 | h4
  · have := fb_mono (show top (val (bitAt s) (e + 1)) ≤ e by omega); omega
  · exact h4
  · have := h3 (e + 1) h4; omega
theorem pair_code {s : List UInt8} {e : Nat} (h : Pair s e) (he : e < 29) (hl : e + 2 ≤ s.length) : (code (val (bitAt s) (e + 1)) = s.take (e + 2)) ↔ Plain s (e + 1) := by
  obtain ⟨ht, _⟩ := pair_top h he
  have hc : code (val (bitAt s) (e + 1)) = chars (bitAt s) (e + 1) ++ [49] := by
    unfold code; rw [ht]; rw [chars_congr (e + 1) (fun i hi => gb_uniq (bitAt s) (e + 1) (pair_NA h) i hi)]
  rw [hc]
  constructor
  · intro heq i hi
    have h1 : (chars (bitAt s) (e + 1) ++ [49])[i]? = s[i]? := by rw [heq, List.getElem?_take]; rw [if_pos (by omega)]
    rw [List.getElem?_append_left (by rw [chars_len]; exact hi), chars_get _ _ _ hi] at h1
    rw [← h1]
    cases bitAt s i
    · left; rfl
    · right; rfl
  · intro hp
    apply List.ext_getElem?
    intro i
    by_cases hi : i < e + 1
    · have h2 : (s.take (e + 2))[i]? = s[i]? := List.getElem?_take_of_lt (by omega)
      have h3 : (chars (bitAt s) (e + 1) ++ [49])[i]? = some (if bitAt s i then 49 else 48) := by
        rw [List.getElem?_append_left (by rw [chars_len]; exact hi), chars_get _ _ _ hi]
      rw [h2, h3]
      rcases hp i hi with h1 | h1
      · have h4 : bitAt s i = false := by simp [bitAt, h1]
        rw [h4, h1]; rfl
      · have h4 : bitAt s i = true := by simp [bitAt, h1]
        rw [h4, h1]; rfl
    · by_cases hi2 : i = e + 1
      · subst hi2
        rw [List.getElem?_take_of_lt (by omega), List.getElem?_append_right (by rw [chars_len]; omega), chars_len, h.2.1]; simp
      · rw [List.getElem?_eq_none (by simp [chars_len]; omega), List.getElem?_eq_none (by simp; omega)]

theorem impl_take_loop (s : ByteArray) (e : Nat) (he : e < 29) (hs : e + 2 ≤ s.size) (R : Int × Int × Bool)
    (hR : Ev (fun k => (impl_isNumber.f (val (bitAt s.data.toList) (e + 1) : Int)).bind fun t => (if t = true then ((impl_fibonacci.f k (val (bitAt s.data.toList) (e + 1) : Int)).bind fun t2 => (if 0 ≤ (wrap64 ((e : Int) + 2)) then (if (wrap64 ((e : Int) + 2)) ≤ (s.size : Int) then (if t2.toList = (s.extract 0 ((wrap64 ((e : Int) + 2)) : Int).toNat).toList then (some ((val (bitAt s.data.toList) (e + 1) : Int), wrap64 ((e : Int) + 2), true)) else (some (0, 0, false))) else (none)) else (none))) else (some (0, 0, false)))) R)
    (d : Nat) : ∀ i, i + d = e + 1 → Ev (fun k => impl_TakeFibonacci.l0 k s (e : Int) (seqL 29) (val (bitAt s.data.toList) i : Int) ((e : Int) + 1) (i : Int)) R := by
  induction d with
  | zero =>
    intro i hi
    obtain rfl : i = e + 1 := by omega
    refine Ev.step (fun k => ?_) hR
    simp only [impl_TakeFibonacci.l0]
    rw [if_neg (by omega)]
  | succ d ih =>
    intro i hi
    refine Ev.step (fun k => ?_) (ih (i + 1) (by omega))
    simp only [impl_TakeFibonacci.l0]
    rw [if_pos (by omega), if_pos (by omega), if_pos (by omega), w64 (x := (i : Int) + 1) (by omega) (by omega)]
    by_cases hb : bitAt s.data.toList i = true
    · have hv : ∀ j, j ≤ 30 → val (bitAt s.data.toList) j ≤ 9227465 * j := by
        intro j
        induction j with
        | zero => intro _; simp [val]
        | succ j ih => intro hj; have := ih (by omega); have := fb33 (i := j) (by omega); simp only [val]; split <;> omega
      have h1 := hv i (by omega); have h2 := fb33 (i := i) (by omega)
      rw [if_pos ((bt_49 s i (by omega)).mpr hb), if_pos (by rw [seqL_len]; omega), rd_seq _ _ (by omega), w64 (by omega) (by omega)]
      congr 1
      simp only [val, hb, if_true]; omega
    · rw [if_neg (fun hc => hb ((bt_49 s i (by omega)).mp hc))]
      congr 1
      simp only [val]; rw [if_neg hb]; omega
theorem extract_take (s : ByteArray) (m : Nat) : (s.extract 0 m).toList = s.data.toList.take m := by
  rw [ByteArray.toList_eq]; simp [ByteArray.data_extract]
theorem str_toList (l : List UInt8) : (str l).toList = l := by rw [ByteArray.toList_eq]
theorem impl_take_pair (s : ByteArray) (hs : s.size ≤ 1000000) (e : Nat) (h : Pair s.data.toList e) : Ev (fun k => impl_TakeFibonacci.f k s) (took s.data.toList e) := by
  have hlen : s.data.toList.length = s.size := by simp
  have hidx := pair_index h
  have hlt : e + 1 < s.size := by
    rcases Nat.lt_or_ge (e + 1) s.size with h1 | h1
    · exact h1
    · have := h.2.1; rw [List.getElem?_eq_none (by omega)] at this; cases this
  have hix : strings_Index.f s (⟨#[49, 49]⟩ : ByteArray) = some (e : Int) := by unfold strings_Index.f; rw [if_pos (by omega)]; rw [show (⟨#[49, 49]⟩ : ByteArray).data.toList = [49, 49] from rfl, hidx]
  have main : Ev (fun k => if (e : Int) < 0 then (impl_TakeFibonacci.j0 k s (e : Int) (seqL 29) true) else (impl_TakeFibonacci.j0 k s (e : Int) (seqL 29) (decide ((e : Int) ≥ ((seqL 29).length : Int))))) (took s.data.toList e) := by
    by_cases he : e < 29
    · obtain ⟨ht, hpos⟩ := pair_top h he
      have hl := impl_take_loop s e he (by omega) (took s.data.toList e) ?_ (e + 1) 0 (by omega)
      · refine (Ev.step (g := fun k => impl_TakeFibonacci.j0 k s (e : Int) (seqL 29) false) (fun k => ?_) hl).congr fun k => ?_
        · simp only [impl_TakeFibonacci.j0]; rw [if_neg (by simp), w64 (by omega) (by omega)]; rfl
        · rw [if_neg (by omega), seqL_len]; congr 1; simp; omega
      · simp only [number_impl, Option.bind_some]
        by_cases hn : val (bitAt s.data.toList) (e + 1) ≤ 1000000
        · refine (Ev.bind (f := fun _ t2 => if 0 ≤ (wrap64 ((e : Int) + 2)) then (if (wrap64 ((e : Int) + 2)) ≤ (s.size : Int) then (if t2.toList = (s.extract 0 ((wrap64 ((e : Int) + 2)) : Int).toNat).toList then (some ((val (bitAt s.data.toList) (e + 1) : Int), wrap64 ((e : Int) + 2), true)) else (some (0, 0, false))) else (none)) else (none)) (impl_fib _ hpos hn) ⟨0, fun _ _ => ?_⟩).congr fun k => ?_
          · show (if 0 ≤ (wrap64 ((e : Int) + 2)) then _ else _) = _
            rw [w64 (by omega) (by omega), if_pos (by omega), if_pos (by omega), show ((e : Int) + 2).toNat = e + 2 by omega, str_toList, extract_take]
            unfold took
            by_cases hp : Plain s.data.toList (e + 1)
            · rw [if_pos ((pair_code h he (by omega)).mpr hp), if_pos ⟨he, hp, hn⟩]
            · rw [if_neg (fun hc => hp ((pair_code h he (by omega)).mp hc)), if_neg (fun hc => hp hc.2.1)]
          · rw [if_pos (by simp; omega)]
        · refine (Ev.now _).congr fun k => ?_
          rw [if_neg (by simp; omega)]
          unfold took; rw [if_neg (by omega)]
    · refine (Ev.step (g := fun k => impl_TakeFibonacci.j0 k s (e : Int) (seqL 29) true) (fun k => ?_) (Ev.now (took s.data.toList e))).congr fun k => ?_
      · simp only [impl_TakeFibonacci.j0]; unfold took; rw [if_neg (c := e < 29 ∧ _) (by omega)]; rfl
      · rw [if_neg (by omega), seqL_len]; congr 1; simp; omega
  refine (Ev.bind (f := fun k t => if (e : Int) < 0 then (impl_TakeFibonacci.j0 k s (e : Int) t true) else (impl_TakeFibonacci.j0 k s (e : Int) t (decide ((e : Int) ≥ (t.length : Int))))) seq_ok main).congr fun k => ?_
  unfold impl_TakeFibonacci.f
  rw [hix, Option.bind_some]
theorem impl_take_none (s : ByteArray) (hs : s.size ≤ 1000000) (h : NoPair s.data.toList) : Ev (fun k => impl_TakeFibonacci.f k s) (0, 0, false) := by
  have hix : strings_Index.f s (⟨#[49, 49]⟩ : ByteArray) = some (-1) := by unfold strings_Index.f; rw [if_pos (by omega)]; rw [show (⟨#[49, 49]⟩ : ByteArray).data.toList = [49, 49] from rfl, nopair_index h]
  refine (Ev.bind (f := fun k t => if (-1 : Int) < 0 then (impl_TakeFibonacci.j0 k s (-1) t true) else (impl_TakeFibonacci.j0 k s (-1) t (decide ((-1 : Int) ≥ (t.length : Int))))) seq_ok (Ev.step (f := fun _ => some (0, 0, false)) (fun k => ?_) (Ev.now _))).congr fun k => ?_
  · rw [if_pos (by omega)]; simp only [impl_TakeFibonacci.j0]; rfl
  · unfold impl_TakeFibonacci.f; rw [hix, Option.bind_some]

theorem fb30 : fb 30 = 2178309 := by decide +kernel
theorem row30 : Ev (fun k => spec_l13Row.f k 2000000) (seqL 30) :=
  row_ok 2000000 30 (by omega) (by rw [fb30]; omega) (fun i hi => by have := fb_mono (show i ≤ 29 by omega); rw [fb29] at this; omega)

theorem take_end (s : ByteArray) (n : Int) (i : Nat) (h : s.size ≤ i ∨ 30 ≤ i) : Ev (fun k => spec_TakeFibonacci.l0 k s (seqL 30) n (i : Int)) (0, 0, false) := by
  have hj : Ev (fun k => spec_TakeFibonacci.j1 k s (seqL 30) n (i : Int) false) (0, 0, false) :=
    Ev.step (f := fun _ => some (0, 0, false)) (fun k => by simp only [spec_TakeFibonacci.j1]; rfl) (Ev.now _)
  by_cases h1 : (i : Int) < (s.size : Int)
  · refine Ev.step (fun k => ?_) hj
    simp only [spec_TakeFibonacci.l0]
    rw [if_pos h1, show decide ((i : Int) < ((seqL 30).length : Int)) = false by rw [seqL_len]; simp; omega]
  · refine Ev.step (fun k => ?_) hj
    simp only [spec_TakeFibonacci.l0]
    rw [if_neg h1]
theorem take_in (s : ByteArray) (n : Int) (i : Nat) (h1 : i < s.size) (h2 : i < 30) (R : Int × Int × Bool) (h : Ev (fun k => spec_TakeFibonacci.j1 k s (seqL 30) n (i : Int) true) R) :
    Ev (fun k => spec_TakeFibonacci.l0 k s (seqL 30) n (i : Int)) R := by
  refine Ev.step (fun k => ?_) h
  simp only [spec_TakeFibonacci.l0]
  rw [if_pos (by omega), show decide ((i : Int) < ((seqL 30).length : Int)) = true by rw [seqL_len]; simp; omega]
theorem take_bad (s : ByteArray) (n : Int) (i : Nat) (h1 : i < s.size) (h2 : i < 30) (h3 : s.data.toList[i]? ≠ some 48) (h4 : s.data.toList[i]? ≠ some 49) :
    Ev (fun k => spec_TakeFibonacci.l0 k s (seqL 30) n (i : Int)) (0, 0, false) := by
  refine take_in s n i h1 h2 _ (Ev.step (fun k => ?_) (Ev.step (g := fun k => spec_TakeFibonacci.j2 k s (seqL 30) n (i : Int) true) (f := fun _ => some (0, 0, false)) (fun k => ?_) (Ev.now _)))
  · simp only [spec_TakeFibonacci.j1]
    rw [if_pos True.intro, if_pos (by omega), if_pos (by omega), if_neg (fun hc => h3 ((bt_48 s i h1).mp hc)),
      show (bt s (i : Int) != 49) = true from bne_iff_ne.mpr (fun hc => h4 (by have := (bt_49 s i h1).mp hc; simpa [bitAt] using this))]
  · simp only [spec_TakeFibonacci.j2]; rfl
/-- A good character. -/
theorem take_good (s : ByteArray) (n : Int) (i : Nat) (h1 : i < s.size) (h2 : i < 30) (h3 : s.data.toList[i]? = some 48 ∨ s.data.toList[i]? = some 49) (R : Int × Int × Bool)
    (h : Ev (fun k => spec_TakeFibonacci.j2 k s (seqL 30) n (i : Int) false) R) : Ev (fun k => spec_TakeFibonacci.l0 k s (seqL 30) n (i : Int)) R := by
  refine take_in s n i h1 h2 _ (Ev.step (fun k => ?_) h)
  simp only [spec_TakeFibonacci.j1]
  rw [if_pos True.intro, if_pos (by omega), if_pos (by omega)]
  by_cases h4 : s.data.toList[i]? = some 48
  · rw [if_pos ((bt_48 s i h1).mpr h4)]
  · have h5 : bt s (i : Int) = 49 := (bt_49 s i h1).mpr (by rcases h3 with h | h
                                                            · exact absurd h h4
                                                            · simp [bitAt, h])
    rw [if_neg (fun hc => h4 ((bt_48 s i h1).mp hc)), show (bt s (i : Int) != 49) = false from bne_eq_false_iff_eq.mpr h5]
theorem take_j3 (s : ByteArray) (hs : s.size ≤ 1000000) (n : Int) (i : Nat) (h1 : i < s.size) (c : Bool) (hc : c = (decide (0 < i) && bitAt s.data.toList i && bitAt s.data.toList (i - 1))) (R : Int × Int × Bool)
    (h : Ev (fun k => spec_TakeFibonacci.j3 k s (seqL 30) n (i : Int) c) R) : Ev (fun k => spec_TakeFibonacci.j2 k s (seqL 30) n (i : Int) false) R := by
  refine Ev.step (fun k => ?_) h
  simp only [spec_TakeFibonacci.j2]
  rw [if_neg (by simp), if_pos (by omega), if_pos (by omega)]
  by_cases hb : bitAt s.data.toList i = true
  · rw [if_pos ((bt_49 s i h1).mpr hb)]
    by_cases h0 : 0 < i
    · rw [if_pos (by omega), w64 (by omega) (by omega), show ((i : Int) - 1) = ((i - 1 : Nat) : Int) by omega, if_pos (by omega), if_pos (by omega)]
      have e : (bt s ((i - 1 : Nat) : Int) == 49) = c := by
        rw [hc, Bool.eq_iff_iff, beq_iff_eq, bt_49 s (i - 1) (by omega)]; simp [h0, hb]
      rw [e]
    · rw [if_neg (by omega), show c = false by rw [hc]; simp [h0]]
  · rw [if_neg (fun h => hb ((bt_49 s i h1).mp h)), show c = false by rw [hc]; simp [hb]]
theorem take_on (s : ByteArray) (hs : s.size ≤ 1000000) (i : Nat) (h1 : i < s.size) (h2 : i < 30) (h3 : s.data.toList[i]? = some 48 ∨ s.data.toList[i]? = some 49) (h4 : ¬ (0 < i ∧ bitAt s.data.toList i = true ∧ bitAt s.data.toList (i - 1) = true)) (R : Int × Int × Bool)
    (h : Ev (fun k => spec_TakeFibonacci.l0 k s (seqL 30) (val (bitAt s.data.toList) (i + 1) : Int) ((i + 1 : Nat) : Int)) R) : Ev (fun k => spec_TakeFibonacci.l0 k s (seqL 30) (val (bitAt s.data.toList) i : Int) (i : Int)) R := by
  have hv : ∀ j, j ≤ 31 → val (bitAt s.data.toList) j ≤ 9227465 * j := by
    intro j
    induction j with
    | zero => intro _; simp [val]
    | succ j ih => intro hj; have := ih (by omega); have := fb33 (i := j) (by omega); simp only [val]; split <;> omega
  refine take_good s _ i h1 h2 h3 R (take_j3 s hs _ i h1 false ?_ R (Ev.step (fun k => ?_) h))
  · symm; rw [Bool.eq_false_iff]; intro hc; simp only [Bool.and_eq_true, decide_eq_true_eq] at hc; exact h4 ⟨hc.1.1, hc.1.2, hc.2⟩
  · simp only [spec_TakeFibonacci.j3]
    rw [if_neg (by simp), if_pos (by omega), if_pos (by omega), w64 (x := (i : Int) + 1) (by omega) (by omega)]
    have ha := hv i (by omega); have hb := fb33 (i := i) (by omega)
    by_cases hb : bitAt s.data.toList i = true
    · rw [if_pos ((bt_49 s i h1).mpr hb), if_pos (by rw [seqL_len]; omega), rd_seq _ _ (by omega), w64 (by omega) (by omega)]
      congr 1
      simp only [val, hb, if_true]; omega
    · rw [if_neg (fun hc => hb ((bt_49 s i h1).mp hc))]
      congr 1
      simp only [val]; rw [if_neg hb]; omega
theorem spec_take_none (s : ByteArray) (hs : s.size ≤ 1000000) (h : NoPair s.data.toList) (d : Nat) : ∀ i, i + d = s.size → Ev (fun k => spec_TakeFibonacci.l0 k s (seqL 30) (val (bitAt s.data.toList) i : Int) (i : Int)) (0, 0, false) := by
  induction d with
  | zero => intro i hi; exact take_end s _ i (.inl (by omega))
  | succ d ih =>
    intro i hi
    by_cases h30 : i < 30
    · by_cases hc : s.data.toList[i]? = some 48 ∨ s.data.toList[i]? = some 49
      · refine take_on s hs i (by omega) h30 hc ?_ _ (ih (i + 1) (by omega))
        rintro ⟨h0, h1, h2⟩
        simp only [bitAt, beq_iff_eq] at h1 h2
        exact h (i - 1) ⟨h2, by rw [show i - 1 + 1 = i by omega]; exact h1⟩
      · exact take_bad s _ i (by omega) h30 (fun h => hc (.inl h)) (fun h => hc (.inr h))
    · exact take_end s _ i (.inr (by omega))
theorem spec_take_pair (s : ByteArray) (hs : s.size ≤ 1000000) (e : Nat) (h : Pair s.data.toList e) (d : Nat) : ∀ i, i + d = e + 1 → Plain s.data.toList i → Ev (fun k => spec_TakeFibonacci.l0 k s (seqL 30) (val (bitAt s.data.toList) i : Int) (i : Int)) (took s.data.toList e) := by
  have hlt : e + 1 < s.size := by
    rcases Nat.lt_or_ge (e + 1) s.size with h1 | h1
    · exact h1
    · have := h.2.1; rw [List.getElem?_eq_none (by simpa using h1)] at this; cases this
  have fail : ∀ i, i ≤ e → (¬ i < 30 ∨ ¬ (s.data.toList[i]? = some 48 ∨ s.data.toList[i]? = some 49)) → took s.data.toList e = (0, 0, false) := by
    intro i hi hc
    unfold took
    rw [if_neg]
    rintro ⟨h1, h2, _⟩
    rcases hc with hc | hc
    · omega
    · exact hc (h2 i (by omega))
  induction d with
  | zero =>
    intro i hi hp
    obtain rfl : i = e + 1 := by omega
    by_cases h30 : e + 1 < 30
    · refine take_good s _ (e + 1) hlt h30 (.inr h.2.1) _ (take_j3 s hs _ (e + 1) hlt true ?_ _ (Ev.step (f := fun _ => some (took s.data.toList e)) (fun k => ?_) (Ev.now _)))
      · symm; simp [bitAt, h.1, h.2.1]
      · simp only [spec_TakeFibonacci.j3]
        rw [if_pos True.intro, number_spec, Option.bind_some]
        obtain ⟨_, hpos⟩ := pair_top h (by omega)
        unfold took
        by_cases hn : val (bitAt s.data.toList) (e + 1) ≤ 1000000
        · rw [if_pos (by simp; omega), if_pos ⟨by omega, hp, hn⟩, w64 (by omega) (by omega)]
          all_goals (congr 3 <;> omega)
        · rw [if_neg (by simp; omega), if_neg (fun hc => hn hc.2.2)]
    · have hf : took s.data.toList e = (0, 0, false) := by unfold took; rw [if_neg (by omega)]
      rw [hf]; exact take_end s _ _ (.inr (by omega))
  | succ d ih =>
    intro i hi hp
    by_cases h30 : i < 30
    · by_cases hc : s.data.toList[i]? = some 48 ∨ s.data.toList[i]? = some 49
      · refine take_on s hs i (by omega) h30 hc ?_ _ (ih (i + 1) (by omega) (fun j hj => by rcases Nat.lt_or_ge j i with h1 | h1
                                                                                            · exact hp j h1
                                                                                            · obtain rfl : j = i := by omega
                                                                                              exact hc))
        rintro ⟨h0, h1, h2⟩
        simp only [bitAt, beq_iff_eq] at h1 h2
        exact h.2.2 (i - 1) (by omega) ⟨h2, by rw [show i - 1 + 1 = i by omega]; exact h1⟩
      · rw [fail i (by omega) (.inr hc)]
        exact take_bad s _ i (by omega) h30 (fun h => hc (.inl h)) (fun h => hc (.inr h))
    · rw [fail i (by omega) (.inl h30)]; exact take_end s _ i (.inr (by omega))
/-- Both ways agree at every text. -/
theorem take_same (s : ByteArray) (hs : s.size ≤ 1000000) : ∃ R, Ev (fun k => impl_TakeFibonacci.f k s) R ∧ Ev (fun k => spec_TakeFibonacci.f k s) R := by
  have sp : ∀ R, Ev (fun k => spec_TakeFibonacci.l0 k s (seqL 30) 0 0) R → Ev (fun k => spec_TakeFibonacci.f k s) R := fun R h =>
    (Ev.bind (f := fun k t => spec_TakeFibonacci.l0 k s t 0 0) row30 h).congr fun k => rfl
  rcases pair_or s.data.toList with h | ⟨e, h⟩
  · exact ⟨_, impl_take_none s hs h, sp _ (spec_take_none s hs h s.size 0 (by omega))⟩
  · exact ⟨_, impl_take_pair s hs e h, sp _ (spec_take_pair s hs e h (e + 1) 0 (by omega) (fun i hi => by omega))⟩
end Go.Proofs.Ytgdjjghdjpaofaa.PureFnZeckendorf

/-
  The tests of the program, the reference and the law on texts, shards and matrices: what they tell. No conditions beyond those that each lemma names.
-/
import Derived.Test.YtgdjjghdjpaofaaGMFnAnyFew
namespace Go.Proofs.Ytgdjjghdjpaofaa.PureFnAnyFew
open Go.RowKit Go.Proofs.Ytgdjjghdjpaofaa.PFnAnyFew Go.Proofs.YtgdjjghdjpaofaaW.PrintWords Go.Proofs.YtgdjjghdjpaofaaW.PrintLast Go.Proofs.YtgdjjghdjpaofaaW.PrintMore Go.Proofs.Ytgdjjghdjpaofaa.GF
set_option linter.unusedVariables false
set_option linter.unusedSimpArgs false

/-- Texts of one length, of at most 40. -/
def eqP (T : List (List UInt8)) (t : List UInt8) : Bool := decide (t.length ≤ 40) && decide (t.length = (T.headD []).length)
def eqT (T : List (List UInt8)) : Bool := T.all (eqP T)
theorem eqT_len {T : List (List UInt8)} (h : eqT T = true) : ∀ t ∈ T, t.length = (T.headD []).length := fun t ht => by
  have := List.all_eq_true.mp h t ht
  simp only [eqP, Bool.and_eq_true, decide_eq_true_eq] at this
  exact this.2
theorem eqT_le {T : List (List UInt8)} (h : eqT T = true) : (T.headD []).length ≤ 40 := by
  cases T with
  | nil => simp
  | cons t T =>
    have := List.all_eq_true.mp h t (by simp)
    simp only [eqP, Bool.and_eq_true, decide_eq_true_eq] at this
    exact this.1
theorem eqT_of {T : List (List UInt8)} {n : Nat} (hn : n ≤ 40) (h : ∀ t ∈ T, t.length = n) : eqT T = true := by
  refine List.all_eq_true.mpr (fun t ht => ?_)
  cases T with
  | nil => exact absurd ht (by simp)
  | cons u T =>
    have h1 := h t ht
    have h2 := h u (by simp)
    simp only [eqP, Bool.and_eq_true, decide_eq_true_eq]
    exact ⟨by omega, by show t.length = u.length; omega⟩
theorem rd_ts0 {T : List (List UInt8)} (h : 0 < T.length) : (rdOf ByteArray.empty (ts T) 0).size = (T.headD []).length := by
  have := rd_ts T 0 h
  rw [show ((0 : Nat) : Int) = 0 from rfl] at this
  rw [this, str_size]
  cases T with
  | nil => exact absurd h (by simp)
  | cons t T => rfl
theorem areEqual_ok (T : List (List UInt8)) : impl_areEqual.f (ts T) = some (eqT T) := by
  unfold impl_areEqual.f eqT
  congr 1
  have h : ∀ l : List (List UInt8), (∀ t ∈ l, t ∈ T) → (!(ts l).any (areEqualP (ts T))) = l.all (eqP T) := by
    intro l
    induction l with
    | nil => intro _; rfl
    | cons t l ih =>
      intro hl
      have h0 : 0 < T.length := List.length_pos_of_mem (hl t (by simp))
      rw [show ts (t :: l) = str t :: ts l from rfl, List.any_cons, Bool.not_or, ih (fun u hu => hl u (by simp [hu])), List.all_cons]
      congr 1
      unfold areEqualP eqP
      rw [rd_ts0 h0, str_size, Bool.eq_iff_iff]
      simp
  exact h T (fun _ h => h)
theorem texts_loop (T : List (List UInt8)) (hl : T.length ≤ 1000000) : ∀ (d i : Nat), d + i = T.length → Ev (fun k => spec_l3Texts.l0 k (ts T) (ts T) (T.length : Int) (i : Int)) ((T.drop i).all (eqP T))
  | 0, i, h => by
    rw [List.drop_eq_nil_of_le (by omega)]
    exact Ev.step (f := fun _ => some true) (fun k => by simp only [spec_l3Texts.l0]; rw [if_neg (by omega)]) (Ev.now _)
  | d + 1, i, h => by
    have ih := texts_loop T hl d (i + 1) (by omega)
    have hi : i < T.length := by omega
    have h0 : 0 < T.length := by omega
    rw [List.drop_eq_getElem_cons hi, List.all_cons]
    unfold eqP
    by_cases h1 : T[i].length = (T.headD []).length
    · by_cases h2 : T[i].length ≤ 40
      · rw [decide_eq_true h2, decide_eq_true h1, Bool.true_and, Bool.true_and]
        refine Ev.step (fun k => ?_) ih
        simp only [spec_l3Texts.l0]
        rw [if_pos (by omega), if_pos (by omega), if_pos (by rw [ts_len]; omega), if_pos (by rw [ts_len]; omega), rd_ts T i hi, str_size, rd_ts0 h0, if_pos (by omega), if_neg (by omega), v64 (by omega) (by omega)]; rfl
      · rw [decide_eq_false h2, Bool.false_and, Bool.false_and]
        refine Ev.step (f := fun _ => some false) (fun k => ?_) (Ev.now _)
        simp only [spec_l3Texts.l0]
        rw [if_pos (by omega), if_pos (by omega), if_pos (by rw [ts_len]; omega), if_pos (by rw [ts_len]; omega), rd_ts T i hi, str_size, rd_ts0 h0, if_pos (by omega), if_pos (by omega)]
    · rw [decide_eq_false h1, Bool.and_false, Bool.false_and]
      refine Ev.step (f := fun _ => some false) (fun k => ?_) (Ev.now _)
      simp only [spec_l3Texts.l0]
      rw [if_pos (by omega), if_pos (by omega), if_pos (by rw [ts_len]; omega), if_pos (by rw [ts_len]; omega), rd_ts T i hi, str_size, rd_ts0 h0, if_neg (by omega)]
theorem texts_ok (T : List (List UInt8)) (hl : T.length ≤ 1000000) : Ev (fun k => spec_l3Texts.f k (ts T)) (eqT T) := by
  refine (texts_loop T hl T.length 0 (by omega)).congr fun k => ?_
  unfold spec_l3Texts.f
  rw [ts_len]; rfl
theorem sameTexts_loop (T : List ByteArray) (hl : T.length ≤ 1000000) : ∀ (d i : Nat), d + i = T.length → Ev (fun k => laws_sameTexts.l0 k T T (T.length : Int) (i : Int)) true
  | 0, i, h => Ev.step (f := fun _ => some true) (fun k => by simp only [laws_sameTexts.l0]; rw [if_neg (by omega)]) (Ev.now _)
  | d + 1, i, h => by
    refine Ev.step (fun k => ?_) (sameTexts_loop T hl d (i + 1) (by omega))
    simp only [laws_sameTexts.l0]
    rw [if_pos (by omega), if_pos (by omega), if_pos (by omega), if_pos (by omega), if_pos trivial, v64 (by omega) (by omega)]; rfl
theorem sameTexts_ok (T : List ByteArray) (hl : T.length ≤ 1000000) : Ev (fun k => laws_sameTexts.f k T T) true := by
  refine (sameTexts_loop T hl T.length 0 (by omega)).congr fun k => ?_
  unfold laws_sameTexts.f
  rw [if_pos rfl]; rfl
/-! ### shapes -/
def gsh (a b : Int) : Bool := decide (1 ≤ a) && decide (a ≤ 8) && (decide (1 ≤ b) && decide (b ≤ 6))
theorem within_ok (a b c : Int) : impl_within.f a b c = some (decide (b ≤ a) && decide (a ≤ c)) := by
  unfold impl_within.f
  by_cases h : a ≥ b
  · rw [if_pos h, decide_eq_true (show b ≤ a from h), Bool.true_and]
  · rw [if_neg h, decide_eq_false (show ¬ b ≤ a from h), Bool.false_and]
theorem in_ok (a b c : Int) : spec_l1In.f a b c = some (decide (b ≤ a) && decide (a ≤ c)) := by
  unfold spec_l1In.f
  by_cases h : a ≥ b
  · rw [if_pos h, decide_eq_true (show b ≤ a from h), Bool.true_and]
  · rw [if_neg h, decide_eq_false (show ¬ b ≤ a from h), Bool.false_and]
theorem shape_i (a b : Int) : impl_GoodShape.f a b = some (gsh a b) := by
  unfold impl_GoodShape.f gsh
  rw [within_ok, Option.bind_some, within_ok]
  cases decide (1 ≤ a) && decide (a ≤ 8) <;> simp
theorem shape_s (a b : Int) : spec_GoodShape.f a b = some (gsh a b) := by
  unfold spec_GoodShape.f gsh
  rw [in_ok, Option.bind_some, in_ok]
  cases decide (1 ≤ a) && decide (a ≤ 8) <;> simp
end Go.Proofs.Ytgdjjghdjpaofaa.PureFnAnyFew

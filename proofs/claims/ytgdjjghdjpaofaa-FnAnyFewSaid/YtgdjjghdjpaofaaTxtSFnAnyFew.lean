/-
  Shards: texts as shards, equal shards, the tests on them. No conditions beyond those that each lemma names.
-/
import Derived.Test.YtgdjjghdjpaofaaTxtFnAnyFew
namespace Go.Proofs.Ytgdjjghdjpaofaa.PureFnAnyFew
open Go.RowKit Go.Proofs.Ytgdjjghdjpaofaa.PFnAnyFew Go.Proofs.YtgdjjghdjpaofaaW.PrintWords Go.Proofs.YtgdjjghdjpaofaaW.PrintLast Go.Proofs.YtgdjjghdjpaofaaW.PrintMore Go.Proofs.Ytgdjjghdjpaofaa.GF
set_option linter.unusedVariables false
set_option linter.unusedSimpArgs false

theorem sameShards_loop (R : List S53) (hl : R.length ≤ 1000000) : ∀ (d i : Nat), d + i = R.length → Ev (fun k => laws_sameShards.l0 k R R (R.length : Int) (i : Int)) true
  | 0, i, h => Ev.step (f := fun _ => some true) (fun k => by simp only [laws_sameShards.l0]; rw [if_neg (by omega)]) (Ev.now _)
  | d + 1, i, h => by
    refine Ev.step (fun k => ?_) (sameShards_loop R hl d (i + 1) (by omega))
    simp only [laws_sameShards.l0]
    rw [if_pos (by omega), if_pos (by omega), if_pos (by omega), if_pos (by omega), if_neg (by simp), v64 (by omega) (by omega)]; rfl
theorem sameShards_ok (R : List S53) (hl : R.length ≤ 1000000) : Ev (fun k => laws_sameShards.f k R R) true := by
  refine (sameShards_loop R hl R.length 0 (by omega)).congr fun k => ?_
  unfold laws_sameShards.f
  rw [if_pos rfl]; rfl
/-- Shards by pairs. -/
abbrev PS := List (Int × List UInt8)
def sh2 (P : PS) : List S53 := P.map fun p => ⟨p.1, str p.2⟩
theorem sh2_len (P : PS) : (sh2 P).length = P.length := by simp [sh2]
theorem sh2_app (P Q : PS) : sh2 (P ++ Q) = sh2 P ++ sh2 Q := by simp [sh2]
theorem rd_sh2 (P : PS) (i : Nat) (h : i < P.length) : rd_T53 (sh2 P) (i : Int) = ⟨P[i].1, str P[i].2⟩ := by
  simp [rd_T53, sh2, h]
/-- Texts, numbered. -/
def num (T : List (List UInt8)) : PS := (List.range T.length).map fun (i : Nat) => ((i : Int), T.getD i [])
theorem num_len (T : List (List UInt8)) : (num T).length = T.length := by simp [num]
theorem num_get (T : List (List UInt8)) (i : Nat) (h : i < (num T).length) : (num T)[i] = ((i : Int), T[i]'(by rw [← num_len]; exact h)) := by
  have h' : i < T.length := by rw [← num_len]; exact h
  simp [num, h']
theorem shardsOf_loop (T : List (List UInt8)) (hl : T.length ≤ 1000000) : ∀ (d i : Nat) (acc : PS), d + i = T.length → acc.length = i →
    Ev (fun k => impl_shardsOf.l0 k (sh2 acc) (ts T) (T.length : Int) (i : Int)) (sh2 (acc ++ (num T).drop i))
  | 0, i, acc, h, _ => by
    rw [List.drop_eq_nil_of_le (by rw [num_len]; omega), List.append_nil]
    exact Ev.step (f := fun _ => some (sh2 acc)) (fun k => by simp only [impl_shardsOf.l0]; rw [if_neg (by omega)]) (Ev.now _)
  | d + 1, i, acc, h, ha => by
    have hi : i < (num T).length := by rw [num_len]; omega
    have ih := shardsOf_loop T hl d (i + 1) (acc ++ [(num T)[i]]) (by omega) (by simp [ha])
    rw [List.append_assoc] at ih
    rw [List.drop_eq_getElem_cons hi]
    refine Ev.step (fun k => ?_) ih
    simp only [impl_shardsOf.l0]
    rw [if_pos (by omega), if_pos (by omega), if_pos (by rw [ts_len]; omega), if_pos (by rw [sh2_len]; omega), v64 (by omega) (by omega), rd_ts T i (by omega), sh2_app, num_get]; rfl
theorem shardsOf_ok (T : List (List UInt8)) (hl : T.length ≤ 1000000) : Ev (fun k => impl_shardsOf.f k (ts T)) (sh2 (num T)) := by
  have h := shardsOf_loop T hl T.length 0 [] (by omega) rfl
  rw [List.drop_zero] at h
  exact h.congr fun k => by unfold impl_shardsOf.f; rw [ts_len]; rfl
/-- Numbers that rise from 0 on below another one. -/
def incP (l : List Int) (n : Int) (i : Nat) : Bool := decide (0 ≤ l.getD i 0) && decide (l.getD i 0 ≤ n - 1) && (decide (i = 0) || decide (l.getD (i - 1) 0 < l.getD i 0))
def incr (l : List Int) (n : Int) : Bool := (List.range' 0 l.length).all (incP l n)
theorem incr_loop (l : List Int) (n : Int) (hn0 : -1000000 ≤ n) (hn : n ≤ 1000000) (hl : l.length ≤ 1000000) : ∀ (d i : Nat), d + i = l.length → Ev (fun k => impl_isIncreasing.l0 k l n l (l.length : Int) (i : Int)) ((List.range' i d).all (incP l n))
  | 0, i, h => Ev.step (f := fun _ => some true) (fun k => by simp only [impl_isIncreasing.l0]; rw [if_neg (by omega)]) (Ev.now _)
  | d + 1, i, h => by
    have ih := incr_loop l n hn0 hn hl d (i + 1) (by omega)
    have hr : rd l (i : Int) = l.getD i 0 := rfl
    rw [List.range'_succ, List.all_cons]
    unfold incP
    cases hw : (decide (0 ≤ l.getD i 0) && decide (l.getD i 0 ≤ n - 1)) with
    | false =>
      rw [Bool.false_and, Bool.false_and]
      refine Ev.step (f := fun _ => some false) (fun k => ?_) (Ev.now _)
      simp only [impl_isIncreasing.l0]
      rw [if_pos (by omega), if_pos (by omega), if_pos (by omega), v64 (x := n - 1) (by omega) (by omega), hr, within_ok, Option.bind_some, hw, if_neg (by simp)]
    | true =>
      rw [Bool.true_and]
      by_cases h0 : i = 0
      · subst h0
        rw [decide_eq_true rfl, Bool.true_or, Bool.true_and]
        refine Ev.step (fun k => ?_) ih
        simp only [impl_isIncreasing.l0]
        rw [if_pos (by omega), if_pos (by omega), if_pos (by omega), v64 (x := n - 1) (by omega) (by omega), hr, within_ok, Option.bind_some, hw, if_pos rfl, if_neg (by omega), v64 (by omega) (by omega)]; rfl
      · have e1 : ((i : Int) - 1) = ((i - 1 : Nat) : Int) := by omega
        have hr1 : rd l ((i : Int) - 1) = l.getD (i - 1) 0 := by rw [e1]; rfl
        rw [decide_eq_false h0, Bool.false_or]
        by_cases h2 : l.getD (i - 1) 0 < l.getD i 0
        · rw [decide_eq_true h2, Bool.true_and]
          refine Ev.step (fun k => ?_) ih
          simp only [impl_isIncreasing.l0]
          rw [if_pos (by omega), if_pos (by omega), if_pos (by omega), v64 (x := n - 1) (by omega) (by omega), hr, within_ok, Option.bind_some, hw, if_pos rfl, if_pos (by omega), v64 (x := (i : Int) - 1) (by omega) (by omega), if_pos (by omega), if_pos (by omega), hr1, if_neg (by omega), v64 (by omega) (by omega)]; rfl
        · rw [decide_eq_false h2, Bool.false_and]
          refine Ev.step (f := fun _ => some false) (fun k => ?_) (Ev.now _)
          simp only [impl_isIncreasing.l0]
          rw [if_pos (by omega), if_pos (by omega), if_pos (by omega), v64 (x := n - 1) (by omega) (by omega), hr, within_ok, Option.bind_some, hw, if_pos rfl, if_pos (by omega), v64 (x := (i : Int) - 1) (by omega) (by omega), if_pos (by omega), if_pos (by omega), hr1, if_pos (by omega)]
theorem incr_ok (l : List Int) (n : Int) (hn0 : -1000000 ≤ n) (hn : n ≤ 1000000) (hl : l.length ≤ 1000000) : Ev (fun k => impl_isIncreasing.f k l n) (incr l n) := by
  refine (incr_loop l n hn0 hn hl l.length 0 (by omega)).congr fun k => ?_
  unfold impl_isIncreasing.f; rfl
theorem incr_at {l : List Int} {n : Int} (h : incr l n = true) (i : Nat) (hi : i < l.length) : 0 ≤ l.getD i 0 ∧ l.getD i 0 ≤ n - 1 ∧ (0 < i → l.getD (i - 1) 0 < l.getD i 0) := by
  have := List.all_eq_true.mp h i (List.mem_range'.mpr ⟨i, hi, by omega⟩)
  simp only [incP, Bool.and_eq_true, Bool.or_eq_true, decide_eq_true_eq] at this
  exact ⟨this.1.1, this.1.2, fun h0 => by rcases this.2 with h | h; omega; exact h⟩
theorem incr_of {l : List Int} {n : Int} (h : ∀ i, i < l.length → 0 ≤ l.getD i 0 ∧ l.getD i 0 ≤ n - 1 ∧ (0 < i → l.getD (i - 1) 0 < l.getD i 0)) : incr l n = true := by
  refine List.all_eq_true.mpr (fun i hi => ?_)
  obtain ⟨j, hj, rfl⟩ := List.mem_range'.mp hi
  have := h (0 + 1 * j) (by omega)
  simp only [incP, Bool.and_eq_true, Bool.or_eq_true, decide_eq_true_eq]
  exact ⟨⟨this.1, this.2.1⟩, by by_cases h0 : 0 + 1 * j = 0; exact Or.inl h0; exact Or.inr (this.2.2 (by omega))⟩
theorem areShards_loop (P : PS) (n : Int) (hn0 : -1000000 ≤ n) (hn : n ≤ 1000000) (hl : P.length ≤ 1000000) : ∀ (d i : Nat) (a : List Int) (b : List (List UInt8)), d + i = P.length → a.length = i → b.length = i → a ++ (P.drop i).map (·.1) = P.map (·.1) → b ++ (P.drop i).map (·.2) = P.map (·.2) →
    Ev (fun k => impl_areShards.l0 k n a (ts b) (sh2 P) (P.length : Int) (i : Int)) (incr (P.map (·.1)) n && eqT (P.map (·.2)))
  | 0, i, a, b, h, ha, hb, ea, eb => by
    rw [List.drop_eq_nil_of_le (by omega), List.map_nil, List.append_nil] at ea eb
    have h1 := incr_ok (P.map (·.1)) n hn0 hn (by rw [List.length_map]; exact hl)
    refine Ev.step (fun k => ?_) (Ev.bind (f := fun _ t => if t = true then (impl_areEqual.f (ts (P.map (·.2)))).bind fun u => some u else some false) h1 (r := incr (P.map (·.1)) n && eqT (P.map (·.2))) ((Ev.now _).congr fun k => ?_))
    · simp only [impl_areShards.l0]
      rw [if_neg (by omega), ea, eb]
    · rw [areEqual_ok]
      cases incr (P.map (·.1)) n <;> simp
  | d + 1, i, a, b, h, ha, hb, ea, eb => by
    have hi : i < P.length := by omega
    rw [List.drop_eq_getElem_cons hi, List.map_cons] at ea eb
    have ih := areShards_loop P n hn0 hn hl d (i + 1) (a ++ [P[i].1]) (b ++ [P[i].2]) (by omega) (by simp [ha]) (by simp [hb]) (by rw [List.append_assoc]; exact ea) (by rw [List.append_assoc]; exact eb)
    refine Ev.step (fun k => ?_) ih
    simp only [impl_areShards.l0]
    rw [if_pos (by omega), if_pos (by omega), if_pos (by rw [sh2_len]; omega), if_pos (by omega), if_pos (by rw [ts_len]; omega), rd_sh2 P i hi, v64 (by omega) (by omega), ts_app]; rfl
theorem areShards_ok (P : PS) (n : Int) (hn0 : -1000000 ≤ n) (hn : n ≤ 1000000) (hl : P.length ≤ 1000000) : Ev (fun k => impl_areShards.f k (sh2 P) n) (incr (P.map (·.1)) n && eqT (P.map (·.2))) := by
  refine (areShards_loop P n hn0 hn hl P.length 0 [] [] (by omega) rfl rfl rfl rfl).congr fun k => ?_
  unfold impl_areShards.f
  rw [sh2_len]; rfl
end Go.Proofs.Ytgdjjghdjpaofaa.PureFnAnyFew

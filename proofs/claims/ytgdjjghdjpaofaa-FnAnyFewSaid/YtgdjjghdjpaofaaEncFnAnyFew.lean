/-
  What the program and the reference encode, what the program decodes of shards, and which ones the law chooses. No conditions beyond those that each lemma names.
-/
import Derived.Test.YtgdjjghdjpaofaaMdsFnAnyFew
import Derived.Test.YtgdjjghdjpaofaaTxtSFnAnyFew
namespace Go.Proofs.Ytgdjjghdjpaofaa.PureFnAnyFew
open Go.RowKit Go.Proofs.Ytgdjjghdjpaofaa.PFnAnyFew Go.Proofs.YtgdjjghdjpaofaaW.PrintWords Go.Proofs.YtgdjjghdjpaofaaW.PrintLast Go.Proofs.YtgdjjghdjpaofaaW.PrintMore Go.Proofs.Ytgdjjghdjpaofaa.GF Go.Proofs.Ytgdjjghdjpaofaa.LA
set_option linter.unusedVariables false
set_option linter.unusedSimpArgs false

def hl (T : List (List UInt8)) : Nat := (T.headD []).length
/-- All that the code makes of texts. -/
def enc (m : Nat) (T : List (List UInt8)) : List (List UInt8) := (codeG T.length m).map (comb (hl T) T)
theorem enc_len (m : Nat) (T : List (List UInt8)) : (enc m T).length = T.length + m := by unfold enc; rw [List.length_map, codeG_len]
theorem gsh_of {k m : Nat} (h : gsh (k : Int) (m : Int) = true) : 1 ≤ k ∧ k ≤ 8 ∧ 1 ≤ m ∧ m ≤ 6 := by
  unfold gsh at h
  simp only [Bool.and_eq_true, decide_eq_true_eq] at h
  omega
theorem sNum_loop (T : List (List UInt8)) (hT : T.length ≤ 1000000) : ∀ (d i : Nat) (acc : PS), d + i = T.length → acc.length = i →
    Ev (fun k => spec_EncodeShards.l0 k (sh2 acc) (ts T) (T.length : Int) (i : Int)) (sh2 (acc ++ (num T).drop i), true)
  | 0, i, acc, h, _ => by
    rw [List.drop_eq_nil_of_le (by rw [num_len]; omega), List.append_nil]
    exact Ev.step (f := fun _ => some (sh2 acc, true)) (fun k => by simp only [spec_EncodeShards.l0]; rw [if_neg (by omega)]) (Ev.now _)
  | d + 1, i, acc, h, ha => by
    have hi : i < (num T).length := by rw [num_len]; omega
    have ih := sNum_loop T hT d (i + 1) (acc ++ [(num T)[i]]) (by omega) (by simp [ha])
    rw [List.append_assoc] at ih
    rw [List.drop_eq_getElem_cons hi]
    refine Ev.step (fun k => ?_) ih
    simp only [spec_EncodeShards.l0]
    rw [if_pos (by omega), if_pos (by omega), if_pos (by rw [ts_len]; omega), if_pos (by rw [sh2_len]; omega), v64 (by omega) (by omega), rd_ts T i (by omega), sh2_app, num_get]; rfl
section
variable (T : List (List UInt8)) (m : Nat) (hT : T.length ≤ 100) (hm : m ≤ 100)
include hT hm
theorem encode_i : Ev (fun k => impl_EncodeShards.f k (ts T) (m : Int)) (if gsh (T.length : Int) (m : Int) && eqT T then (sh2 (num (enc m T)), true) else ([], false)) := by
  have hj : ∀ b, (b = true ∨ gsh (T.length : Int) (m : Int) = true ∧ eqT T = true) → Ev (fun k => impl_EncodeShards.j0 k (ts T) (m : Int) b) (if b = true then ([], false) else (sh2 (num (enc m T)), true)) := fun b hb => by
    cases b with
    | true => exact Ev.step (f := fun _ => some ([], false)) (fun k => by simp only [impl_EncodeShards.j0]; rw [if_pos trivial]) (Ev.now _)
    | false =>
      obtain ⟨hg, he⟩ := hb.resolve_left (by decide)
      obtain ⟨g1, g2, g3, g4⟩ := gsh_of hg
      have hn := eqT_len he
      have hle := eqT_le he
      have h1 := codeRows_i T.length m (by omega)
      have h2 := combined_ok (codeG T.length m) T (hl T) hn (by unfold hl; omega) (by omega) (by omega) (fun r hr => by rw [codeG_row hr]; exact Nat.le_refl _) (by rw [codeG_len]; omega)
      have h3 := shardsOf_ok (enc m T) (by rw [enc_len]; omega)
      rw [if_neg (by decide)]
      refine Ev.step (fun k => ?_) (Ev.bind (f := fun k t => (impl_combined.f k t (ts T)).bind fun u => (impl_shardsOf.f k u).bind fun v => some (v, true)) h1
        (Ev.bind (f := fun k u => (impl_shardsOf.f k u).bind fun v => some (v, true)) h2 (Ev.bind (f := fun _ v => some (v, true)) h3 (Ev.now _))))
      simp only [impl_EncodeShards.j0]
      rw [if_neg (by decide), ts_len]
  cases hg : gsh (T.length : Int) (m : Int) with
  | false =>
    rw [Bool.false_and, if_neg (by decide)]
    refine (hj true (Or.inl rfl)).congr fun k => ?_
    unfold impl_EncodeShards.f
    rw [ts_len, shape_i, hg, Option.bind_some, if_neg (by decide)]
  | true =>
    rw [Bool.true_and]
    have h : Ev (fun k => impl_EncodeShards.f k (ts T) (m : Int)) (if (!eqT T) = true then ([], false) else (sh2 (num (enc m T)), true)) := by
      refine (hj (!eqT T) (by cases he : eqT T; exact Or.inl rfl; exact Or.inr ⟨hg, rfl⟩)).congr fun k => ?_
      unfold impl_EncodeShards.f
      rw [ts_len, shape_i, hg, Option.bind_some, if_pos rfl, areEqual_ok, Option.bind_some]
    cases he : eqT T <;> rw [he] at h <;> exact h
theorem encode_s : Ev (fun k => spec_EncodeShards.f k (ts T) (m : Int)) (if gsh (T.length : Int) (m : Int) && eqT T then (sh2 (num (enc m T)), true) else ([], false)) := by
  have hj : ∀ b, (b = true ∨ gsh (T.length : Int) (m : Int) = true ∧ eqT T = true) → Ev (fun k => spec_EncodeShards.j0 k (ts T) (m : Int) b) (if b = true then ([], false) else (sh2 (num (enc m T)), true)) := fun b hb => by
    cases b with
    | true => exact Ev.step (f := fun _ => some ([], false)) (fun k => by simp only [spec_EncodeShards.j0]; rw [if_pos trivial]) (Ev.now _)
    | false =>
      obtain ⟨hg, he⟩ := hb.resolve_left (by decide)
      obtain ⟨g1, g2, g3, g4⟩ := gsh_of hg
      have hn := eqT_len he
      have hle := eqT_le he
      have h1 := matrix_s T.length m (by omega)
      have h2 := rows_ok (codeG T.length m) T (hl T) hn (by unfold hl; omega) (by omega) (by omega) (fun r hr => by rw [codeG_row hr]; exact Nat.le_refl _) (by rw [codeG_len]; omega)
      have h3 := sNum_loop (enc m T) (by rw [enc_len]; omega) (enc m T).length 0 [] (by omega) rfl
      rw [List.drop_zero] at h3
      rw [if_neg (by decide)]
      refine Ev.step (fun k => ?_) (Ev.bind (f := fun k t => (spec_l3Rows.f k t (ts T)).bind fun u => spec_EncodeShards.l0 k ([] : List S53) u (u.length : Int) 0) h1
        (Ev.bind (f := fun k u => spec_EncodeShards.l0 k ([] : List S53) u (u.length : Int) 0) h2 (h3.congr fun k => by rw [ts_len]; rfl)))
      simp only [spec_EncodeShards.j0]
      rw [if_neg (by decide), ts_len]
  cases hg : gsh (T.length : Int) (m : Int) with
  | false =>
    rw [Bool.false_and, if_neg (by decide)]
    refine (hj true (Or.inl rfl)).congr fun k => ?_
    unfold spec_EncodeShards.f
    rw [ts_len, shape_s, hg, Option.bind_some, if_neg (by decide)]
  | true =>
    rw [Bool.true_and]
    have h : Ev (fun k => spec_EncodeShards.f k (ts T) (m : Int)) (if (!eqT T) = true then ([], false) else (sh2 (num (enc m T)), true)) := by
      refine Ev.congr (f := fun k => (spec_l3Texts.f k (ts T)).bind fun t => spec_EncodeShards.j0 k (ts T) (m : Int) (!t)) (fun k => ?_) (Ev.bind (f := fun k t => spec_EncodeShards.j0 k (ts T) (m : Int) (!t)) (texts_ok T (by omega)) (hj (!eqT T) (by cases he : eqT T; exact Or.inl rfl; exact Or.inr ⟨hg, rfl⟩)))
      unfold spec_EncodeShards.f
      rw [ts_len, shape_s, hg, Option.bind_some, if_pos rfl]
    cases he : eqT T <;> rw [he] at h <;> exact h
end
/-! ### which ones -/
theorem some_loop (n least : Nat) (hn : n ≤ 1000) (more : List Int) : ∀ (d i : Nat) (acc : List Nat), d + i = n → acc.length ≤ i → acc.Pairwise (· < ·) → (∀ a ∈ acc, a < i) → least ≤ acc.length + d → least ≤ 1000 →
    ∃ I : List Nat, Ev (fun k => laws_someOf.l0 k (n : Int) (least : Int) more (acc.map Int.ofNat) (i : Int)) (I.map Int.ofNat) ∧ I.Pairwise (· < ·) ∧ (∀ a ∈ I, a < n) ∧ least ≤ I.length ∧ I.length ≤ n
  | 0, i, acc, h, hl, hp, ha, hle, _ => ⟨acc, Ev.step (f := fun _ => some (acc.map Int.ofNat)) (fun k => by simp only [laws_someOf.l0]; rw [if_neg (by omega)]) (Ev.now _), hp, fun a h2 => by have := ha a h2; omega, by omega, by omega⟩
  | d + 1, i, acc, h, hl, hp, ha, hle, h1000 => by
    have take := some_loop n least hn more d (i + 1) (acc ++ [i]) (by omega) (by simp; omega) (by
      rw [List.pairwise_append]
      exact ⟨hp, List.pairwise_singleton _ _, fun a ha' b hb => by rw [List.mem_singleton.mp hb]; exact ha a ha'⟩) (fun a h2 => by
      rcases List.mem_append.mp h2 with h3 | h3
      · have := ha a h3; omega
      · rw [List.mem_singleton.mp h3]; omega) (by simp; omega) h1000
    have skip := fun (hs : least ≤ acc.length + d) => some_loop n least hn more d (i + 1) acc (by omega) (by omega) hp (fun a h2 => by have := ha a h2; omega) hs h1000
    have e0 : (i : Int) < (n : Int) := by omega
    have e1 : wrap64 ((n : Int) - (i : Int)) = (n : Int) - (i : Int) := v64 (by omega) (by omega)
    have e2 : wrap64 ((least : Int) - ((acc.map Int.ofNat).length : Int)) = (least : Int) - (acc.length : Int) := by rw [List.length_map]; exact v64 (by omega) (by omega)
    have e3 : wrap64 ((i : Int) + 1) = ((i + 1 : Nat) : Int) := by rw [v64 (by omega) (by omega)]; omega
    have e4 : (acc.map Int.ofNat).length < 17592186044416 := by rw [List.length_map]; omega
    have e5 : acc.map Int.ofNat ++ [(i : Int)] = (acc ++ [i]).map Int.ofNat := by rw [List.map_append]; rfl
    have goT : (∀ k, laws_someOf.l0 (k + 1) (n : Int) (least : Int) more (acc.map Int.ofNat) (i : Int) = laws_someOf.l0 k (n : Int) (least : Int) more ((acc ++ [i]).map Int.ofNat) ((i + 1 : Nat) : Int)) → ∃ I : List Nat, Ev (fun k => laws_someOf.l0 k (n : Int) (least : Int) more (acc.map Int.ofNat) (i : Int)) (I.map Int.ofNat) ∧ I.Pairwise (· < ·) ∧ (∀ a ∈ I, a < n) ∧ least ≤ I.length ∧ I.length ≤ n := fun hh => by
      obtain ⟨I, h1, h2⟩ := take
      exact ⟨I, Ev.step hh h1, h2⟩
    have goS : least ≤ acc.length + d → (∀ k, laws_someOf.l0 (k + 1) (n : Int) (least : Int) more (acc.map Int.ofNat) (i : Int) = laws_someOf.l0 k (n : Int) (least : Int) more (acc.map Int.ofNat) ((i + 1 : Nat) : Int)) → ∃ I : List Nat, Ev (fun k => laws_someOf.l0 k (n : Int) (least : Int) more (acc.map Int.ofNat) (i : Int)) (I.map Int.ofNat) ∧ I.Pairwise (· < ·) ∧ (∀ a ∈ I, a < n) ∧ least ≤ I.length ∧ I.length ≤ n := fun hs hh => by
      obtain ⟨I, h1, h2⟩ := skip hs
      exact ⟨I, Ev.step hh h1, h2⟩
    by_cases hm : (i : Int) < (more.length : Int)
    · by_cases hq : (n : Int) - (i : Int) ≤ (least : Int) - (acc.length : Int)
      · exact goT (fun k => by simp only [laws_someOf.l0]; rw [if_pos e0, if_pos hm, if_pos (by omega), e1, e2, if_pos hq, if_pos e4, e3, e5])
      · by_cases hb : (Int.tmod (wrap64 (rd more (i : Int))) 2) = 0
        · exact goT (fun k => by simp only [laws_someOf.l0]; rw [if_pos e0, if_pos hm, if_pos (by omega), e1, e2, if_neg hq, if_pos hb, if_pos e4, e3, e5])
        · exact goS (by omega) (fun k => by simp only [laws_someOf.l0]; rw [if_pos e0, if_pos hm, if_pos (by omega), e1, e2, if_neg hq, if_neg hb, e3])
    · by_cases hq : (n : Int) - (i : Int) ≤ (least : Int) - (acc.length : Int)
      · exact goT (fun k => by simp only [laws_someOf.l0]; rw [if_pos e0, if_neg hm, e1, e2, if_pos hq, if_pos e4, e3, e5])
      · exact goT (fun k => by simp only [laws_someOf.l0]; rw [if_pos e0, if_neg hm, e1, e2, if_neg hq, if_pos (by decide), if_pos e4, e3, e5])
theorem someOf_ok (n least : Nat) (hn : n ≤ 1000) (hl : least ≤ n) (more : List Int) :
    ∃ I : List Nat, Ev (fun k => laws_someOf.f k (n : Int) (least : Int) more) (I.map Int.ofNat) ∧ I.Pairwise (· < ·) ∧ (∀ a ∈ I, a < n) ∧ least ≤ I.length ∧ I.length ≤ n := by
  obtain ⟨I, h1, h2⟩ := some_loop n least hn more n 0 [] (by omega) (by simp) List.Pairwise.nil (by simp) (by simp; omega) (by omega)
  exact ⟨I, h1.congr fun k => by unfold laws_someOf.f; rfl, h2⟩

/-! ### decoding -/
/-- The numbers of shards. -/
def nos (P : PS) : List Nat := P.map fun p => p.1.toNat
theorem chosen_mat (k m : Nat) (Q : PS) (hQ : Q.length = k) (hlt : ∀ p ∈ Q, 0 ≤ p.1 ∧ p.1 < ((k + m : Nat) : Int)) : Q.map (fun p => (codeG k m).getD p.1.toNat []) = mat k k (cho k (nos Q)) := by
  refine List.ext_getElem (by rw [List.length_map, mat_len, hQ]) (fun i h1 h2 => ?_)
  have hi : i < Q.length := by simpa using h1
  have := hlt Q[i] (List.getElem_mem hi)
  rw [List.getElem_map, mat_get, codeG_getD k m _ (by omega)]
  refine List.map_congr_left fun j _ => ?_
  unfold cho nos
  rw [List.getD_eq_getElem?_getD, List.getElem?_map, List.getElem?_eq_getElem hi]; rfl
theorem decoded_loop (k m : Nat) (hkm : k + m ≤ 256) (Q : PS) (hlt : ∀ p ∈ Q, 0 ≤ p.1 ∧ p.1 < ((k + m : Nat) : Int)) (hQl : Q.length ≤ 100) (res : List ByteArray × Bool)
    (next : Ev (fun r => (impl_inverseOf.f r (lr (Q.map (fun p => (codeG k m).getD p.1.toNat [])))).bind fun t => if t.2 = true then (impl_combined.f r t.1 (ts (Q.map (·.2)))).bind fun u => some (u, true) else some (([] : List ByteArray), false)) res) :
    ∀ (d i : Nat) (a b : List (List UInt8)), d + i = Q.length → a.length = i → b.length = i → a ++ (Q.drop i).map (fun p => (codeG k m).getD p.1.toNat []) = Q.map (fun p => (codeG k m).getD p.1.toNat []) → b ++ (Q.drop i).map (·.2) = Q.map (·.2) →
    Ev (fun r => impl_decoded.l0 r (lr (codeG k m)) (lr a) (ts b) (sh2 Q) (Q.length : Int) (i : Int)) res
  | 0, i, a, b, h, ha, hb, ea, eb => by
    rw [List.drop_eq_nil_of_le (by omega), List.map_nil, List.append_nil] at ea eb
    refine Ev.step (fun r => ?_) next
    simp only [impl_decoded.l0]
    rw [if_neg (by omega), ea, eb]
  | d + 1, i, a, b, h, ha, hb, ea, eb => by
    have hi : i < Q.length := by omega
    rw [List.drop_eq_getElem_cons hi, List.map_cons] at ea eb
    have hp := hlt Q[i] (List.getElem_mem hi)
    have ih := decoded_loop k m hkm Q hlt hQl res next d (i + 1) (a ++ [(codeG k m).getD Q[i].1.toNat []]) (b ++ [Q[i].2]) (by omega) (by simp [ha]) (by simp [hb]) (by rw [List.append_assoc]; exact ea) (by rw [List.append_assoc]; exact eb)
    refine Ev.step (fun r => ?_) ih
    have e : rd_L1 (lr (codeG k m)) Q[i].1 = li ((codeG k m).getD Q[i].1.toNat []) := by
      rw [← lr_getD]; rfl
    simp only [impl_decoded.l0]
    rw [if_pos (by omega), if_pos (by omega), if_pos (by rw [sh2_len]; omega), rd_sh2 Q i hi, if_pos hp.1, if_pos (by rw [lr_len, codeG_len]; exact hp.2), if_pos (by rw [lr_len]; omega), if_pos (by rw [ts_len]; omega), v64 (by omega) (by omega), e, lr_app, ts_app]; rfl
/-- The texts that the inverse of the chosen rows makes. -/
def back (k : Nat) (Q : PS) : List (List UInt8) := (mat k k (ivs k (cho k (nos Q)))).map (comb (hl (Q.map (·.2))) (Q.map (·.2)))
theorem decoded_ok (k m : Nat) (hk : 0 < k) (hk2 : k ≤ 100) (hkm : k + m ≤ 256) (Q : PS) (hQ : Q.length = k) (hlt : ∀ p ∈ Q, 0 ≤ p.1 ∧ p.1 < ((k + m : Nat) : Int)) (hn : (nos Q).Nodup) (he : eqT (Q.map (·.2)) = true) :
    Ev (fun r => impl_decoded.f r (lr (codeG k m)) (sh2 Q)) (ts (back k Q), true) := by
  have hr := mds k m hkm (nos Q) (by unfold nos; rw [List.length_map, hQ]) hn (fun i hi => by
    obtain ⟨p, hp, rfl⟩ := List.mem_map.mp hi
    have := hlt p hp; omega)
  have h1 := inverseOf_ok k (cho k (nos Q)) (by omega) hk
  rw [if_pos hr, ← chosen_mat k m Q hQ hlt] at h1
  have h2 := combined_ok (mat k k (ivs k (cho k (nos Q)))) (Q.map (·.2)) (hl (Q.map (·.2))) (eqT_len he) (by have := eqT_le he; unfold hl; omega) (by rw [List.length_map]; omega) (by rw [List.length_map]; omega) (fun r hr => by rw [mat_row hr, List.length_map, hQ]; exact Nat.le_refl _) (by rw [mat_len]; omega)
  have h3 := decoded_loop k m hkm Q hlt (by omega) (ts (back k Q), true) (Ev.bind (f := fun r t => if t.2 = true then (impl_combined.f r t.1 (ts (Q.map (·.2)))).bind fun u => some (u, true) else some (([] : List ByteArray), false)) h1
    ((Ev.bind (f := fun _ u => some (u, true)) h2 (Ev.now _)).congr fun r => by rw [if_pos rfl])) Q.length 0 [] [] (by omega) rfl rfl rfl rfl
  refine h3.congr fun r => ?_
  unfold impl_decoded.f
  rw [sh2_len]; rfl
theorem incr_lt {l : List Int} {n : Int} (h : incr l n = true) : ∀ d i, i + d < l.length → 0 < d → l.getD i 0 < l.getD (i + d) 0
  | 0, _, _, h0 => absurd h0 (by omega)
  | d + 1, i, hi, _ => by
    have h1 := (incr_at h (i + (d + 1)) hi).2.2 (by omega)
    by_cases h0 : d = 0
    · subst h0; rw [show i + (0 + 1) - 1 = i by omega] at h1; exact h1
    · have h2 := incr_lt h d i (by omega) (by omega)
      rw [show i + (d + 1) - 1 = i + d by omega] at h1
      omega
/-- What is decoded of shards that rise. -/
theorem good_shards {P : PS} {n : Int} (h : incr (P.map (·.1)) n = true) : (∀ p ∈ P, 0 ≤ p.1 ∧ p.1 < n) ∧ (nos P).Nodup := by
  have hg : ∀ i (hi : i < P.length), (P.map (·.1)).getD i 0 = P[i].1 := fun i hi => by
    rw [List.getD_eq_getElem?_getD, List.getElem?_map, List.getElem?_eq_getElem hi]; rfl
  have h0 : ∀ p ∈ P, 0 ≤ p.1 ∧ p.1 < n := fun p hp => by
    obtain ⟨i, hi, rfl⟩ := List.mem_iff_getElem.mp hp
    have := incr_at h i (by rw [List.length_map]; exact hi)
    rw [hg i hi] at this
    omega
  refine ⟨h0, ?_⟩
  unfold nos
  rw [List.nodup_iff_pairwise_ne, List.pairwise_iff_getElem]
  intro i j hi hj hij
  rw [List.length_map] at hi hj
  rw [List.getElem_map, List.getElem_map]
  have h1 := incr_lt h (j - i) i (by rw [List.length_map]; omega) (by omega)
  rw [show i + (j - i) = j by omega, hg i hi, hg j hj] at h1
  have := h0 _ (List.getElem_mem hi)
  have := h0 _ (List.getElem_mem hj)
  omega
end Go.Proofs.Ytgdjjghdjpaofaa.PureFnAnyFew

/-
  Of the matrix of a code any as many rows as there are columns have an inverse (Reed and Solomon, over Cauchy's matrix); what it gives back of texts. No conditions beyond those that each lemma names.
-/
import Derived.Test.YtgdjjghdjpaofaaElimFnAnyFew
namespace Go.Proofs.Ytgdjjghdjpaofaa.PureFnAnyFew
open Go.RowKit Go.Proofs.Ytgdjjghdjpaofaa.PFnAnyFew Go.Proofs.YtgdjjghdjpaofaaW.PrintWords Go.Proofs.YtgdjjghdjpaofaaW.PrintLast Go.Proofs.YtgdjjghdjpaofaaW.PrintMore Go.Proofs.Ytgdjjghdjpaofaa.GF Go.Proofs.Ytgdjjghdjpaofaa.LA
set_option linter.unusedVariables false
set_option linter.unusedSimpArgs false

theorem nodup_sub : ∀ (A B : List Nat), A.Nodup → (∀ a ∈ A, a ∈ B) → A.length ≤ B.length
  | [], _, _, _ => Nat.zero_le _
  | a :: A, B, hn, hs => by
    obtain ⟨h1, h2⟩ := List.nodup_cons.mp hn
    have ha : a ∈ B := hs a (by simp)
    have := nodup_sub A (B.erase a) h2 (fun b hb => (List.mem_erase_of_ne (fun e => h1 (by rw [← e]; exact hb))).mpr (hs b (by simp [hb])))
    rw [List.length_erase_of_mem ha] at this
    have := List.length_pos_of_mem ha
    simp only [List.length_cons]
    omega
theorem frac_app (a : UInt8) : ∀ l m, frac a (l ++ m) = frac a l ^^^ frac a m
  | [], m => by rw [List.nil_append]; unfold frac; rw [zx]
  | t :: l, m => by
    rw [List.cons_append]
    simp only [frac]
    rw [frac_app a l m, UInt8.xor_assoc]
theorem frac_sm (a : UInt8) (p : Nat → Bool) (x b : Nat → UInt8) : ∀ k, frac a (((List.range k).filter p).map fun j => (x j, b j)) = sm k (fun j => if p j then gm (x j) (inv (a ^^^ b j)) else 0)
  | 0 => rfl
  | k + 1 => by
    rw [List.range_succ, List.filter_append, List.map_append, frac_app, frac_sm a p x b k]
    simp only [sm]
    congr 1
    cases h : p k with
    | true => simp [h, frac, x0]
    | false => simp [h, frac]
theorem ofNat_inj {i j : Nat} (hi : i < 256) (hj : j < 256) (h : UInt8.ofNat i = UInt8.ofNat j) : i = j := by
  have := congrArg UInt8.toNat h
  rwa [UInt8.toNat_ofNat_of_lt' hi, UInt8.toNat_ofNat_of_lt' hj] at this
theorem nodup_map {α β : Type} (f : α → β) : ∀ (l : List α), l.Nodup → (∀ a ∈ l, ∀ b ∈ l, f a = f b → a = b) → (l.map f).Nodup
  | [], _, _ => List.nodup_nil
  | a :: l, h, hf => by
    obtain ⟨h1, h2⟩ := List.nodup_cons.mp h
    rw [List.map_cons, List.nodup_cons]
    refine ⟨fun hm => ?_, nodup_map f l h2 (fun x hx y hy => hf x (by simp [hx]) y (by simp [hy]))⟩
    obtain ⟨b, hb, e⟩ := List.mem_map.mp hm
    exact h1 (hf b (by simp [hb]) a (by simp) e ▸ hb)
/-- The rows of the matrix of a code, as a function. -/
def gC (k : Nat) (i j : Nat) : UInt8 := if i < k then idm i j else cau k (i - k) j
theorem codeG_getD (k m i : Nat) (h : i < k + m) : (codeG k m).getD i [] = rw k (gC k i) := by
  unfold codeG
  rw [List.getD_eq_getElem?_getD]
  by_cases e : i < k
  · rw [List.getElem?_append_left (by rw [mat_len]; exact e), List.getElem?_eq_getElem (by rw [mat_len]; exact e), Option.getD_some, mat_get]
    refine List.map_congr_left fun j _ => ?_
    unfold gC; rw [if_pos e]
  · rw [List.getElem?_append_right (by rw [mat_len]; omega), mat_len, List.getElem?_eq_getElem (by rw [mat_len]; omega), Option.getD_some, mat_get]
    refine List.map_congr_left fun j _ => ?_
    unfold gC; rw [if_neg e]
/-- Whatever as many rows send to 0 is 0. -/
theorem mds_ker (k m : Nat) (hkm : k + m ≤ 256) (I : List Nat) (hI : k ≤ I.length) (hn : I.Nodup) (hlt : ∀ i ∈ I, i < k + m) (x : Nat → UInt8) (hx : ∀ i ∈ I, sm k (fun j => gm (gC k i j) (x j)) = 0) : ∀ j, j < k → x j = 0 := by
  have h1 : ∀ i ∈ I, i < k → x i = 0 := fun i hi hk => by
    have := hx i hi
    rw [sm_one _ i k hk (fun j _ hne => by unfold gC idm; rw [if_pos hk, if_neg (Ne.symm hne), zero_gm])] at this
    unfold gC idm at this
    rw [if_pos hk, if_pos rfl, one_gm] at this
    exact this
  let p : Nat → Bool := fun j => !I.contains j
  have hp : ∀ j, p j = true ↔ j ∉ I := fun j => by simp [p]
  let T := (List.range k).filter p
  have hT : ∀ j, j ∈ T ↔ j < k ∧ j ∉ I := fun j => by simp only [T, List.mem_filter, List.mem_range, hp]
  have hTn : T.Nodup := List.nodup_range.filter _
  let S := I.filter (fun i => decide (k ≤ i))
  let I1 := I.filter (fun i => decide (i < k))
  have hS : ∀ i, i ∈ S ↔ i ∈ I ∧ k ≤ i := fun i => by simp [S]
  have hI1 : ∀ i, i ∈ I1 ↔ i ∈ I ∧ i < k := fun i => by simp [I1]
  have hlen : I.length = I1.length + S.length := by
    have : ∀ l : List Nat, l.length = (l.filter (fun i => decide (i < k))).length + (l.filter (fun i => decide (k ≤ i))).length := by
      intro l
      induction l with
      | nil => rfl
      | cons a l ih =>
        by_cases h : a < k
        · simp [List.filter_cons, h, Nat.not_le.mpr h]; omega
        · simp [List.filter_cons, h, Nat.le_of_not_lt h]; omega
    exact this I
  have hle : T.length ≤ S.length := by
    have := nodup_sub (T ++ I1) (List.range k) (by
      rw [List.nodup_append]
      refine ⟨hTn, hn.filter _, fun a ha b hb e => ?_⟩
      subst e
      exact ((hT a).mp ha).2 ((hI1 a).mp hb).1) (fun a ha => by
        rcases List.mem_append.mp ha with h | h
        · exact List.mem_range.mpr ((hT a).mp h).1
        · exact List.mem_range.mpr ((hI1 a).mp h).2)
    rw [List.length_append, List.length_range] at this
    omega
  have hz := cauchy_zero (T.map fun j => (x j, UInt8.ofNat j)) (S.map fun i => UInt8.ofNat i) (by rw [List.length_map, List.length_map]; exact hle)
    (nodup_map _ S (hn.filter _) (fun a ha b hb e => ofNat_inj (by have := hlt a ((hS a).mp ha).1; omega) (by have := hlt b ((hS b).mp hb).1; omega) e))
    (by
      rw [List.map_map]
      exact nodup_map _ T hTn (fun a ha b hb e => ofNat_inj (by have := ((hT a).mp ha).1; omega) (by have := ((hT b).mp hb).1; omega) e))
    (fun a ha t ht e => by
      obtain ⟨i, hi, rfl⟩ := List.mem_map.mp ha
      obtain ⟨j, hj, rfl⟩ := List.mem_map.mp ht
      have h2 := (hS i).mp hi
      have h3 := (hT j).mp hj
      have := ofNat_inj (by have := hlt i h2.1; omega) (by omega) e
      omega)
    (fun a ha => by
      obtain ⟨i, hi, rfl⟩ := List.mem_map.mp ha
      have h2 := (hS i).mp hi
      show frac _ (((List.range k).filter p).map fun j => (x j, UInt8.ofNat j)) = 0
      rw [frac_sm]
      refine Eq.trans (sm_congr k (fun j hj => ?_)) (hx i h2.1)
      have e0 : gC k i j = inv (UInt8.ofNat i ^^^ UInt8.ofNat j) := by
        unfold gC cau
        rw [if_neg (by omega), show k + (i - k) = i by omega]
      rw [e0]
      by_cases e : p j = true
      · rw [if_pos e, gm_comm]
      · rw [if_neg e, h1 j (by have := (not_congr (hp j)).mp e; exact Decidable.not_not.mp this) hj, gm_zero])
  intro j hj
  by_cases e : j ∈ I
  · exact h1 j e hj
  · exact hz _ (List.mem_map.mpr ⟨j, (hT j).mpr ⟨hj, e⟩, rfl⟩)
/-- So many rows of the code, chosen by number. -/
def cho (k : Nat) (I : List Nat) : Mat := fun i j => gC k (I.getD i 0) j
theorem mds (k m : Nat) (hkm : k + m ≤ 256) (I : List Nat) (hI : I.length = k) (hn : I.Nodup) (hlt : ∀ i ∈ I, i < k + m) : rnk k k (cho k I) = k := by
  refine (rnk_ker k k (cho k I)).mpr (fun x hx => mds_ker k m hkm I (by omega) hn hlt x (fun i hi => ?_))
  obtain ⟨q, hq, rfl⟩ := List.mem_iff_getElem.mp hi
  have := hx q (by omega)
  unfold cho at this
  rw [List.getD_eq_getElem?_getD, List.getElem?_eq_getElem hq] at this
  exact this

/-! ### texts, byte by byte -/
theorem lin_at (n : Nat) (p : Nat) (hp : p < n) : ∀ (T : List (List UInt8)) (acc r : List UInt8), acc.length = n → (∀ t ∈ T, t.length = n) → T.length ≤ r.length →
    (lin acc r T).getD p 0 = acc.getD p 0 ^^^ sm T.length (fun i => gm (r.getD i 0) ((T.getD i []).getD p 0))
  | [], acc, r, _, _, _ => by rw [lin_nil_t]; simp [sm]
  | t :: T, acc, [], _, _, h => absurd h (by simp)
  | t :: T, acc, f :: r, ha, hT, hr => by
    have ht : t.length = n := hT t (by simp)
    have e : lin acc (f :: r) (t :: T) = lin (av acc (t.map (gm f))) r T := by simp only [lin]
    rw [e, lin_at n p hp T (av acc (t.map (gm f))) r (by rw [av_len _ _ (by rw [List.length_map, ht, ha]), ha]) (fun u hu => hT u (by simp [hu])) (by simpa using hr)]
    have e2 : (av acc (t.map (gm f))).getD p 0 = acc.getD p 0 ^^^ gm f (t.getD p 0) := by
      rw [List.getD_eq_getElem?_getD, List.getD_eq_getElem?_getD, List.getD_eq_getElem?_getD, List.getElem?_eq_getElem (by rw [av_len _ _ (by rw [List.length_map, ht, ha])]; omega), List.getElem?_eq_getElem (by omega), List.getElem?_eq_getElem (by omega)]
      simp [av]
    have e3 : sm (t :: T).length (fun i => gm ((f :: r).getD i 0) (((t :: T).getD i []).getD p 0)) = gm f (t.getD p 0) ^^^ sm T.length (fun i => gm (r.getD i 0) ((T.getD i []).getD p 0)) := by
      rw [List.length_cons, Nat.add_comm, sm_split]
      simp only [sm, zx]
      congr 1
      exact sm_congr _ (fun i _ => by rw [Nat.add_comm]; rfl)
    rw [e2, e3, UInt8.xor_assoc]
theorem comb_at (n : Nat) (T : List (List UInt8)) (r : List UInt8) (hT : ∀ t ∈ T, t.length = n) (hr : T.length ≤ r.length) (p : Nat) (hp : p < n) : (comb n T r).getD p 0 = sm T.length (fun i => gm (r.getD i 0) ((T.getD i []).getD p 0)) := by
  unfold comb
  rw [lin_at n p hp T (zs n) r (by simp [zs]) hT hr]
  have : (zs n).getD p 0 = 0 := by simp [zs, hp]
  rw [this, zx]
theorem ext_at {n : Nat} {a b : List UInt8} (ha : a.length = n) (hb : b.length = n) (h : ∀ p, p < n → a.getD p 0 = b.getD p 0) : a = b := by
  refine List.ext_getElem (by omega) (fun p h1 h2 => ?_)
  have := h p (by omega)
  rwa [List.getD_eq_getElem?_getD, List.getD_eq_getElem?_getD, List.getElem?_eq_getElem h1, List.getElem?_eq_getElem h2] at this
theorem rw_getD (N : Nat) (g : Nat → UInt8) (j : Nat) (h : j < N) : (rw N g).getD j 0 = g j := by
  rw [List.getD_eq_getElem?_getD, List.getElem?_eq_getElem (by rw [rw_len]; exact h), Option.getD_some, rw_get]
/-- What the rows A made of texts, the inverse of A makes them of. -/
theorem ivs_back (k n : Nat) (A : Mat) (h : rnk k k A = k) (D : List (List UInt8)) (hD : ∀ t ∈ D, t.length = n) (hk : D.length = k) (E : List (List UInt8)) (hE : E = (mat k k A).map (comb n D)) : (mat k k (ivs k A)).map (comb n E) = D := by
  have hEl : E.length = k := by rw [hE, List.length_map, mat_len]
  have hEn : ∀ t ∈ E, t.length = n := fun t ht => by
    rw [hE] at ht
    obtain ⟨r, _, rfl⟩ := List.mem_map.mp ht
    exact comb_len n D r hD
  refine List.ext_getElem (by rw [List.length_map, mat_len, hk]) (fun i h1 h2 => ?_)
  rw [List.getElem_map, mat_get]
  refine ext_at (comb_len n E _ hEn) (hD _ (List.getElem_mem _)) (fun p hp => ?_)
  have hi : i < k := by omega
  rw [comb_at n E _ hEn (by rw [hEl]; simp) p hp, hEl]
  have e : ∀ q, q < k → (E.getD q []).getD p 0 = sm k (fun l => gm (A q l) ((D.getD l []).getD p 0)) := fun q hq => by
    have : E.getD q [] = comb n D (rw k (A q)) := by
      rw [List.getD_eq_getElem?_getD, List.getElem?_eq_getElem (by omega), Option.getD_some]
      simp only [hE, List.getElem_map, mat_get]; rfl
    rw [this, comb_at n D _ hD (by rw [rw_len]; omega) p hp, hk]
    exact sm_congr k (fun l hl => by rw [rw_getD k _ l hl])
  rw [sm_congr k (g := fun q => gm (ivs k A i q) (sm k (fun l => gm (A q l) ((D.getD l []).getD p 0)))) (fun q hq => by
    rw [e q hq, show (List.range k).map (ivs k A i) = rw k (ivs k A i) from rfl, rw_getD k _ q hq]), ivs_mul k A h (fun l => (D.getD l []).getD p 0) i hi]
  rw [List.getD_eq_getElem?_getD (l := D), List.getElem?_eq_getElem h2]; rfl
end Go.Proofs.Ytgdjjghdjpaofaa.PureFnAnyFew

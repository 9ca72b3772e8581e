/-
  Matrices that are told by a function of two indices: the identity and Cauchy's, as the program and the reference make them; the matrix of a code. No conditions beyond those that each lemma names.
-/
import Derived.Test.YtgdjjghdjpaofaaGMFnAnyFew
namespace Go.Proofs.Ytgdjjghdjpaofaa.PureFnAnyFew
open Go.RowKit Go.Proofs.Ytgdjjghdjpaofaa.PFnAnyFew Go.Proofs.YtgdjjghdjpaofaaW.PrintWords Go.Proofs.YtgdjjghdjpaofaaW.PrintLast Go.Proofs.YtgdjjghdjpaofaaW.PrintMore Go.Proofs.Ytgdjjghdjpaofaa.GF
set_option linter.unusedVariables false
set_option linter.unusedSimpArgs false

def mat (m n : Nat) (f : Nat → Nat → UInt8) : List (List UInt8) := (List.range m).map fun i => (List.range n).map (f i)
theorem mat_len (m n : Nat) (f : Nat → Nat → UInt8) : (mat m n f).length = m := by simp [mat]
theorem mat_row {m n : Nat} {f : Nat → Nat → UInt8} {r : List UInt8} (h : r ∈ mat m n f) : r.length = n := by
  obtain ⟨i, _, rfl⟩ := List.mem_map.mp h
  simp
theorem mat_get (m n : Nat) (f : Nat → Nat → UInt8) (i : Nat) (h : i < (mat m n f).length) : (mat m n f)[i] = (List.range n).map (f i) := by simp [mat]
theorem mat_congr {m n : Nat} {f g : Nat → Nat → UInt8} (h : ∀ i j, i < m → j < n → f i j = g i j) : mat m n f = mat m n g :=
  List.map_congr_left fun i hi => List.map_congr_left fun j hj => h i j (List.mem_range.mp hi) (List.mem_range.mp hj)
theorem mat_set (m n : Nat) (f : Nat → Nat → UInt8) (i j : Nat) (v : UInt8) : (mat m n f).set i (((List.range n).map (f i)).set j v) = mat m n (fun r c => if r = i ∧ c = j then v else f r c) := by
  refine List.ext_getElem (by simp [mat]) (fun r h1 h2 => ?_)
  rw [mat_get, List.getElem_set]
  by_cases e : i = r
  · subst e
    rw [if_pos rfl]
    refine List.ext_getElem (by simp) (fun c h3 h4 => ?_)
    rw [List.getElem_set, List.getElem_map, List.getElem_map, List.getElem_range]
    by_cases e2 : j = c
    · subst e2; rw [if_pos rfl, if_pos ⟨rfl, rfl⟩]
    · rw [if_neg e2, if_neg (fun h => e2 h.2.symm)]
  · rw [if_neg e, mat_get]
    refine List.map_congr_left (fun c _ => ?_)
    rw [if_neg (fun h => e h.1.symm)]
/-- What stands where rows are filled one by one. -/
def upto (f : Nat → Nat → UInt8) (i j : Nat) (r c : Nat) : UInt8 := if r < i ∨ r = i ∧ c < j then f r c else 0
theorem upto_set (m n : Nat) (f : Nat → Nat → UInt8) (i j : Nat) : (mat m n (upto f i j)).set i (((List.range n).map (upto f i j i)).set j (f i j)) = mat m n (upto f i (j + 1)) := by
  rw [mat_set]
  refine mat_congr fun r c _ _ => ?_
  unfold upto
  by_cases e : r = i ∧ c = j
  · obtain ⟨rfl, rfl⟩ := e; rw [if_pos ⟨rfl, rfl⟩, if_pos (Or.inr ⟨rfl, by omega⟩)]
  · rw [if_neg e]
    by_cases h : r < i ∨ r = i ∧ c < j
    · rw [if_pos h, if_pos (by omega)]
    · rw [if_neg h, if_neg (by omega)]
theorem upto_row (m n : Nat) (f : Nat → Nat → UInt8) (i : Nat) : mat m n (upto f i n) = mat m n (upto f (i + 1) 0) := by
  refine mat_congr fun r c _ hc => ?_
  unfold upto
  by_cases h : r < i ∨ r = i ∧ c < n
  · rw [if_pos h, if_pos (by omega)]
  · rw [if_neg h, if_neg (by omega)]
theorem upto_all (m n : Nat) (f : Nat → Nat → UInt8) : mat m n (upto f m 0) = mat m n f := mat_congr fun r c h _ => if_pos (Or.inl h)
theorem mat_zero (m n : Nat) (f : Nat → Nat → UInt8) : mat m n (upto f 0 0) = List.replicate m (zs n) := by
  refine List.ext_getElem (by simp [mat]) (fun r h1 h2 => ?_)
  rw [mat_get, List.getElem_replicate]
  refine List.ext_getElem (by simp [zs]) (fun c h3 h4 => ?_)
  rw [List.getElem_map]
  unfold upto
  rw [if_neg (by omega)]
  simp [zs]
def idm (i j : Nat) : UInt8 := if i = j then 1 else 0
theorem set_zs (n i : Nat) : (zs n).set i 1 = (List.range n).map (idm i) := by
  refine List.ext_getElem (by simp [zs]) (fun c h3 h4 => ?_)
  rw [List.getElem_set, List.getElem_map, List.getElem_range]
  unfold idm
  by_cases e : i = c
  · rw [if_pos e, if_pos e]
  · rw [if_neg e, if_neg e]
    simp [zs]
def cau (k i j : Nat) : UInt8 := inv (UInt8.ofNat (k + i) ^^^ UInt8.ofNat j)
def codeG (k m : Nat) : List (List UInt8) := mat k k idm ++ mat m k (cau k)
theorem codeG_len (k m : Nat) : (codeG k m).length = k + m := by unfold codeG; rw [List.length_append, mat_len, mat_len]
theorem codeG_row {k m : Nat} {r : List UInt8} (h : r ∈ codeG k m) : r.length = k := by
  unfold codeG at h
  rcases List.mem_append.mp h with h | h <;> exact mat_row h
theorem ofNat_ib (i : Nat) (h : i < 256) : ib (UInt8.ofNat i) = (i : Int) := by unfold ib; rw [UInt8.toNat_ofNat_of_lt' h]

/-! ### the program's -/
theorem identity_loop (n : Nat) (hn : n ≤ 1000) : ∀ (c i : Nat) (outs : List (List UInt8)), c + i = n → outs.length = i →
    Ev (fun k => impl_identity.l0 k (n : Int) (lr outs) (n : Int) (i : Int)) (lr (outs ++ (mat n n idm).drop i))
  | 0, i, outs, h, _ => by
    rw [List.drop_eq_nil_of_le (by rw [mat_len]; omega), List.append_nil]
    exact Ev.step (f := fun _ => some (lr outs)) (fun k => by simp only [impl_identity.l0]; rw [if_neg (by omega)]) (Ev.now _)
  | c + 1, i, outs, h, ho => by
    have hi : i < (mat n n idm).length := by rw [mat_len]; omega
    have ih := identity_loop n hn c (i + 1) (outs ++ [(mat n n idm)[i]]) (by omega) (by simp [ho])
    rw [List.append_assoc] at ih
    rw [List.drop_eq_getElem_cons hi]
    refine Ev.step (fun k => ?_) ih
    simp only [impl_identity.l0]
    rw [if_pos (by omega), if_pos (by omega), if_pos (by omega), Option.bind_some, if_pos (by omega), if_pos (by simp; omega), if_pos (by rw [lr_len]; omega), v64 (by omega) (by omega), lr_app, mat_get, ← set_zs]
    have e : (List.replicate ((n : Int).toNat) (0 : Int)).set ((i : Int).toNat) 1 = li ((zs n).set i 1) := by
      rw [Int.toNat_natCast, Int.toNat_natCast, ← li_set]
      congr 1
      exact (li_rep n).symm
    rw [e]; rfl
theorem identity_i (n : Nat) (hn : n ≤ 1000) : Ev (fun k => impl_identity.f k (n : Int)) (lr (mat n n idm)) := by
  have h := identity_loop n hn n 0 [] (by omega) rfl
  rw [List.drop_zero] at h
  exact h.congr fun k => by unfold impl_identity.f; rfl
section
variable (F : Nat → Int → Int → Option Int) (f : Nat → Nat → UInt8) (m n : Nat) (hF : ∀ i j, i < m → j < n → Ev (fun k => F k (i : Int) (j : Int)) (ib (f i j)))
include hF
theorem filled_inner (hn : n ≤ 1000) (hm : m ≤ 1000) (i : Nat) (hi : i < m) (outs : List (List UInt8)) (ho : outs.length = i) (res : List (List Int)) (next : Ev (fun k => impl_filled.l0 F k (n : Int) (lr (outs ++ [(List.range n).map (f i)])) (m : Int) ((i + 1 : Nat) : Int)) res) :
    ∀ (c j : Nat) (acc : List UInt8), c + j = n → acc.length = j → acc ++ ((List.range n).map (f i)).drop j = (List.range n).map (f i) → Ev (fun k => impl_filled.l1 F k (n : Int) (lr outs) (i : Int) (li acc) (m : Int) (i : Int) (n : Int) (j : Int)) res
  | 0, j, acc, h, ha, e => by
    rw [List.drop_eq_nil_of_le (by simp; omega), List.append_nil] at e
    refine Ev.step (fun k => ?_) next
    simp only [impl_filled.l1]
    rw [if_neg (by omega), if_pos (by rw [lr_len]; omega), v64 (by omega) (by omega), ← e, lr_app]; rfl
  | c + 1, j, acc, h, ha, e => by
    have hj : j < ((List.range n).map (f i)).length := by simp; omega
    rw [List.drop_eq_getElem_cons hj] at e
    have eg : ((List.range n).map (f i))[j] = f i j := by simp
    rw [eg] at e
    have ih := filled_inner hn hm i hi outs ho res next c (j + 1) (acc ++ [f i j]) (by omega) (by simp [ha]) (by rw [List.append_assoc]; exact e)
    refine Ev.step (fun k => ?_) (Ev.bind (f := fun k t => impl_filled.l1 F k (n : Int) (lr outs) (i : Int) (li acc ++ [t]) (m : Int) (i : Int) (n : Int) ((j + 1 : Nat) : Int)) (hF i j hi (by omega)) (ih.congr fun k => by rw [li_app]; rfl))
    simp only [impl_filled.l1]
    rw [if_pos (by omega)]
    congr 1
    funext t
    rw [if_pos (by rw [li_len]; omega), v64 (by omega) (by omega)]; rfl
theorem filled_loop (hn : n ≤ 1000) (hm : m ≤ 1000) : ∀ (c i : Nat) (outs : List (List UInt8)), c + i = m → outs.length = i →
    Ev (fun k => impl_filled.l0 F k (n : Int) (lr outs) (m : Int) (i : Int)) (lr (outs ++ (mat m n f).drop i))
  | 0, i, outs, h, _ => by
    rw [List.drop_eq_nil_of_le (by rw [mat_len]; omega), List.append_nil]
    exact Ev.step (f := fun _ => some (lr outs)) (fun k => by simp only [impl_filled.l0]; rw [if_neg (by omega)]) (Ev.now _)
  | c + 1, i, outs, h, ho => by
    have hi : i < (mat m n f).length := by rw [mat_len]; omega
    have ih := filled_loop hn hm c (i + 1) (outs ++ [(mat m n f)[i]]) (by omega) (by simp [ho])
    rw [List.append_assoc, mat_get] at ih
    rw [List.drop_eq_getElem_cons hi, mat_get]
    refine Ev.step (fun k => ?_) (filled_inner F f m n hF hn hm i (by omega) outs ho _ ih n 0 [] (by omega) rfl rfl)
    simp only [impl_filled.l0]
    rw [if_pos (by omega)]; rfl
theorem filled_ok (hn : n ≤ 1000) (hm : m ≤ 1000) : Ev (fun k => impl_filled.f F k (m : Int) (n : Int)) (lr (mat m n f)) := by
  have h := filled_loop F f m n hF hn hm m 0 [] (by omega) rfl
  rw [List.drop_zero] at h
  exact h.congr fun k => by unfold impl_filled.f; rfl
end
theorem xor_idx (k i j : Nat) (hi : k + i < 256) (hj : j < 256) : (Go.bits .xor .i64 (wrap64 ((k : Int) + (i : Int))) (j : Int)) % 256 = ib (UInt8.ofNat (k + i) ^^^ UInt8.ofNat j) := by
  rw [v64 (by omega) (by omega), show (k : Int) + (i : Int) = ((k + i : Nat) : Int) by omega, ← ofNat_ib (k + i) hi, ← ofNat_ib j hj, xor_i64, ib_mod]
theorem cauchy_i (k m : Nat) (h : k + m ≤ 256) : Ev (fun r => impl_cauchy.f r (m : Int) (k : Int)) (lr (mat m k (cau k))) := by
  refine (filled_ok (impl_cauchy.F (k : Int)) (cau k) m k (fun i j hi hj => ?_) (by omega) (by omega)).congr fun r => rfl
  refine (inverse_i _).congr fun r => ?_
  unfold impl_cauchy.F
  rw [xor_idx k i j (by omega) (by omega)]
theorem codeRows_i (k m : Nat) (h : k + m ≤ 256) : Ev (fun r => impl_codeRows.f r (k : Int) (m : Int)) (lr (codeG k m)) := by
  refine (Ev.bind (f := fun r t => (impl_cauchy.f r (m : Int) (k : Int)).bind fun u => if t.length + u.length < 5864062014805 then some (t ++ u) else none) (identity_i k (by omega))
    (Ev.bind (f := fun _ u => if (lr (mat k k idm)).length + u.length < 5864062014805 then some (lr (mat k k idm) ++ u) else none) (cauchy_i k m h) ((Ev.now _).congr fun r => ?_))).congr fun r => by unfold impl_codeRows.f; rfl
  rw [if_pos (by rw [lr_len, lr_len, mat_len, mat_len]; omega), ← lr_app]; rfl

/-! ### the reference's -/
theorem blank_loop (m n : Nat) (hm : m ≤ 1000) (hn : n ≤ 1000) : ∀ (c i : Nat), c + i = m →
    Ev (fun k => spec_l2Blank.l0 k (m : Int) (n : Int) (i : Int) (lr (List.replicate i (zs n)))) (lr (List.replicate m (zs n)))
  | 0, i, h => by
    obtain rfl : i = m := by omega
    exact Ev.step (f := fun _ => some (lr (List.replicate i (zs n)))) (fun k => by simp only [spec_l2Blank.l0]; rw [if_neg (by omega)]) (Ev.now _)
  | c + 1, i, h => by
    refine Ev.step (fun k => ?_) (blank_loop m n hm hn c (i + 1) (by omega))
    simp only [spec_l2Blank.l0]
    rw [if_pos (by omega), if_pos (by omega), if_pos (by omega), if_pos (by rw [lr_len, List.length_replicate]; omega), v64 (by omega) (by omega), List.replicate_succ', lr_app, Int.toNat_natCast, ← li_rep]; rfl
theorem blank_s (m n : Nat) (hm : m ≤ 1000) (hn : n ≤ 1000) (f : Nat → Nat → UInt8) : Ev (fun k => spec_l2Blank.f k (m : Int) (n : Int)) (lr (mat m n (upto f 0 0))) := by
  rw [mat_zero]
  exact (blank_loop m n hm hn m 0 (by omega)).congr fun k => by unfold spec_l2Blank.f; rfl
theorem lr_set (R : List (List UInt8)) (i : Nat) (r : List UInt8) : (lr R).set i (li r) = lr (R.set i r) := by simp [lr]
theorem idn_row (n i : Nat) (hi : i < n) : (mat n n (upto idm i 0)).set i (((List.range n).map (upto idm i 0 i)).set i 1) = mat n n (upto idm (i + 1) 0) := by
  rw [mat_set]
  refine mat_congr fun r c _ _ => ?_
  unfold upto
  by_cases e : r = i ∧ c = i
  · obtain ⟨rfl, rfl⟩ := e; rw [if_pos ⟨rfl, rfl⟩, if_pos (by omega)]; unfold idm; rw [if_pos rfl]
  · rw [if_neg e]
    by_cases h : r < i
    · rw [if_pos (Or.inl h), if_pos (by omega)]
    · rw [if_neg (by omega)]
      by_cases h2 : r = i
      · subst h2; rw [if_pos (by omega)]; unfold idm; rw [if_neg (by omega)]
      · rw [if_neg (by omega)]
theorem identity_s_loop (n : Nat) (hn : n ≤ 1000) : ∀ (c i : Nat), c + i = n →
    Ev (fun k => spec_l2Identity.l0 k (n : Int) (i : Int) (lr (mat n n (upto idm i 0)))) (lr (mat n n idm))
  | 0, i, h => by
    obtain rfl : i = n := by omega
    rw [upto_all]
    exact Ev.step (f := fun _ => some (lr (mat i i idm))) (fun k => by simp only [spec_l2Identity.l0]; rw [if_neg (by omega)]) (Ev.now _)
  | c + 1, i, h => by
    have hi : i < (mat n n (upto idm i 0)).length := by rw [mat_len]; omega
    refine Ev.step (fun k => ?_) (identity_s_loop n hn c (i + 1) (by omega))
    simp only [spec_l2Identity.l0]
    rw [if_pos (by omega), if_pos (by omega), if_pos (by rw [lr_len, mat_len]; omega), rd_lr _ i hi, if_pos (by rw [li_len, mat_get]; simp; omega), v64 (by omega) (by omega), Int.toNat_natCast, mat_get, show (1 : Int) = ib 1 from rfl, li_set, lr_set, idn_row n i (by omega)]; rfl
theorem identity_s (n : Nat) (hn : n ≤ 1000) : Ev (fun k => spec_l2Identity.f k (n : Int)) (lr (mat n n idm)) := by
  refine (Ev.bind (f := fun k t => spec_l2Identity.l0 k (t.length : Int) 0 t) (blank_s n n hn hn idm) ((identity_s_loop n hn n 0 (by omega)).congr fun k => ?_)).congr fun k => by unfold spec_l2Identity.f; rfl
  rw [lr_len, mat_len]; rfl
theorem cauchy_s_inner (k m : Nat) (h : k + m ≤ 256) (i : Nat) (hi : i < m) (res : List (List Int)) (next : Ev (fun r => spec_l2Cauchy.l0 r (k : Int) (m : Int) ((i + 1 : Nat) : Int) (lr (mat m k (upto (cau k) (i + 1) 0)))) res) : ∀ (c j : Nat), c + j = k →
    Ev (fun r => spec_l2Cauchy.l1 r (k : Int) (i : Int) (m : Int) (i : Int) (k : Int) (j : Int) (lr (mat m k (upto (cau k) i j)))) res
  | 0, j, hc => by
    obtain rfl : j = k := by omega
    rw [upto_row]
    refine Ev.step (fun r => ?_) next
    simp only [spec_l2Cauchy.l1]
    rw [if_neg (by omega), v64 (by omega) (by omega)]; rfl
  | c + 1, j, hc => by
    have hl : i < (mat m k (upto (cau k) i j)).length := by rw [mat_len]; omega
    refine Ev.step (fun r => ?_) (Ev.bind (f := fun r t => if 0 ≤ (j : Int) then (if (j : Int) < ((rd_L1 (lr (mat m k (upto (cau k) i j))) (i : Int)).length : Int) then spec_l2Cauchy.l1 r (k : Int) (i : Int) (m : Int) (i : Int) (k : Int) ((j + 1 : Nat) : Int) ((lr (mat m k (upto (cau k) i j))).set i ((rd_L1 (lr (mat m k (upto (cau k) i j))) (i : Int)).set j t)) else none) else none)
      (inverse_s (UInt8.ofNat (k + i) ^^^ UInt8.ofNat j)) ((cauchy_s_inner k m h i hi res next c (j + 1) (by omega)).congr fun r => ?_))
    · simp only [spec_l2Cauchy.l1]
      rw [if_pos (by omega), if_pos (by omega), if_pos (by rw [lr_len, mat_len]; omega), xor_idx k i j (by omega) (by omega), v64 (x := (j : Int) + 1) (by omega) (by omega), Int.toNat_natCast, Int.toNat_natCast]; rfl
    · rw [if_pos (by omega), rd_lr _ i hl, mat_get, if_pos (by rw [li_len]; simp; omega), li_set, lr_set]
      have e := upto_set m k (cau k) i j
      unfold cau at e ⊢
      rw [e]
theorem cauchy_s_loop (k m : Nat) (h : k + m ≤ 256) : ∀ (c i : Nat), c + i = m →
    Ev (fun r => spec_l2Cauchy.l0 r (k : Int) (m : Int) (i : Int) (lr (mat m k (upto (cau k) i 0)))) (lr (mat m k (cau k)))
  | 0, i, hc => by
    obtain rfl : i = m := by omega
    rw [upto_all]
    exact Ev.step (f := fun _ => some (lr (mat i k (cau k)))) (fun r => by simp only [spec_l2Cauchy.l0]; rw [if_neg (by omega)]) (Ev.now _)
  | c + 1, i, hc => by
    have hl : i < (mat m k (upto (cau k) i 0)).length := by rw [mat_len]; omega
    refine Ev.step (fun r => ?_) (cauchy_s_inner k m h i (by omega) _ (cauchy_s_loop k m h c (i + 1) (by omega)) k 0 (by omega))
    simp only [spec_l2Cauchy.l0]
    rw [if_pos (by omega), if_pos (by omega), if_pos (by rw [lr_len, mat_len]; omega), rd_lr _ i hl, li_len, mat_get, List.length_map, List.length_range]; rfl
theorem cauchy_s (k m : Nat) (h : k + m ≤ 256) : Ev (fun r => spec_l2Cauchy.f r (m : Int) (k : Int)) (lr (mat m k (cau k))) := by
  refine (Ev.bind (f := fun r t => spec_l2Cauchy.l0 r (k : Int) (t.length : Int) 0 t) (blank_s m k (by omega) (by omega) (cau k)) ((cauchy_s_loop k m h m 0 (by omega)).congr fun r => ?_)).congr fun r => by unfold spec_l2Cauchy.f; rfl
  rw [lr_len, mat_len]; rfl
theorem matrix_s (k m : Nat) (h : k + m ≤ 256) : Ev (fun r => spec_l3Matrix.f r (k : Int) (m : Int)) (lr (codeG k m)) := by
  refine (Ev.bind (f := fun r t => (spec_l2Cauchy.f r (m : Int) (k : Int)).bind fun u => if t.length + u.length < 5864062014805 then some (t ++ u) else none) (identity_s k (by omega))
    (Ev.bind (f := fun _ u => if (lr (mat k k idm)).length + u.length < 5864062014805 then some (lr (mat k k idm) ++ u) else none) (cauchy_s k m h) ((Ev.now _).congr fun r => ?_))).congr fun r => by unfold spec_l3Matrix.f; rfl
  rw [if_pos (by rw [lr_len, lr_len, mat_len, mat_len]; omega), ← lr_app]; rfl
end Go.Proofs.Ytgdjjghdjpaofaa.PureFnAnyFew

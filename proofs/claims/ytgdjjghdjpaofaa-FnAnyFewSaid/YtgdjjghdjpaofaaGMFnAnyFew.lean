/-
  What the program's and the reference's sums and products of lists of bytes compute, and the texts that the rows of a matrix make of texts. No conditions beyond those that each lemma names.
-/
import Derived.Test.YtgdjjghdjpaofaaGVFnAnyFew
namespace Go.Proofs.Ytgdjjghdjpaofaa.PureFnAnyFew
open Go.RowKit Go.Proofs.Ytgdjjghdjpaofaa.PFnAnyFew Go.Proofs.YtgdjjghdjpaofaaW.PrintWords Go.Proofs.YtgdjjghdjpaofaaW.PrintLast Go.Proofs.YtgdjjghdjpaofaaW.PrintMore Go.Proofs.Ytgdjjghdjpaofaa.GF

def av (v w : List UInt8) : List UInt8 := List.zipWith (· ^^^ ·) v w
theorem av_len (v w : List UInt8) (h : w.length = v.length) : (av v w).length = v.length := by simp [av, h]
theorem added_loop (v w : List UInt8) (hl : w.length = v.length) (hb : v.length ≤ 1000000) : ∀ (n i : Nat) (acc : List UInt8), n + i = v.length → acc.length = i →
    Ev (fun k => impl_added.l0 k (li w) (li acc) (li v) (v.length : Int) (i : Int)) (li (acc ++ av (v.drop i) (w.drop i)))
  | 0, i, acc, h, _ => by
    rw [List.drop_eq_nil_of_le (by omega : v.length ≤ i), show av [] (w.drop i) = [] from rfl, List.append_nil]
    exact Ev.step (f := fun _ => some (li acc)) (fun k => by simp only [impl_added.l0]; rw [if_neg (by omega)]) (Ev.now _)
  | n + 1, i, acc, h, ha => by
    have ih := added_loop v w hl hb n (i + 1) (acc ++ [v[i] ^^^ w[i]]) (by omega) (by simp [ha])
    rw [List.drop_eq_getElem_cons (by omega : i < v.length), List.drop_eq_getElem_cons (by omega : i < w.length)]
    rw [List.append_assoc] at ih
    refine Ev.step (fun k => ?_) ih
    simp only [impl_added.l0]
    rw [if_pos (by omega), if_pos (by omega), li_len, if_pos (by omega), li_len, if_pos (by omega), li_len, if_pos (by omega), rd_li v i (by omega), rd_li w i (by omega), xor_u8, v64 (by omega) (by omega), li_app]
    rfl
theorem added_ok (v w : List UInt8) (hl : w.length = v.length) (hb : v.length ≤ 1000000) : Ev (fun k => impl_added.f k (li v) (li w)) (li (av v w)) := by
  refine (added_loop v w hl hb v.length 0 [] (by omega) rfl).congr fun k => ?_
  unfold impl_added.f
  rw [li_len]; rfl
theorem scaled_loop (a : UInt8) (v : List UInt8) (hb : v.length ≤ 1000000) : ∀ (n i : Nat) (acc : List UInt8), n + i = v.length → acc.length = i →
    Ev (fun k => impl_scaled.l0 k (ib a) (li acc) (li v) (v.length : Int) (i : Int)) (li (acc ++ (v.drop i).map (gm a)))
  | 0, i, acc, h, _ => by
    rw [List.drop_eq_nil_of_le (by omega : v.length ≤ i), List.map_nil, List.append_nil]
    exact Ev.step (f := fun _ => some (li acc)) (fun k => by simp only [impl_scaled.l0]; rw [if_neg (by omega)]) (Ev.now _)
  | n + 1, i, acc, h, ha => by
    have ih := scaled_loop a v hb n (i + 1) (acc ++ [gm a v[i]]) (by omega) (by simp [ha])
    rw [List.drop_eq_getElem_cons (by omega : i < v.length), List.map_cons]
    rw [List.append_assoc] at ih
    refine Ev.step (fun k => ?_) (Ev.bind (f := fun k t => impl_scaled.l0 k (ib a) (li acc ++ [t]) (li v) (v.length : Int) ((i + 1 : Nat) : Int)) (times_i a v[i]) (ih.congr fun k => by rw [li_app]; rfl))
    simp only [impl_scaled.l0]
    rw [if_pos (by omega), if_pos (by omega), li_len, if_pos (by omega), rd_li v i (by omega), v64 (by omega) (by omega)]
    congr 1
    funext t
    rw [if_pos (by rw [li_len]; omega)]; rfl
theorem scaled_ok (a : UInt8) (v : List UInt8) (hb : v.length ≤ 1000000) : Ev (fun k => impl_scaled.f k (ib a) (li v)) (li (v.map (gm a))) := by
  refine (scaled_loop a v hb v.length 0 [] (by omega) rfl).congr fun k => ?_
  unfold impl_scaled.f
  rw [li_len]; rfl
theorem sumOf_ok (v w : List UInt8) (hl : w.length = v.length) (hb : v.length ≤ 1000000) : Ev (fun k => impl_sumOf.f k (str v) (str w)) (str (av v w)) := by
  refine (Ev.bind (f := fun _ t => some (strOfNums t)) (added_ok v w hl hb) (r := str (av v w)) ((Ev.now _).congr fun k => by rw [strOf_li])).congr fun k => ?_
  unfold impl_sumOf.f
  rw [if_pos (by rw [str_size]; omega), if_pos (by rw [str_size]; omega), bytes_str, bytes_str]
theorem timesOf_ok (a : UInt8) (v : List UInt8) (hb : v.length ≤ 1000000) : Ev (fun k => impl_timesOf.f k (ib a) (str v)) (str (v.map (gm a))) := by
  refine (Ev.bind (f := fun _ t => some (strOfNums t)) (scaled_ok a v hb) (r := str (v.map (gm a))) ((Ev.now _).congr fun k => by rw [strOf_li])).congr fun k => ?_
  unfold impl_timesOf.f
  rw [if_pos (by rw [str_size]; omega), bytes_str]

/-! ### texts and rows -/
def ts (T : List (List UInt8)) : List ByteArray := T.map str
theorem ts_len (T : List (List UInt8)) : (ts T).length = T.length := by simp [ts]
theorem ts_app (T U : List (List UInt8)) : ts (T ++ U) = ts T ++ ts U := by simp [ts]
theorem rd_ts (T : List (List UInt8)) (i : Nat) (h : i < T.length) : rdOf ByteArray.empty (ts T) (i : Int) = str T[i] := by
  simp [rdOf, ts, h]
def lr (R : List (List UInt8)) : List (List Int) := R.map li
theorem lr_len (R : List (List UInt8)) : (lr R).length = R.length := by simp [lr]
theorem lr_app (R U : List (List UInt8)) : lr (R ++ U) = lr R ++ lr U := by simp [lr]
theorem rd_lr (R : List (List UInt8)) (i : Nat) (h : i < R.length) : rd_L1 (lr R) (i : Int) = li R[i] := by
  simp [rd_L1, lr, h]
/-- What a row makes of texts, beside what is there. -/
def lin : List UInt8 → List UInt8 → List (List UInt8) → List UInt8
  | acc, f :: r, t :: T => lin (av acc (t.map (gm f))) r T
  | acc, _, _ => acc
theorem lin_nil_r (acc : List UInt8) (T : List (List UInt8)) : lin acc [] T = acc := by unfold lin; rfl
theorem lin_nil_t (acc r : List UInt8) : lin acc r [] = acc := by unfold lin; split <;> first | rfl | simp_all
theorem lin_len : ∀ (acc r : List UInt8) (T : List (List UInt8)), (∀ t ∈ T, t.length = acc.length) → (lin acc r T).length = acc.length
  | acc, [], T, _ => by rw [lin_nil_r]
  | acc, f :: r, [], _ => by rw [lin_nil_t]
  | acc, f :: r, t :: T, h => by
    have h1 : (av acc (t.map (gm f))).length = acc.length := av_len _ _ (by rw [List.length_map]; exact h t List.mem_cons_self)
    show (lin (av acc (t.map (gm f))) r T).length = _
    rw [lin_len _ r T (fun u hu => by rw [h1]; exact h u (List.mem_cons_of_mem _ hu)), h1]
def zs (n : Nat) : List UInt8 := List.replicate n 0
/-- The text that a row makes of texts of length n. -/
def comb (n : Nat) (T : List (List UInt8)) (r : List UInt8) : List UInt8 := lin (zs n) r T
theorem comb_len (n : Nat) (T : List (List UInt8)) (r : List UInt8) (h : ∀ t ∈ T, t.length = n) : (comb n T r).length = n := by
  unfold comb
  rw [lin_len _ _ _ (fun t ht => by rw [h t ht]; simp [zs])]; simp [zs]

section
variable (R T : List (List UInt8)) (n : Nat)
theorem combined_inner (hT : ∀ t ∈ T, t.length = n) (hn : n ≤ 1000000) (hTl : T.length ≤ 1000000) (row : List UInt8) (hrow : T.length ≤ row.length) (outs : List (List UInt8)) (hout : outs.length ≤ 1000000) (j : Int) (res : List ByteArray)
    (next : Ev (fun k => impl_combined.l0 k (ts T) (ts (outs ++ [lin (zs n) row T])) (lr R) (R.length : Int) (wrap64 (j + 1))) res) : ∀ (m i : Nat) (acc : List UInt8), m + i = T.length → acc.length = n → lin acc (row.drop i) (T.drop i) = lin (zs n) row T →
    Ev (fun k => impl_combined.l1 k (ts T) (ts outs) (li row) (str acc) (lr R) (R.length : Int) j (ts T) (T.length : Int) (i : Int)) res
  | 0, i, acc, h, _, hl => by
    rw [List.drop_eq_nil_of_le (by omega : T.length ≤ i), lin_nil_t] at hl
    refine Ev.step (fun k => ?_) next
    simp only [impl_combined.l1]
    rw [if_neg (by omega), if_pos (by rw [ts_len]; omega), ts_app, ← hl]; rfl
  | m + 1, i, acc, h, ha, hl => by
    have hti : T[i].length = n := hT _ (List.getElem_mem _)
    rw [List.drop_eq_getElem_cons (by omega : i < T.length), List.drop_eq_getElem_cons (by omega : i < row.length)] at hl
    have ih := combined_inner hT hn hTl row hrow outs hout j res next m (i + 1) (av acc (T[i].map (gm row[i]))) (by omega) (by rw [av_len _ _ (by rw [List.length_map, hti, ha]), ha]) hl
    refine Ev.step (fun k => ?_) (Ev.bind (f := fun k t => (impl_sumOf.f k (str acc) t).bind fun u => impl_combined.l1 k (ts T) (ts outs) (li row) u (lr R) (R.length : Int) j (ts T) (T.length : Int) ((i + 1 : Nat) : Int)) (timesOf_ok row[i] T[i] (by omega))
      (Ev.bind (f := fun k u => impl_combined.l1 k (ts T) (ts outs) (li row) u (lr R) (R.length : Int) j (ts T) (T.length : Int) ((i + 1 : Nat) : Int)) (sumOf_ok acc (T[i].map (gm row[i])) (by rw [List.length_map, hti, ha]) (by omega)) ih))
    simp only [impl_combined.l1]
    rw [if_pos (by omega), if_pos (by omega), if_pos (by rw [ts_len]; omega), if_pos (by rw [li_len]; omega), rd_li row i (by omega), rd_ts T i (by omega), v64 (by omega) (by omega)]
    rfl
theorem combined_loop (hT : ∀ t ∈ T, t.length = n) (hn : n ≤ 1000000) (hTl : T.length ≤ 1000000) (hT0 : 0 < T.length) (hR : ∀ r ∈ R, T.length ≤ r.length) (hRl : R.length ≤ 1000000) : ∀ (m i : Nat) (outs : List (List UInt8)), m + i = R.length → outs.length = i →
    Ev (fun k => impl_combined.l0 k (ts T) (ts outs) (lr R) (R.length : Int) (i : Int)) (ts (outs ++ (R.drop i).map (comb n T)))
  | 0, i, outs, h, _ => by
    rw [List.drop_eq_nil_of_le (by omega : R.length ≤ i), List.map_nil, List.append_nil]
    exact Ev.step (f := fun _ => some (ts outs)) (fun k => by simp only [impl_combined.l0]; rw [if_neg (by omega)]) (Ev.now _)
  | m + 1, i, outs, h, ho => by
    have ih := combined_loop hT hn hTl hT0 hR hRl m (i + 1) (outs ++ [comb n T R[i]]) (by omega) (by simp [ho])
    rw [List.append_assoc] at ih
    rw [List.drop_eq_getElem_cons (by omega : i < R.length), List.map_cons]
    have h0 : T[0].length = n := hT _ (List.getElem_mem _)
    have hi := combined_inner R T n hT hn hTl R[i] (hR _ (List.getElem_mem _)) outs (by omega) (i : Int) _ (by rw [v64 (by omega) (by omega)]; exact ih) T.length 0 (zs n) (by omega) (by simp [zs]) rfl
    refine Ev.step (fun k => ?_) hi
    simp only [impl_combined.l0]
    have hz := rd_ts T 0 hT0
    rw [show ((0 : Nat) : Int) = 0 from rfl] at hz
    rw [if_pos (by omega), if_pos (by omega), if_pos (by rw [lr_len]; omega), if_pos (by rw [ts_len]; omega), hz, str_size, h0, if_pos (by omega), if_pos (by omega), rd_lr R i (by omega), ts_len, Int.toNat_natCast, ← li_rep, strOf_li]
    rfl
theorem combined_ok (hT : ∀ t ∈ T, t.length = n) (hn : n ≤ 1000000) (hTl : T.length ≤ 1000000) (hT0 : 0 < T.length) (hR : ∀ r ∈ R, T.length ≤ r.length) (hRl : R.length ≤ 1000000) :
    Ev (fun k => impl_combined.f k (lr R) (ts T)) (ts (R.map (comb n T))) := by
  refine (combined_loop R T n hT hn hTl hT0 hR hRl R.length 0 [] (by omega) rfl).congr fun k => ?_
  unfold impl_combined.f
  rw [lr_len]; rfl

/-! ### the reference's -/
def upd (b t : List UInt8) (f : UInt8) : Nat → List UInt8
  | 0 => b
  | p + 1 => (upd b t f p).set p (b.getD p 0 ^^^ gm f (t.getD p 0))
theorem upd_len (b t : List UInt8) (f : UInt8) : ∀ p, (upd b t f p).length = b.length
  | 0 => rfl
  | p + 1 => by simp only [upd, List.length_set]; exact upd_len b t f p
theorem upd_get (b t : List UInt8) (f : UInt8) (q : Nat) (hq : q < b.length) : ∀ p, (upd b t f p)[q]? = if q < p then some (b.getD q 0 ^^^ gm f (t.getD q 0)) else b[q]?
  | 0 => by rw [if_neg (by omega)]; rfl
  | p + 1 => by
    simp only [upd, List.getElem?_set, upd_len]
    by_cases h : p = q
    · subst h; rw [if_pos rfl, if_pos hq, if_pos (by omega)]
    · rw [if_neg h, upd_get b t f q hq p]
      by_cases h2 : q < p
      · rw [if_pos h2, if_pos (by omega)]
      · rw [if_neg h2, if_neg (by omega)]
theorem upd_all (b t : List UInt8) (f : UInt8) (h : t.length = b.length) : upd b t f b.length = av b (t.map (gm f)) := by
  apply List.ext_getElem?
  intro q
  by_cases hq : q < b.length
  · rw [upd_get b t f q hq, if_pos hq]
    simp [av, hq, h]
  · rw [List.getElem?_eq_none (by rw [upd_len]; omega), List.getElem?_eq_none (by rw [av_len _ _ (by rw [List.length_map]; exact h)]; omega)]
theorem rows_inner (hT : ∀ t ∈ T, t.length = n) (hn : n ≤ 1000000) (f : UInt8) (row : List UInt8) (i : Nat) (hi : i < T.length) (b : List UInt8) (hb : b.length = n) (outs : List ByteArray) (j : Int) (res : List ByteArray)
    (next : Ev (fun k => spec_l3Rows.l1 k (ts T) outs (li (av b (T[i].map (gm f)))) (lr R) (R.length : Int) j (li row) (row.length : Int) (wrap64 ((i : Int) + 1))) res) : ∀ (m p : Nat), m + p = n →
    Ev (fun k => spec_l3Rows.l2 k (ts T) outs (li (upd b T[i] f p)) (i : Int) (ib f) (lr R) (R.length : Int) j (li row) (row.length : Int) (i : Int) (n : Int) (p : Int)) res
  | 0, p, h => by
    refine Ev.step (fun k => ?_) next
    simp only [spec_l3Rows.l2]
    rw [if_neg (by omega), show p = b.length by omega, upd_all b T[i] f (by rw [hT _ (List.getElem_mem _), hb])]
  | m + 1, p, h => by
    have ih := rows_inner hT hn f row i hi b hb outs j res next m (p + 1) (by omega)
    have hti : T[i].length = n := hT _ (List.getElem_mem _)
    refine Ev.step (fun k => ?_) (Ev.bind (f := fun k t => spec_l3Rows.l2 k (ts T) outs ((li (upd b T[i] f p)).set p (Go.bits .xor .u8 (rd (li (upd b T[i] f p)) (p : Int)) t)) (i : Int) (ib f) (lr R) (R.length : Int) j (li row) (row.length : Int) (i : Int) (n : Int) ((p + 1 : Nat) : Int)) (times_s f (T[i].getD p 0)) (ih.congr fun k => ?_))
    · simp only [spec_l3Rows.l2]
      rw [if_pos (by omega), if_pos (by omega), if_pos (by rw [li_len, upd_len]; omega), if_pos (by omega), if_pos (by rw [ts_len]; omega), rd_ts T i hi, if_pos (by rw [str_size]; omega), bt_str T[i] p (by omega), v64 (x := (p : Int) + 1) (by omega) (by omega), Int.toNat_natCast]
      rw [List.getD_eq_getElem?_getD, List.getElem?_eq_getElem (by omega : p < T[i].length)]
      rfl
    · have hp : p < (upd b T[i] f p).length := by rw [upd_len]; omega
      have e : (upd b T[i] f p)[p] = b.getD p 0 := by
        have h2 := upd_get b T[i] f p (by omega) p
        rw [if_neg (by omega), List.getElem?_eq_getElem hp, List.getElem?_eq_getElem (by omega)] at h2
        rw [List.getD_eq_getElem?_getD, List.getElem?_eq_getElem (by omega : p < b.length)]
        exact Option.some.inj h2
      rw [rd_li _ p hp, e, xor_u8, li_set]
      rfl
theorem rows_mid (hT : ∀ t ∈ T, t.length = n) (hn : n ≤ 1000000) (row : List UInt8) (hrow : row.length ≤ T.length) (hTl : T.length ≤ 1000000) (outs : List (List UInt8)) (hout : outs.length ≤ 1000000) (j : Int) (res : List ByteArray)
    (next : Ev (fun k => spec_l3Rows.l0 k (ts T) (ts (outs ++ [lin (zs n) row T])) (lr R) (R.length : Int) (wrap64 (j + 1))) res) : ∀ (m i : Nat) (acc : List UInt8), m + i = row.length → acc.length = n → lin acc (row.drop i) (T.drop i) = lin (zs n) row T →
    Ev (fun k => spec_l3Rows.l1 k (ts T) (ts outs) (li acc) (lr R) (R.length : Int) j (li row) (row.length : Int) (i : Int)) res
  | 0, i, acc, h, _, hl => by
    rw [List.drop_eq_nil_of_le (by omega : row.length ≤ i), lin_nil_r] at hl
    refine Ev.step (fun k => ?_) next
    simp only [spec_l3Rows.l1]
    rw [if_neg (by omega), if_pos (by rw [ts_len]; omega), ts_app, ← hl, strOf_li]; rfl
  | m + 1, i, acc, h, ha, hl => by
    have hti : T[i].length = n := hT _ (List.getElem_mem _)
    rw [List.drop_eq_getElem_cons (by omega : i < T.length), List.drop_eq_getElem_cons (by omega : i < row.length)] at hl
    have ih := rows_mid hT hn row hrow hTl outs hout j res next m (i + 1) (av acc (T[i].map (gm row[i]))) (by omega) (by rw [av_len _ _ (by rw [List.length_map, hti, ha]), ha]) hl
    have h2 := rows_inner R T n hT hn row[i] row i (by omega) acc ha (ts outs) j res (by rw [v64 (by omega) (by omega)]; exact ih) n 0 (by omega)
    refine Ev.step (fun k => ?_) h2
    simp only [spec_l3Rows.l1]
    rw [if_pos (by omega), if_pos (by omega), if_pos (by rw [li_len]; omega), rd_li row i (by omega), li_len, ha]
    rfl
theorem rows_loop (hT : ∀ t ∈ T, t.length = n) (hn : n ≤ 1000000) (hTl : T.length ≤ 1000000) (hT0 : 0 < T.length) (hR : ∀ r ∈ R, r.length ≤ T.length) (hRl : R.length ≤ 1000000) : ∀ (m i : Nat) (outs : List (List UInt8)), m + i = R.length → outs.length = i →
    Ev (fun k => spec_l3Rows.l0 k (ts T) (ts outs) (lr R) (R.length : Int) (i : Int)) (ts (outs ++ (R.drop i).map (comb n T)))
  | 0, i, outs, h, _ => by
    rw [List.drop_eq_nil_of_le (by omega : R.length ≤ i), List.map_nil, List.append_nil]
    exact Ev.step (f := fun _ => some (ts outs)) (fun k => by simp only [spec_l3Rows.l0]; rw [if_neg (by omega)]) (Ev.now _)
  | m + 1, i, outs, h, ho => by
    have ih := rows_loop hT hn hTl hT0 hR hRl m (i + 1) (outs ++ [comb n T R[i]]) (by omega) (by simp [ho])
    rw [List.append_assoc] at ih
    rw [List.drop_eq_getElem_cons (by omega : i < R.length), List.map_cons]
    have h0 : T[0].length = n := hT _ (List.getElem_mem _)
    have hi := rows_mid R T n hT hn R[i] (hR _ (List.getElem_mem _)) hTl outs (by omega) (i : Int) _ (by rw [v64 (by omega) (by omega)]; exact ih) R[i].length 0 (zs n) (by omega) (by simp [zs]) rfl
    refine Ev.step (fun k => ?_) hi
    simp only [spec_l3Rows.l0]
    have hz := rd_ts T 0 hT0
    rw [show ((0 : Nat) : Int) = 0 from rfl] at hz
    rw [if_pos (by omega), if_pos (by omega), if_pos (by rw [lr_len]; omega), if_pos (by rw [ts_len]; omega), hz, str_size, h0, if_pos (by omega), if_pos (by omega), rd_lr R i (by omega), li_len, Int.toNat_natCast, ← li_rep]
    rfl
theorem rows_ok (hT : ∀ t ∈ T, t.length = n) (hn : n ≤ 1000000) (hTl : T.length ≤ 1000000) (hT0 : 0 < T.length) (hR : ∀ r ∈ R, r.length ≤ T.length) (hRl : R.length ≤ 1000000) :
    Ev (fun k => spec_l3Rows.f k (lr R) (ts T)) (ts (R.map (comb n T))) := by
  refine (rows_loop R T n hT hn hTl hT0 hR hRl R.length 0 [] (by omega) rfl).congr fun k => ?_
  unfold spec_l3Rows.f
  rw [lr_len]; rfl
end
end Go.Proofs.Ytgdjjghdjpaofaa.PureFnAnyFew

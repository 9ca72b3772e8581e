/-
  The law FnAnyFew in plain Lean: for all drawn data the program encodes what the reference does, and any as many shards as there are data tell the data. No conditions.
-/
import Derived.Test.YtgdjjghdjpaofaaEncFnAnyFew
import Derived.Test.YtgdjjghdjpaofaaTxtMFnAnyFew
import Derived.Test.YtgdjjghdjpaofaaDrawBFnAnyFew
namespace Go.Proofs.Ytgdjjghdjpaofaa.PureFnAnyFew
open Go.RowKit Go.Proofs.Ytgdjjghdjpaofaa.PFnAnyFew Go.Proofs.YtgdjjghdjpaofaaW.PrintWords Go.Proofs.YtgdjjghdjpaofaaW.PrintLast Go.Proofs.YtgdjjghdjpaofaaW.PrintMore Go.Proofs.Ytgdjjghdjpaofaa.GF Go.Proofs.Ytgdjjghdjpaofaa.LA
set_option linter.unusedVariables false
set_option linter.unusedSimpArgs false

theorem shape_ok (l : List Int) (hl : Bytes l) (p s : Int) (h0 : 0 ≤ p) (h1 : p ≤ 900000) : ∃ (k m : Nat) (p' s' : Int), spec_l1Cur_shape.f l p s = some ((k : Int), (m : Int), p', s') ∧ k ≤ 9 ∧ m ≤ 7 ∧ p ≤ p' ∧ p' ≤ p + 6 := by
  obtain ⟨b, p1, s1, e1, h2, h3⟩ := one_ok l hl p s 20 h0 (by omega) (by omega)
  unfold spec_l1Cur_shape.f
  rw [e1, Option.bind_some]
  cases b with
  | true =>
    obtain ⟨v, p2, s2, e2, hv, h4, h5⟩ := among_ok l hl [0, 8, 9] (by decide) (by decide) p1 s1 (by omega) (by omega)
    obtain ⟨u, p3, s3, e3, hu, h6, h7⟩ := among_ok l hl [0, 1, 6, 7] (by decide) (by decide) p2 s2 (by omega) (by omega)
    have hv2 : 0 ≤ v ∧ v ≤ 9 := by
      simp only [List.mem_cons, List.not_mem_nil, or_false] at hv; omega
    have hu2 : 0 ≤ u ∧ u ≤ 7 := by
      simp only [List.mem_cons, List.not_mem_nil, or_false] at hu; omega
    refine ⟨v.toNat, u.toNat, p3, s3, ?_, by omega, by omega, by omega, by omega⟩
    rw [if_pos rfl, e2, Option.bind_some]
    simp only
    rw [e3, Option.bind_some, Int.toNat_of_nonneg hv2.1, Int.toNat_of_nonneg hu2.1]
  | false =>
    obtain ⟨v, p2, s2, e2, h4, h5, h6, h7⟩ := pick_ok l hl p1 s1 4 (by omega) (by omega) (by omega)
    obtain ⟨u, p3, s3, e3, h8, h9, h10, h11⟩ := pick_ok l hl p2 s2 3 (by omega) (by omega) (by omega)
    refine ⟨(1 + v).toNat, (1 + u).toNat, p3, s3, ?_, by omega, by omega, by omega, by omega⟩
    rw [if_neg (by simp), e2, Option.bind_some]
    simp only
    rw [e3, Option.bind_some, v64 (by omega) (by omega), v64 (by omega) (by omega), Int.toNat_of_nonneg (by omega), Int.toNat_of_nonneg (by omega)]
theorem draw_ok (l : List Int) (hl : Bytes l) : ∃ (T : List (List UInt8)) (m : Nat), Ev (fun k => spec_DrawEncodeShards.f k l) (ts T, (m : Int)) ∧ T.length ≤ 9 ∧ m ≤ 7 := by
  obtain ⟨k, m, p1, s1, e1, hk, hm, h1, h2⟩ := shape_ok l hl 0 0 (by omega) (by omega)
  obtain ⟨T, p2, s2, e2, hT, _⟩ := data_ok l hl k (by omega) p1 s1 (by omega) (by omega)
  refine ⟨T, m, (Ev.bind (f := fun _ bt => some (bt.1, (m : Int))) e2 (Ev.now _)).congr fun r => ?_, by omega, hm⟩
  unfold spec_DrawEncodeShards.f
  rw [e1, Option.bind_some]
/-- The chosen shards. -/
def cPS (T : List (List UInt8)) (m : Nat) (I : List Nat) : PS := I.map fun (i : Nat) => ((i : Int), (enc m T).getD i [])
theorem cPS_len (T : List (List UInt8)) (m : Nat) (I : List Nat) : (cPS T m I).length = I.length := by simp [cPS]
theorem cPS_inc (T : List (List UInt8)) (m : Nat) (I : List Nat) (hp : I.Pairwise (· < ·)) (hlt : ∀ a ∈ I, a < T.length + m) : incr ((cPS T m I).map (·.1)) ((T.length : Int) + (m : Int)) = true := by
  have e : (cPS T m I).map (·.1) = I.map fun (i : Nat) => (i : Int) := by simp [cPS]
  rw [e]
  have hget : ∀ i (hi : i < I.length), (I.map fun (i : Nat) => (i : Int)).getD i 0 = (I[i] : Int) := fun i hi => by
    rw [List.getD_eq_getElem?_getD, List.getElem?_map, List.getElem?_eq_getElem hi]; rfl
  refine incr_of (fun i hi => ?_)
  rw [List.length_map] at hi
  have h1 := hlt _ (List.getElem_mem hi)
  rw [hget i hi]
  refine ⟨by omega, by omega, fun h0 => ?_⟩
  rw [hget (i - 1) (by omega)]
  have := List.pairwise_iff_getElem.mp hp (i - 1) i (by omega) hi (by omega)
  omega
theorem enc_getD (T : List (List UInt8)) (m : Nat) (i : Nat) (hi : i < T.length + m) : (enc m T).getD i [] = comb (hl T) T (rw T.length (gC T.length i)) := by
  rw [List.getD_eq_getElem?_getD, List.getElem?_eq_getElem (by rw [enc_len]; exact hi), Option.getD_some]
  unfold enc
  rw [List.getElem_map]
  have := codeG_getD T.length m i hi
  rw [List.getD_eq_getElem?_getD, List.getElem?_eq_getElem (by rw [codeG_len]; exact hi), Option.getD_some] at this
  rw [this]
theorem cPS_len2 (T : List (List UInt8)) (m : Nat) (he : eqT T = true) (I : List Nat) (hlt : ∀ a ∈ I, a < T.length + m) : ∀ t ∈ (cPS T m I).map (·.2), t.length = hl T := fun t ht => by
  obtain ⟨p, hp', rfl⟩ := List.mem_map.mp ht
  obtain ⟨i, hi, rfl⟩ := List.mem_map.mp hp'
  have := enc_getD T m i (hlt i hi)
  show ((enc m T).getD i []).length = _
  rw [this]
  exact comb_len (hl T) T _ (eqT_len he)
theorem cPS_eq (T : List (List UInt8)) (m : Nat) (he : eqT T = true) (I : List Nat) (hlt : ∀ a ∈ I, a < T.length + m) : eqT ((cPS T m I).map (·.2)) = true := eqT_of (eqT_le he) (cPS_len2 T m he I hlt)
section
variable (T : List (List UInt8)) (m : Nat) (hg : gsh (T.length : Int) (m : Int) = true) (he : eqT T = true) (I : List Nat) (hp : I.Pairwise (· < ·)) (hlt : ∀ a ∈ I, a < T.length + m) (hle : T.length ≤ I.length)
include hg he hp hlt hle
theorem back_ok : back T.length ((cPS T m I).take T.length) = T := by
  obtain ⟨g1, g2, g3, g4⟩ := gsh_of hg
  have hQl : ((cPS T m I).take T.length).length = T.length := by rw [List.length_take, cPS_len]; omega
  have hinc := cPS_inc T m I hp hlt
  obtain ⟨hr, hn⟩ := good_shards hinc
  have hr2 : ∀ p ∈ (cPS T m I).take T.length, 0 ≤ p.1 ∧ p.1 < ((T.length + m : Nat) : Int) := fun p h => by have := hr p (List.mem_of_mem_take h); omega
  have hn2 : (nos ((cPS T m I).take T.length)).Nodup := by
    unfold nos at hn ⊢
    rw [List.map_take]
    exact hn.sublist (List.take_sublist _ _)
  have hrk := mds T.length m (by omega) (nos ((cPS T m I).take T.length)) (by unfold nos; rw [List.length_map, hQl]) hn2 (fun i hi => by
    obtain ⟨p, h, rfl⟩ := List.mem_map.mp hi
    have := hr2 p h; omega)
  have hhl : hl (((cPS T m I).take T.length).map (·.2)) = hl T := by
    have hne : 0 < (((cPS T m I).take T.length).map (·.2)).length := by rw [List.length_map, hQl]; omega
    cases hh : ((cPS T m I).take T.length).map (·.2) with
    | nil => rw [hh] at hne; exact absurd hne (by simp)
    | cons t U =>
      show t.length = _
      have h2 : t ∈ ((cPS T m I).take T.length).map (·.2) := by rw [hh]; simp
      rw [List.map_take] at h2
      exact cPS_len2 T m he I hlt t (List.mem_of_mem_take h2)
  unfold back
  rw [hhl]
  refine ivs_back T.length (hl T) _ hrk T (eqT_len he) rfl _ ?_
  refine List.ext_getElem (by rw [List.length_map, hQl, List.length_map, mat_len]) (fun i h1 h2 => ?_)
  have hi : i < T.length := by rw [List.length_map, hQl] at h1; exact h1
  have hiI : i < I.length := by omega
  rw [List.getElem_map, List.getElem_map, mat_get, List.getElem_take]
  have hc : (cPS T m I)[i]'(by rw [cPS_len]; exact hiI) = ((I[i] : Int), (enc m T).getD I[i] []) := by simp [cPS]
  rw [hc]
  show (enc m T).getD I[i] [] = _
  rw [enc_getD T m I[i] (hlt _ (List.getElem_mem hiI))]
  congr 1
  refine List.map_congr_left fun j _ => ?_
  unfold cho nos
  rw [List.getD_eq_getElem?_getD, List.getElem?_map, List.getElem?_eq_getElem (by rw [hQl]; exact hi), List.getElem_take, hc]
  rfl
theorem decode_ok : Ev (fun r => impl_DecodeShards.f r (sh2 (cPS T m I)) (T.length : Int) (m : Int)) (ts T, true) := by
  obtain ⟨g1, g2, g3, g4⟩ := gsh_of hg
  have hIl : I.length ≤ 1000 := by
    have := nodup_sub I (List.range (T.length + m)) (by rw [List.nodup_iff_pairwise_ne]; exact hp.imp (fun h => by omega)) (fun a ha => List.mem_range.mpr (hlt a ha))
    rw [List.length_range] at this; omega
  have hinc := cPS_inc T m I hp hlt
  obtain ⟨hr, hn⟩ := good_shards hinc
  have hQl : ((cPS T m I).take T.length).length = T.length := by rw [List.length_take, cPS_len]; omega
  have h1 := areShards_ok (cPS T m I) ((T.length : Int) + (m : Int)) (by omega) (by omega) (by rw [cPS_len]; omega)
  rw [hinc, cPS_eq T m he I hlt] at h1
  have h2 := codeRows_i T.length m (by omega)
  have h3 := decoded_ok T.length m (by omega) (by omega) (by omega) ((cPS T m I).take T.length) hQl (fun p h => by have := hr p (List.mem_of_mem_take h); omega)
    (by unfold nos at hn ⊢; rw [List.map_take]; exact hn.sublist (List.take_sublist _ _)) (by rw [List.map_take]; exact eqT_of (eqT_le he) (fun t ht => cPS_len2 T m he I hlt t (List.mem_of_mem_take ht)))
  rw [back_ok T m hg he I hp hlt hle] at h3
  have hj : Ev (fun r => impl_DecodeShards.j0 r (sh2 (cPS T m I)) (T.length : Int) (m : Int) false) (ts T, true) := by
    refine Ev.step (fun r => ?_) (Ev.bind (f := fun r t => (impl_decoded.f r t (sh2 ((cPS T m I).take T.length))).bind fun u => some (u.1, u.2)) h2 (Ev.bind (f := fun _ u => some (u.1, u.2)) h3 (Ev.now _)))
    simp only [impl_DecodeShards.j0]
    rw [if_neg (by simp)]
    congr 1
    funext t
    rw [if_pos (by omega), if_pos (by rw [sh2_len, cPS_len]; omega), Int.toNat_natCast, show (sh2 (cPS T m I)).take T.length = sh2 ((cPS T m I).take T.length) by unfold sh2; rw [List.map_take]]
  refine (Ev.bind (f := fun r t => if t = true then impl_DecodeShards.j0 r (sh2 (cPS T m I)) (T.length : Int) (m : Int) (decide (((sh2 (cPS T m I)).length : Int) < (T.length : Int))) else impl_DecodeShards.j0 r (sh2 (cPS T m I)) (T.length : Int) (m : Int) true) h1 (hj.congr fun r => ?_)).congr fun r => ?_
  · rw [if_pos (by rfl), decide_eq_false (by rw [sh2_len, cPS_len]; omega)]
  · unfold impl_DecodeShards.f
    rw [shape_i, hg, Option.bind_some, if_pos rfl, v64 (by omega) (by omega)]
theorem check_ok : Ev (fun r => impl_CheckShards.f r (sh2 (cPS T m I)) (T.length : Int) (m : Int)) (true, true) := by
  obtain ⟨g1, g2, g3, g4⟩ := gsh_of hg
  have h1 := decode_ok T m hg he I hp hlt hle
  have h2 := codeRows_i T.length m (by omega)
  have h3 := combined_ok (codeG T.length m) T (hl T) (eqT_len he) (by have := eqT_le he; unfold hl; omega) (by omega) (by omega) (fun r hr => by rw [codeG_row hr]; exact Nat.le_refl _) (by rw [codeG_len]; omega)
  have hin : ∀ x ∈ sh2 (cPS T m I), 0 ≤ x.f0 ∧ x.f0 < ((ts (enc m T)).length : Int) := fun x hx => by
    obtain ⟨p, h4, rfl⟩ := List.mem_map.mp hx
    obtain ⟨i, hi, rfl⟩ := List.mem_map.mp h4
    have := hlt i hi
    rw [ts_len, enc_len]
    show 0 ≤ (i : Int) ∧ (i : Int) < _
    omega
  have hany : (sh2 (cPS T m I)).any (chkP (ts (enc m T))) = false := by
    rw [List.any_eq_false]
    intro x hx
    obtain ⟨p, h4, rfl⟩ := List.mem_map.mp hx
    obtain ⟨i, hi, rfl⟩ := List.mem_map.mp h4
    have hi2 : i < (enc m T).length := by rw [enc_len]; exact hlt i hi
    unfold chkP
    show ¬ (!((str ((enc m T).getD i [])).toList == (rdOf ByteArray.empty (ts (enc m T)) (i : Int)).toList)) = true
    rw [rd_ts _ i hi2, List.getD_eq_getElem?_getD, List.getElem?_eq_getElem hi2]
    simp
  refine (Ev.bind (f := fun r t => if t.2 = true then (impl_codeRows.f r (T.length : Int) (m : Int)).bind fun rows => (impl_combined.f r rows t.1).bind fun all => if ∀ x ∈ sh2 (cPS T m I), 0 ≤ x.f0 ∧ x.f0 < (all.length : Int) then some (!(sh2 (cPS T m I)).any (chkP all), true) else none else some (false, false)) h1
    ((Ev.bind (f := fun r rows => (impl_combined.f r rows (ts T)).bind fun all => if ∀ x ∈ sh2 (cPS T m I), 0 ≤ x.f0 ∧ x.f0 < (all.length : Int) then some (!(sh2 (cPS T m I)).any (chkP all), true) else none) h2
      (Ev.bind (f := fun _ all => if ∀ x ∈ sh2 (cPS T m I), 0 ≤ x.f0 ∧ x.f0 < (all.length : Int) then some (!(sh2 (cPS T m I)).any (chkP all), true) else none) h3 ((Ev.now _).congr fun r => ?_))).congr fun r => by rw [if_pos rfl])).congr fun r => by unfold impl_CheckShards.f; rfl
  show (if ∀ x ∈ sh2 (cPS T m I), 0 ≤ x.f0 ∧ x.f0 < ((ts (enc m T)).length : Int) then some (!(sh2 (cPS T m I)).any (chkP (ts (enc m T))), true) else none) = some (true, true)
  rw [if_pos hin, hany]; rfl
theorem end_ok (hx : (num (enc m T)).length = T.length + m) : ∀ (d i : Nat) (acc : PS), d + i = I.length → acc.length = i → acc ++ (cPS T m I).drop i = cPS T m I →
    Ev (fun r => laws_FnAnyFew.l0 r (ts T) (m : Int) (sh2 (num (enc m T))) (T.length : Int) (sh2 acc) (I.map Int.ofNat) (I.length : Int) (i : Int)) true
  | 0, i, acc, h, ha, e => by
    obtain ⟨g1, g2, g3, g4⟩ := gsh_of hg
    rw [List.drop_eq_nil_of_le (by rw [cPS_len]; omega), List.append_nil] at e
    have h1 := decode_ok T m hg he I hp hlt hle
    have h2 := check_ok T m hg he I hp hlt hle
    have h3 : Ev (fun r => impl_CodeMatrix.f r (T.length : Int) (m : Int)) (lr (codeG T.length m), true) := by
      refine (Ev.bind (f := fun _ t => some (t, true)) (codeRows_i T.length m (by omega)) (Ev.now _)).congr fun r => ?_
      unfold impl_CodeMatrix.f
      rw [shape_i, hg, Option.bind_some, if_pos rfl]
    have h4 : Ev (fun r => spec_CodeMatrix.f r (T.length : Int) (m : Int)) (lr (codeG T.length m), true) := by
      refine (Ev.bind (f := fun _ t => some (t, true)) (matrix_s T.length m (by omega)) (Ev.now _)).congr fun r => ?_
      unfold spec_CodeMatrix.f
      rw [shape_s, hg, Option.bind_some, if_pos rfl]
    have h5 := sameTexts_ok (ts T) (by rw [ts_len]; omega)
    have h6 := sameMatrices_ok (lr (codeG T.length m)) (by rw [lr_len, codeG_len]; omega)
    obtain ⟨K1, h1⟩ := h1
    obtain ⟨K2, h2⟩ := h2
    obtain ⟨K3, h3⟩ := h3
    obtain ⟨K4, h4⟩ := h4
    obtain ⟨K5, h5⟩ := h5
    obtain ⟨K6, h6⟩ := h6
    dsimp only at h1 h2 h3 h4 h5 h6
    refine ⟨K1 + K2 + K3 + K4 + K5 + K6 + 1, fun k hk => ?_⟩
    obtain ⟨r, rfl⟩ : ∃ r, k = r + 1 := ⟨k - 1, by omega⟩
    simp only [laws_FnAnyFew.l0]
    rw [if_neg (by omega), e, h1 r (by omega), Option.bind_some, h2 r (by omega), Option.bind_some, h3 r (by omega), Option.bind_some, h4 r (by omega), Option.bind_some]
    simp only [if_true]
    rw [h5 r (by omega), Option.bind_some, h6 r (by omega)]
    simp only [if_true, Option.bind_some]
    rw [shape_i, hg, v64 (by omega) (by omega), sh2_len, hx]
    simp only [if_true, Option.bind_some]
    congr 1
    rw [beq_iff_eq]; omega
  | d + 1, i, acc, h, ha, e => by
    obtain ⟨g1, g2, g3, g4⟩ := gsh_of hg
    have hi : i < (cPS T m I).length := by rw [cPS_len]; omega
    have hiI : i < I.length := by omega
    have hl := hlt _ (List.getElem_mem hiI)
    have hIl : I.length ≤ 1000 := by
      have := nodup_sub I (List.range (T.length + m)) (by rw [List.nodup_iff_pairwise_ne]; exact hp.imp (fun h => by omega)) (fun a ha => List.mem_range.mpr (hlt a ha))
      rw [List.length_range] at this; omega
    rw [List.drop_eq_getElem_cons hi] at e
    have hc : (cPS T m I)[i] = ((I[i] : Int), (enc m T).getD I[i] []) := by simp [cPS]
    have ih := end_ok hx d (i + 1) (acc ++ [(cPS T m I)[i]]) (by omega) (by simp [ha]) (by rw [List.append_assoc]; exact e)
    refine Ev.step (fun r => ?_) ih
    have e1 : rd (I.map Int.ofNat) (i : Int) = (I[i] : Int) := by
      show (I.map Int.ofNat).getD i 0 = _
      rw [List.getD_eq_getElem?_getD, List.getElem?_map, List.getElem?_eq_getElem hiI]; rfl
    have e2 : rd_T53 (sh2 (num (enc m T))) (I[i] : Int) = ⟨(I[i] : Int), str ((enc m T).getD I[i] [])⟩ := by
      rw [rd_sh2 _ I[i] (by rw [hx]; exact hl), num_get, List.getD_eq_getElem?_getD, List.getElem?_eq_getElem (by rw [enc_len]; exact hl)]; rfl
    simp only [laws_FnAnyFew.l0]
    rw [if_pos (by omega), if_pos (by omega), if_pos (by rw [List.length_map]; omega), e1, if_pos (by omega), if_pos (by rw [sh2_len, hx]; omega), if_pos (by rw [sh2_len]; omega), e2, v64 (by omega) (by omega), sh2_app, hc]; rfl
end
theorem FnAnyFew : laws_FnAnyFew.Pure := by
  intro l0 l1 _ _ hw0 _ _ hw1
  refine Ev.rounds ?_
  by_cases hbig : (wrap64 ((l0.length : Int) + (l1.length : Int))) > 1048576
  · exact (Ev.now true).congr fun k => by unfold laws_FnAnyFew.f; rw [if_pos hbig]
  obtain ⟨T, m, hd, hT, hm⟩ := draw_ok l0 (Bytes.of hw0)
  have h1 := encode_i T m (by omega) (by omega)
  have h2 := encode_s T m (by omega) (by omega)
  have hrest : Ev (fun k => (impl_EncodeShards.f k (ts T) (m : Int)).bind fun b1 => (spec_EncodeShards.f k (ts T) (m : Int)).bind fun b2 => if (b1.2 != b2.2) = true then laws_FnAnyFew.j0 k l1 (ts T) (m : Int) b1.1 b1.2 true else (laws_sameShards.f k b1.1 b2.1).bind fun t => laws_FnAnyFew.j0 k l1 (ts T) (m : Int) b1.1 b1.2 (!t)) true := by
    cases hc : (gsh (T.length : Int) (m : Int) && eqT T) with
    | false =>
      rw [hc, if_neg (by simp)] at h1 h2
      obtain ⟨K1, h1⟩ := h1
      obtain ⟨K2, h2⟩ := h2
      obtain ⟨K3, h3⟩ := sameShards_ok [] (by simp)
      dsimp only at h1 h2 h3
      refine ⟨K1 + K2 + K3 + 1, fun k hk => ?_⟩
      obtain ⟨r, rfl⟩ : ∃ r, k = r + 1 := ⟨k - 1, by omega⟩
      dsimp only
      rw [h1 (r + 1) (by omega), Option.bind_some, h2 (r + 1) (by omega), Option.bind_some, if_neg (by simp), h3 (r + 1) (by omega), Option.bind_some]
      simp only [laws_FnAnyFew.j0]
      simp
    | true =>
      rw [hc, if_pos rfl] at h1 h2
      obtain ⟨hg, he⟩ := Bool.and_eq_true_iff.mp hc
      obtain ⟨g1, g2, g3, g4⟩ := gsh_of hg
      obtain ⟨I, hI, hp, hlt, hle, hIn⟩ := someOf_ok (T.length + m) T.length (by omega) (by omega) l1
      have hnum : (num (enc m T)).length = T.length + m := by rw [num_len, enc_len]
      obtain ⟨K4, h4⟩ := hI
      obtain ⟨K5, h5⟩ := end_ok T m hg he I hp hlt hle hnum I.length 0 [] (by omega) rfl (by simp)
      obtain ⟨K1, h1⟩ := h1
      obtain ⟨K2, h2⟩ := h2
      obtain ⟨K3, h3⟩ := sameShards_ok (sh2 (num (enc m T))) (by rw [sh2_len, hnum]; omega)
      dsimp only at h1 h2 h3 h4 h5
      refine ⟨K1 + K2 + K3 + K4 + K5 + 1, fun k hk => ?_⟩
      obtain ⟨r, rfl⟩ : ∃ r, k = r + 1 := ⟨k - 1, by omega⟩
      dsimp only
      rw [h1 (r + 1) (by omega), Option.bind_some, h2 (r + 1) (by omega), Option.bind_some, if_neg (by simp), h3 (r + 1) (by omega), Option.bind_some]
      simp only [laws_FnAnyFew.j0]
      have e : wrap64 (((ts T).length : Int) + (m : Int)) = ((T.length + m : Nat) : Int) := by rw [ts_len, v64 (by omega) (by omega)]; rfl
      have h6 := h4 r (by omega)
      have h7 := h5 r (by omega)
      rw [if_neg (by simp), if_pos trivial, e, ts_len, h6, Option.bind_some, List.length_map]
      exact h7
  refine (Ev.bind (f := fun k bt => (impl_EncodeShards.f k bt.1 bt.2).bind fun b1 => (spec_EncodeShards.f k bt.1 bt.2).bind fun b2 => if (b1.2 != b2.2) = true then laws_FnAnyFew.j0 k l1 bt.1 bt.2 b1.1 b1.2 true else (laws_sameShards.f k b1.1 b2.1).bind fun t => laws_FnAnyFew.j0 k l1 bt.1 bt.2 b1.1 b1.2 (!t)) hd hrest).congr fun k => ?_
  unfold laws_FnAnyFew.f
  rw [if_neg hbig]
end Go.Proofs.Ytgdjjghdjpaofaa.PureFnAnyFew
namespace Go.Proofs.Ytgdjjghdjpaofaa.Pure
theorem FnAnyFew : PFnAnyFew.laws_FnAnyFew.Pure := PureFnAnyFew.FnAnyFew
end Go.Proofs.Ytgdjjghdjpaofaa.Pure

/-
  The program's elimination over the field of 256 elements computes the plain one (LA.elm), and its inverse of a square matrix the plain one (LA.ivs), where the rank is full. No conditions beyond those that each lemma names.
-/
import Derived.Test.YtgdjjghdjpaofaaMatGFnAnyFew
import Derived.Test.YtgdjjghdjpaofaaLAFnAnyFew
namespace Go.Proofs.Ytgdjjghdjpaofaa.PureFnAnyFew
open Go.RowKit Go.Proofs.Ytgdjjghdjpaofaa.PFnAnyFew Go.Proofs.YtgdjjghdjpaofaaW.PrintWords Go.Proofs.YtgdjjghdjpaofaaW.PrintLast Go.Proofs.YtgdjjghdjpaofaaW.PrintMore Go.Proofs.Ytgdjjghdjpaofaa.GF Go.Proofs.Ytgdjjghdjpaofaa.LA
set_option linter.unusedVariables false
set_option linter.unusedSimpArgs false

def rw (N : Nat) (g : Nat → UInt8) : List UInt8 := (List.range N).map g
theorem rw_len (N : Nat) (g : Nat → UInt8) : (rw N g).length = N := by simp [rw]
theorem rw_get (N : Nat) (g : Nat → UInt8) (i : Nat) (h : i < (rw N g).length) : (rw N g)[i] = g i := by simp [rw]
theorem rw_map (N : Nat) (g : Nat → UInt8) (f : UInt8 → UInt8) : (rw N g).map f = rw N (fun j => f (g j)) := by simp [rw]
theorem rw_av (N : Nat) (g h : Nat → UInt8) : av (rw N g) (rw N h) = rw N (fun j => g j ^^^ h j) := by
  refine List.ext_getElem (by simp [av, rw]) (fun i h1 h2 => ?_)
  simp [av, rw]
theorem rd_rw (N : Nat) (g : Nat → UInt8) (c : Nat) (h : c < N) : rd (li (rw N g)) (c : Int) = ib (g c) := by rw [rd_li _ c (by rw [rw_len]; exact h), rw_get]
theorem lr_getD (L : List (List UInt8)) (i : Nat) : (lr L).getD i [] = li (L.getD i []) := by
  rw [List.getD_eq_getElem?_getD, List.getD_eq_getElem?_getD]
  unfold lr
  rw [List.getElem?_map]
  cases L[i]? <;> rfl
theorem mat_getD {R N : Nat} {M : Mat} {i : Nat} (h : i < R) : (mat R N M).getD i [] = rw N (M i) := by
  rw [List.getD_eq_getElem?_getD, List.getElem?_eq_getElem (by rw [mat_len]; exact h), Option.getD_some, mat_get]; rfl
theorem mat_put (R N : Nat) (M : Mat) (i : Nat) (g : Nat → UInt8) : (mat R N M).set i (rw N g) = mat R N (fun r => if r = i then g else M r) := by
  refine List.ext_getElem (by simp [mat]) (fun r h1 h2 => ?_)
  rw [mat_get, List.getElem_set]
  by_cases e : i = r
  · subst e; rw [if_pos rfl, if_pos rfl]; rfl
  · rw [if_neg e, mat_get, if_neg (Ne.symm e)]
theorem mat_drop {R N : Nat} {M : Mat} {a : Nat} (h : a < R) : (lr (mat R N M)).drop a = li (rw N (M a)) :: (lr (mat R N M)).drop (a + 1) := by
  have hl : a < (lr (mat R N M)).length := by rw [lr_len, mat_len]; exact h
  rw [List.drop_eq_getElem_cons hl]
  congr 1
  simp [lr, mat, rw]
theorem ib_ne (a : UInt8) : (ib a != 0) = (a != 0) := by
  rw [Bool.eq_iff_iff, bne_iff_ne, bne_iff_ne]
  exact not_congr ⟨fun h => ib_inj (b := 0) h, fun h => by rw [h]; rfl⟩
theorem drop_find (R N : Nat) (M : Mat) (c : Nat) (hc : c < N) : ∀ d a, d + a = R → ((lr (mat R N M)).drop a).findIdx? (fun r => rd r (c : Int) != 0) = (fnd M c d a).map (fun i => i - a)
  | 0, a, h => by
    rw [List.drop_eq_nil_of_le (by rw [lr_len, mat_len]; omega)]; rfl
  | d + 1, a, h => by
    rw [mat_drop (by omega), List.findIdx?_cons, rd_rw N _ c hc, ib_ne, drop_find R N M c hc d (a + 1) (by omega)]
    simp only [fnd]
    by_cases e : M a c = 0
    · rw [if_neg (by simp [e]), if_neg (by simp [e])]
      cases hf : fnd M c d (a + 1) with
      | none => rfl
      | some i =>
        have := (fnd_some _ _ hf).1
        simp only [Option.map_some]
        congr 1
        omega
    · rw [if_pos (by simpa using e), if_pos e]
      simp
theorem adr_zero (M : Mat) (r a : Nat) : adr M r a 0 = M := by
  funext i j
  unfold adr
  by_cases h : i = r
  · subst h; rw [if_pos rfl, zero_gm, x0]
  · rw [if_neg h]
theorem elim_l1 (R N n c a : Nat) (M : Mat) (hR : R ≤ 1000) (hN : N ≤ 1000) (hc : c < N) (ha : a < R) (res : List (List Int) × Nat) (next : Ev (fun k => impl_eliminate.l0 k N n (lr (mat R N (clr a c R M))) (c + 1) (a + 1)) res) :
    ∀ d r, d + r = R → Ev (fun k => impl_eliminate.l1 k N n (lr (mat R N (clr a c r M))) c a r) res
  | 0, r, h => by
    obtain rfl : r = R := by omega
    refine Ev.step (fun k => ?_) next
    simp only [impl_eliminate.l1]
    rw [if_neg (by rw [lr_len, mat_len]; omega)]
  | d + 1, r, h => by
    have ih := elim_l1 R N n c a M hR hN hc ha res next d (r + 1) (by omega)
    have hr : r < R := by omega
    have e1 : rd ((lr (mat R N (clr a c r M))).getD r []) (c : Int) = ib (clr a c r M r c) := by rw [lr_getD, mat_getD hr, rd_rw N _ c hc]
    by_cases hra : r = a
    · simp only [clr, if_pos hra] at ih
      refine Ev.step (fun k => ?_) ih
      simp only [impl_eliminate.l1]
      rw [if_pos (by rw [lr_len, mat_len]; exact hr), if_neg (fun h => h.1 hra)]
    · simp only [clr, if_neg hra] at ih
      generalize clr a c r M = M1 at ih e1 ⊢
      by_cases hz : M1 r c = 0
      · rw [hz, adr_zero] at ih
        refine Ev.step (fun k => ?_) ih
        simp only [impl_eliminate.l1]
        rw [if_pos (by rw [lr_len, mat_len]; exact hr), if_neg (fun h => h.2 (by rw [e1, hz]; rfl))]
      · have e2 : adr M1 r a (M1 r c) = fun q => if q = r then (fun j => M1 r j ^^^ gm (M1 r c) (M1 a j)) else M1 q := by
          funext q j
          unfold adr
          by_cases hq : q = r
          · rw [if_pos hq, if_pos hq]
          · rw [if_neg hq, if_neg hq]
        rw [e2, ← mat_put] at ih
        have s1 := scaled_ok (M1 r c) (rw N (M1 a)) (by rw [rw_len]; omega)
        rw [rw_map] at s1
        have s2 := added_ok (rw N (M1 r)) (rw N (fun j => gm (M1 r c) (M1 a j))) (by rw [rw_len, rw_len]) (by rw [rw_len]; omega)
        rw [rw_av] at s2
        refine Ev.step (fun k => ?_) (Ev.bind (f := fun k s => (impl_added.f k (li (rw N (M1 r))) s).bind fun y => if y.length = N then impl_eliminate.l1 k N n ((lr (mat R N M1)).set r y) c a (r + 1) else none) s1
          (Ev.bind (f := fun k y => if y.length = N then impl_eliminate.l1 k N n ((lr (mat R N M1)).set r y) c a (r + 1) else none) s2 (ih.congr fun k => by rw [if_pos (by rw [li_len, rw_len]), lr_set])))
        simp only [impl_eliminate.l1]
        rw [if_pos (by rw [lr_len, mat_len]; exact hr), if_pos ⟨hra, by rw [e1]; intro h; exact hz (ib_inj (b := 0) h)⟩, e1, lr_getD, mat_getD ha, lr_getD, mat_getD hr]
theorem piv_put (R N : Nat) (M : Mat) (a q : Nat) (s : UInt8) : (((mat R N M).set a (rw N (M q))).set q (rw N (M a))).set a (rw N (fun j => gm s (M q j))) = mat R N (scl (swp M a q) a s) := by
  rw [mat_put, mat_put, mat_put]
  congr 1
  funext r j
  unfold scl swp
  by_cases h1 : r = a
  · simp [h1]
  · by_cases h2 : r = q
    · subst h2; simp [h1]
    · simp [h1, h2]
theorem elm_stop (R : Nat) (M0 : Mat) (c : Nat) (h : (elm R c M0).2 = R) : ∀ d, elm R (c + d) M0 = elm R c M0
  | 0 => rfl
  | d + 1 => by
    show stp R (c + d) (elm R (c + d) M0) = _
    rw [elm_stop R M0 c h d]
    unfold stp
    rw [h, Nat.sub_self]; rfl
theorem elim_l0 (R N n : Nat) (M0 : Mat) (hR : R ≤ 1000) (hN : N ≤ 1000) (hn : n ≤ N) : ∀ d c, d + c = n →
    Ev (fun k => impl_eliminate.l0 k N n (lr (mat R N (elm R c M0).1)) c (elm R c M0).2) (lr (mat R N (elm R n M0).1), (elm R n M0).2)
  | 0, c, h => by
    obtain rfl : c = n := by omega
    exact Ev.step (f := fun _ => some (lr (mat R N (elm R c M0).1), (elm R c M0).2)) (fun k => by simp only [impl_eliminate.l0]; rw [if_neg (by omega)]) (Ev.now _)
  | d + 1, c, h => by
    have ih := elim_l0 R N n M0 hR hN hn d (c + 1) (by omega)
    have leR := (after_elm R N M0 c (by omega)).leR
    by_cases hs : (elm R c M0).2 = R
    · have e := elm_stop R M0 c hs (d + 1)
      rw [show c + (d + 1) = n by omega] at e
      rw [e]
      exact Ev.step (f := fun _ => some (lr (mat R N (elm R c M0).1), (elm R c M0).2)) (fun k => by simp only [impl_eliminate.l0]; rw [if_neg (by rw [lr_len, mat_len]; omega)]) (Ev.now _)
    · simp only [elm, stp] at ih
      generalize elm R n M0 = res at ih ⊢
      generalize elm R c M0 = s at ih leR hs ⊢
      obtain ⟨M, a⟩ := s
      dsimp only at ih leR hs ⊢
      have haR : a < R := by omega
      have hd := drop_find R N M c (by omega) (R - a) a (by omega)
      cases hf : fnd M c (R - a) a with
      | none =>
        rw [hf] at ih hd
        refine Ev.step (fun k => ?_) ih
        simp only [impl_eliminate.l0]
        rw [if_pos ⟨by omega, by rw [lr_len, mat_len]; exact haR⟩, hd]
        rfl
      | some q =>
        rw [hf] at ih hd
        dsimp only at ih
        obtain ⟨g1, g2, g3⟩ := fnd_some _ _ hf
        have hq : a + (q - a) = q := by omega
        have s1 := inverse_i (M q c)
        have s2 := scaled_ok (inv (M q c)) (rw N (M q)) (by rw [rw_len]; omega)
        rw [rw_map] at s2
        have h1 := elim_l1 R N n c a (scl (swp M a q) a (inv (M q c))) hR hN (by omega) haR _ ih R 0 (by omega)
        refine Ev.step (fun k => ?_) (Ev.bind (f := fun k t => (impl_scaled.f k t (li (rw N (M q)))).bind fun y => if y.length = N then impl_eliminate.l1 k N n ((((lr (mat R N M)).set a (li (rw N (M q)))).set q (li (rw N (M a)))).set a y) c a 0 else none) s1
          (Ev.bind (f := fun k y => if y.length = N then impl_eliminate.l1 k N n ((((lr (mat R N M)).set a (li (rw N (M q)))).set q (li (rw N (M a)))).set a y) c a 0 else none) s2 (h1.congr fun k => ?_)))
        · simp only [impl_eliminate.l0]
          rw [if_pos ⟨by omega, by rw [lr_len, mat_len]; exact haR⟩, hd]
          simp only [Option.map_some]
          rw [hq, lr_getD, mat_getD (by omega), rd_rw N _ c (by omega), lr_getD, mat_getD haR]
        · rw [if_pos (by rw [li_len, rw_len]), lr_set, lr_set, lr_set, piv_put]; rfl
theorem eliminate_ok (R N n : Nat) (M : Mat) (hR : R ≤ 1000) (hR0 : 0 < R) (hN : N ≤ 1000) (hn : n ≤ N) :
    Ev (fun k => impl_eliminate.f k (lr (mat R N M)) (n : Int)) (lr (mat R N (elm R n M).1), ((elm R n M).2 : Int)) := by
  have hd := mat_drop (R := R) (N := N) (M := M) (a := 0) hR0
  rw [List.drop_zero] at hd
  have hh : (lr (mat R N M)).headD [] = li (rw N (M 0)) := by rw [hd]; rfl
  refine (Ev.bind (f := fun _ p => some (p.1, (p.2 : Int))) (elim_l0 R N n M hR hN hn n 0 (by omega)) (Ev.now _)).congr fun k => ?_
  unfold impl_eliminate.f
  rw [hh, li_len, rw_len, Int.toNat_natCast, if_pos ⟨by omega, by omega, by omega, by rw [lr_len, mat_len]; exact hR0, fun x hx => by obtain ⟨y, hy, rfl⟩ := List.mem_map.mp hx; rw [li_len]; exact mat_row hy⟩]
  show _ = (impl_eliminate.l0 k N n (lr (mat R N M)) 0 0).bind _
  cases impl_eliminate.l0 k N n (lr (mat R N M)) 0 0 <;> rfl

/-! ### the inverse -/
theorem clone_ok (l : List UInt8) (h : l.length ≤ 1000000) : slices_Clone_byte_byte.f (li l) = some (li l) := by
  unfold slices_Clone_byte_byte.f; rw [if_pos (by rw [li_len]; omega)]
theorem rw_cat (n : Nat) (f g : Nat → UInt8) : rw n f ++ rw n g = rw (n + n) (fun j => if j < n then f j else g (j - n)) := by
  refine List.ext_getElem (by simp [rw]) (fun i h1 h2 => ?_)
  rw [rw_get, List.getElem_append]
  by_cases h : i < n
  · rw [dif_pos (by rw [rw_len]; exact h), rw_get, if_pos h]
  · rw [dif_neg (by rw [rw_len]; exact h), rw_get, if_neg h, rw_len]
theorem rw_drop (n : Nat) (f : Nat → UInt8) : (rw (n + n) f).drop n = rw n (fun j => f (n + j)) := by
  refine List.ext_getElem (by simp [rw]) (fun i h1 h2 => ?_)
  rw [List.getElem_drop, rw_get, rw_get]
section
variable (n : Nat) (A : Mat)
theorem inv_l1 (hn : n ≤ 100) (M : Mat) : ∀ d i (outs : List (List UInt8)), d + i = n → outs.length = i →
    Ev (fun k => impl_inverseOf.l1 k (n : Int) (lr outs) (lr (mat n (n + n) M)) (n : Int) (i : Int)) (lr (outs ++ (mat n n (fun i j => M i (n + j))).drop i), true)
  | 0, i, outs, h, _ => by
    rw [List.drop_eq_nil_of_le (by rw [mat_len]; omega), List.append_nil]
    exact Ev.step (f := fun _ => some (lr outs, true)) (fun k => by simp only [impl_inverseOf.l1]; rw [if_neg (by omega)]) (Ev.now _)
  | d + 1, i, outs, h, ho => by
    have hi : i < (mat n n (fun i j => M i (n + j))).length := by rw [mat_len]; omega
    have hi2 : i < (mat n (n + n) M).length := by rw [mat_len]; omega
    have ih := inv_l1 hn M d (i + 1) (outs ++ [rw n (fun j => M i (n + j))]) (by omega) (by simp [ho])
    rw [List.append_assoc] at ih
    rw [List.drop_eq_getElem_cons hi, mat_get]
    refine Ev.step (fun k => ?_) ih
    simp only [impl_inverseOf.l1]
    have e : li (rw (n + n) (M i)) = rd_L1 (lr (mat n (n + n) M)) (i : Int) := by rw [rd_lr _ i hi2, mat_get]; rfl
    have e2 : (li (rw (n + n) (M i))).drop ((n : Int).toNat) = li (rw n (fun j => M i (n + j))) := by
      rw [Int.toNat_natCast, ← rw_drop]; unfold li; rw [List.map_drop]
    rw [if_pos (by omega), if_pos (by omega), if_pos (by rw [lr_len, mat_len]; omega), if_pos (by omega), ← e, if_pos (by rw [li_len, rw_len]; omega), e2, clone_ok _ (by rw [rw_len]; omega), Option.bind_some, if_pos (by rw [lr_len]; omega), v64 (by omega) (by omega), lr_app]
    rfl
theorem inv_l0 (hn : n ≤ 100) (hn0 : 0 < n) (res : List (List Int) × Bool) (next : Ev (fun k => (impl_eliminate.f k (lr (mat n (n + n) (aug n A))) (n : Int)).bind fun t => if t.2 < (n : Int) then some (([] : List (List Int)), false) else impl_inverseOf.l1 k (n : Int) ([] : List (List Int)) t.1 (t.1.length : Int) 0) res) :
    ∀ d i (acc : List (List UInt8)), d + i = n → acc.length = i → acc ++ (mat n (n + n) (aug n A)).drop i = mat n (n + n) (aug n A) →
    Ev (fun k => impl_inverseOf.l0 k (lr (mat n n A)) (n : Int) (lr acc) (lr (mat n n idm)) (n : Int) (i : Int)) res
  | 0, i, acc, h, ha, e => by
    rw [List.drop_eq_nil_of_le (by rw [mat_len]; omega), List.append_nil] at e
    refine Ev.step (fun k => ?_) next
    simp only [impl_inverseOf.l0]
    rw [if_neg (by omega), e]
  | d + 1, i, acc, h, ha, e => by
    have hi : i < (mat n (n + n) (aug n A)).length := by rw [mat_len]; omega
    have hi2 : i < (mat n n A).length := by rw [mat_len]; omega
    have hi3 : i < (mat n n idm).length := by rw [mat_len]; omega
    rw [List.drop_eq_getElem_cons hi, mat_get] at e
    have er : rw n (A i) ++ rw n (idm i) = (List.range (n + n)).map (aug n A i) := by
      rw [rw_cat]
      refine List.map_congr_left fun j _ => ?_
      unfold aug idm
      by_cases hj : j < n
      · rw [if_pos hj, if_pos hj]
      · rw [if_neg hj, if_neg hj]
        by_cases h2 : i = j - n
        · rw [if_pos h2, if_pos h2.symm]
        · rw [if_neg h2, if_neg (Ne.symm h2)]
    have ih := inv_l0 hn hn0 res next d (i + 1) (acc ++ [(List.range (n + n)).map (aug n A i)]) (by omega) (by simp [ha]) (by rw [List.append_assoc]; exact e)
    refine Ev.step (fun k => ?_) ih
    simp only [impl_inverseOf.l0]
    rw [if_pos (by omega), if_pos (by omega), if_pos (by rw [lr_len, mat_len]; omega), if_pos (by rw [lr_len, mat_len]; omega), rd_lr _ i hi2, mat_get, show ((List.range n).map (A i)) = rw n (A i) from rfl, clone_ok _ (by rw [rw_len]; omega), Option.bind_some, rd_lr _ i hi3, mat_get, show ((List.range n).map (idm i)) = rw n (idm i) from rfl, if_pos (by rw [li_len, li_len, rw_len, rw_len]; omega), if_pos (by rw [lr_len]; omega), v64 (by omega) (by omega), ← li_app, er, lr_app]
    rfl
/-- The program's inverse: the plain one where the rank is full, none elsewhere. -/
theorem inverseOf_ok (hn : n ≤ 100) (hn0 : 0 < n) : Ev (fun k => impl_inverseOf.f k (lr (mat n n A))) (if rnk n n A = n then (lr (mat n n (ivs n A)), true) else ([], false)) := by
  have he := eliminate_ok n (n + n) n (aug n A) (by omega) hn0 (by omega) (by omega)
  rw [rnk_aug] at he
  have h2 : Ev (fun k => (impl_eliminate.f k (lr (mat n (n + n) (aug n A))) (n : Int)).bind fun t => if t.2 < (n : Int) then some (([] : List (List Int)), false) else impl_inverseOf.l1 k (n : Int) ([] : List (List Int)) t.1 (t.1.length : Int) 0) (if rnk n n A = n then (lr (mat n n (ivs n A)), true) else ([], false)) := by
    refine Ev.bind (f := fun k t => if t.2 < (n : Int) then some (([] : List (List Int)), false) else impl_inverseOf.l1 k (n : Int) ([] : List (List Int)) t.1 (t.1.length : Int) 0) he ?_
    have hle := (rnk_le n n A).1
    by_cases h : rnk n n A = n
    · rw [if_pos h]
      have h3 := inv_l1 n hn (elm n n (aug n A)).1 n 0 [] (by omega) rfl
      rw [List.drop_zero] at h3
      exact h3.congr fun k => by rw [if_neg (by rw [h]; omega), lr_len, mat_len]; rfl
    · rw [if_neg h]
      exact (Ev.now _).congr fun k => by rw [if_pos (by show ((rnk n n A : Nat) : Int) < (n : Int); omega)]
  have h4 := inv_l0 n A hn hn0 _ h2 n 0 [] (by omega) rfl (by simp)
  refine (Ev.bind (f := fun k t => impl_inverseOf.l0 k (lr (mat n n A)) ((lr (mat n n A)).length : Int) ([] : List (List Int)) t (t.length : Int) 0) (identity_i n (by omega)) (h4.congr fun k => ?_)).congr fun k => ?_
  · rw [lr_len, lr_len, mat_len, mat_len]; rfl
  · unfold impl_inverseOf.f
    rw [lr_len, mat_len]
end
end Go.Proofs.Ytgdjjghdjpaofaa.PureFnAnyFew

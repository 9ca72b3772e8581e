/-
  Draws of bytes, texts and lists of texts: each exists, and how long it is. No conditions beyond those that each lemma names.
-/
import Derived.Test.YtgdjjghdjpaofaaCurFnAnyFew
import Derived.Test.YtgdjjghdjpaofaaGMFnAnyFew
namespace Go.Proofs.Ytgdjjghdjpaofaa.PureFnAnyFew
open Go.RowKit Go.Proofs.Ytgdjjghdjpaofaa.PFnAnyFew Go.Proofs.YtgdjjghdjpaofaaW.PrintWords Go.Proofs.YtgdjjghdjpaofaaW.PrintLast Go.Proofs.YtgdjjghdjpaofaaW.PrintMore Go.Proofs.Ytgdjjghdjpaofaa.GF
set_option linter.unusedVariables false
set_option linter.unusedSimpArgs false

theorem ib_of (x : Int) : ∃ a : UInt8, x % 256 = ib a := by
  refine ⟨UInt8.ofNat (x % 256).toNat, ?_⟩
  unfold ib
  rw [UInt8.toNat_ofNat_of_lt' (by have := Int.emod_lt_of_pos x (show (0 : Int) < 256 by decide); show (x % 256).toNat < 256; omega)]
  have := Int.emod_nonneg x (show (256 : Int) ≠ 0 by decide)
  omega
section
variable (l : List Int) (hl : Bytes l)
include hl
theorem one_ok (p s n : Int) (h0 : 0 ≤ p) (h1 : p ≤ 1000000) (hn : n ≤ 60000) : ∃ b p' s', spec_l1Cur_one.f l p s n = some (b, p', s') ∧ p ≤ p' ∧ p' ≤ p + 2 := by
  obtain ⟨v, p', s', h, _, _, h4, h5⟩ := pick_ok l hl p s n h0 h1 hn
  exact ⟨_, p', s', by unfold spec_l1Cur_one.f; rw [h, Option.bind_some], h4, h5⟩
theorem among_ok (L : List Int) (hL : 0 < L.length) (hL2 : L.length ≤ 60000) (p s : Int) (h0 : 0 ≤ p) (h1 : p ≤ 1000000) : ∃ v p' s', spec_l1Cur_among.f l p s L = some (v, p', s') ∧ v ∈ L ∧ p ≤ p' ∧ p' ≤ p + 2 := by
  obtain ⟨v, p', s', h, h2, h3, h4, h5⟩ := pick_ok l hl p s (L.length : Int) h0 h1 (by omega)
  have hv : v.toNat < L.length := by omega
  refine ⟨rd L v, p', s', ?_, ?_, h4, h5⟩
  · unfold spec_l1Cur_among.f
    rw [h, Option.bind_some, if_pos h2, if_pos (by omega)]
  · show L.getD v.toNat 0 ∈ L
    rw [List.getD_eq_getElem?_getD, List.getElem?_eq_getElem hv]
    exact List.getElem_mem hv
theorem byte_ok (p s : Int) (h0 : 0 ≤ p) (h1 : p ≤ 900000) : ∃ (a : UInt8) (p' s' : Int), spec_l1Cur_byte.f l p s = some (ib a, p', s') ∧ p ≤ p' ∧ p' ≤ p + 4 := by
  obtain ⟨b, p1, s1, h2, h3, h4⟩ := one_ok l hl p s 5 h0 (by omega) (by omega)
  unfold spec_l1Cur_byte.f
  rw [h2, Option.bind_some]
  cases b with
  | true =>
    obtain ⟨v, p2, s2, h5, _, h6, h7⟩ := among_ok l hl [0, 1, 2, 3, 255, 27] (by decide) (by decide) p1 s1 (by omega) (by omega)
    obtain ⟨a, ha⟩ := ib_of v
    exact ⟨a, p2, s2, by rw [if_pos rfl, h5, Option.bind_some, ha], by omega, by omega⟩
  | false =>
    obtain ⟨v, p2, s2, h5, _, _, h6, h7⟩ := pick_ok l hl p1 s1 256 (by omega) (by omega) (by omega)
    obtain ⟨a, ha⟩ := ib_of v
    exact ⟨a, p2, s2, by rw [if_neg (by simp), h5, Option.bind_some, ha], by omega, by omega⟩
theorem vector_loop : ∀ (n : Nat) (acc : List UInt8) (p s : Int), n ≤ 100000 → acc.length + n ≤ 200000 → 0 ≤ p → p + 4 * n ≤ 900000 →
    ∃ (v : List UInt8) (p' s' : Int), Ev (fun k => spec_l1Cur_vector.l0 k (n : Int) (li acc) l p s) (li v, p', s') ∧ v.length = acc.length + n ∧ p ≤ p' ∧ p' ≤ p + 4 * n
  | 0, acc, p, s, _, _, _, _ => ⟨acc, p, s, Ev.step (f := fun _ => some (li acc, p, s)) (fun k => by simp only [spec_l1Cur_vector.l0]; rw [if_neg (by omega)]) (Ev.now _), rfl, by omega, by omega⟩
  | n + 1, acc, p, s, hn, ha, h0, h1 => by
    obtain ⟨a, p1, s1, h2, h3, h4⟩ := byte_ok l hl p s h0 (by omega)
    obtain ⟨v, p2, s2, h5, h6, h7, h8⟩ := vector_loop n (acc ++ [a]) p1 s1 (by omega) (by simp; omega) (by omega) (by omega)
    refine ⟨v, p2, s2, Ev.step (fun k => ?_) h5, by rw [h6]; simp; omega, by omega, by omega⟩
    simp only [spec_l1Cur_vector.l0]
    rw [if_pos (by omega), h2, Option.bind_some, if_pos (by rw [li_len]; omega), v64 (by omega) (by omega), li_app, show ((n + 1 : Nat) : Int) - 1 = (n : Int) by omega]
    rfl
theorem text_ok (n : Nat) (p s : Int) (hn : n ≤ 1000) (h0 : 0 ≤ p) (h1 : p ≤ 800000) :
    ∃ (t : List UInt8) (p' s' : Int), Ev (fun k => spec_l1Cur_text.f k l p s (n : Int)) (str t, p', s') ∧ t.length = n ∧ p ≤ p' ∧ p' ≤ p + 4 * n := by
  obtain ⟨v, p1, s1, h2, h3, h4, h5⟩ := vector_loop l hl n [] p s (by omega) (by simp; omega) h0 (by omega)
  refine ⟨v, p1, s1, ?_, by rw [h3]; simp, h4, h5⟩
  refine (Ev.bind (f := fun _ bt148 => some (strOfNums bt148.1, bt148.2.1, bt148.2.2)) h2 (r := (str v, p1, s1)) ((Ev.now _).congr fun k => by rw [strOf_li])).congr fun k => ?_
  unfold spec_l1Cur_text.f spec_l1Cur_vector.f
  rfl
theorem data_loop (n : Nat) (hn : n ≤ 100) : ∀ (c : Nat) (acc : List (List UInt8)) (p s : Int), c ≤ 100 → acc.length + c ≤ 200 → (∀ t ∈ acc, t.length ≤ n) → 0 ≤ p → p + 400 * c ≤ 700000 →
    ∃ (T : List (List UInt8)) (p' s' : Int), Ev (fun k => spec_l1Cur_data.l0 k (c : Int) (n : Int) (ts acc) l p s) (ts T, p', s') ∧ T.length = acc.length + c ∧ (∀ t ∈ T, t.length ≤ n + 1) ∧ p ≤ p' ∧ p' ≤ p + 400 * c + 2
  | 0, acc, p, s, _, _, ht, h0, h1 => by
    cases acc with
    | nil => exact ⟨[], p, s, Ev.step (f := fun _ => some (ts [], p, s)) (fun k => by simp only [spec_l1Cur_data.l0]; rw [if_neg (by omega), if_neg (by decide)]) (Ev.now _), rfl, by simp, by omega, by omega⟩
    | cons t0 acc =>
      obtain ⟨b, p1, s1, h2, h3, h4⟩ := one_ok l hl p s 30 h0 (by omega) (by omega)
      have ht0 := ht t0 List.mem_cons_self
      cases b with
      | false =>
        refine ⟨t0 :: acc, p1, s1, Ev.step (f := fun _ => some (ts (t0 :: acc), p1, s1)) (fun k => ?_) (Ev.now _), rfl, fun t h => by have := ht t h; omega, by omega, by omega⟩
        simp only [spec_l1Cur_data.l0]
        rw [if_neg (by omega), if_pos (by rw [ts_len]; simp), h2, Option.bind_some, if_neg (by simp)]
      | true =>
        refine ⟨(t0 ++ [120]) :: acc, p1, s1, Ev.step (f := fun _ => some (ts ((t0 ++ [120]) :: acc), p1, s1)) (fun k => ?_) (Ev.now _), rfl, fun t h => ?_, by omega, by omega⟩
        · have hz := rd_ts (t0 :: acc) 0 (by simp)
          rw [show ((0 : Nat) : Int) = 0 from rfl] at hz
          simp only [spec_l1Cur_data.l0]
          rw [if_neg (by omega), if_pos (by rw [ts_len]; simp), h2, Option.bind_some, if_pos rfl, if_pos (by rw [ts_len]; simp), hz, if_pos (by rw [str_size]; simp; omega), show (⟨#[120]⟩ : ByteArray) = str [120] from rfl, str_app]
          rfl
        · rcases List.mem_cons.mp h with rfl | h
          · simp; omega
          · have := ht t (List.mem_cons_of_mem _ h); omega
  | c + 1, acc, p, s, hc, ha, ht, h0, h1 => by
    obtain ⟨t, p1, s1, h2, h3, h4, h5⟩ := text_ok l hl n p s (by omega) h0 (by omega)
    obtain ⟨T, p2, s2, h6, h7, h8, h9, h10⟩ := data_loop n hn c (acc ++ [t]) p1 s1 (by omega) (by simp; omega) (fun u hu => by rcases List.mem_append.mp hu with h | h; exact ht u h; rw [List.mem_singleton.mp h]; omega) (by omega) (by omega)
    refine ⟨T, p2, s2, Ev.step (fun k => ?_) (Ev.bind (f := fun k (bt162 : ByteArray × Int × Int) => spec_l1Cur_data.l0 k (c : Int) (n : Int) (ts acc ++ [bt162.1]) l bt162.2.1 bt162.2.2) h2 (h6.congr fun k => by rw [ts_app]; rfl)), by rw [h7]; simp; omega, h8, by omega, by omega⟩
    simp only [spec_l1Cur_data.l0]
    rw [if_pos (by omega), v64 (by omega) (by omega), show ((c + 1 : Nat) : Int) - 1 = (c : Int) by omega]
    congr 1
    funext bt162
    rw [if_pos (by rw [ts_len]; omega)]
theorem data_ok (c : Nat) (hc : c ≤ 100) (p s : Int) (h0 : 0 ≤ p) (h1 : p ≤ 500000) :
    ∃ (T : List (List UInt8)) (p' s' : Int), Ev (fun k => spec_l1Cur_data.f k l p s (c : Int)) (ts T, p', s') ∧ T.length = c ∧ (∀ t ∈ T, t.length ≤ 42) ∧ p ≤ p' ∧ p' ≤ p + 400 * c + 10 := by
  obtain ⟨v, p1, s1, h2, h3, h4, h5, h6⟩ := pick_ok l hl p s 5 h0 (by omega) (by omega)
  obtain ⟨b, p2, s2, h7, h8, h9⟩ := one_ok l hl p1 s1 20 (by omega) (by omega) (by omega)
  have hs : ∃ (n : Nat) (p3 s3 : Int), n ≤ 41 ∧ p2 ≤ p3 ∧ p3 ≤ p2 + 2 ∧ ∀ k, spec_l1Cur_data.f k l p s (c : Int) = spec_l1Cur_data.j0 k (c : Int) (n : Int) l p3 s3 := by
    cases b with
    | true =>
      obtain ⟨u, p3, s3, h10, h11, h12, h13, h14⟩ := pick_ok l hl p2 s2 2 (by omega) (by omega) (by omega)
      refine ⟨(40 + u).toNat, p3, s3, by omega, by omega, by omega, fun k => ?_⟩
      unfold spec_l1Cur_data.f
      rw [h2, Option.bind_some, h7, Option.bind_some, if_pos rfl, h10, Option.bind_some, v64 (by omega) (by omega), Int.toNat_of_nonneg (by omega)]
    | false =>
      refine ⟨v.toNat, p2, s2, by omega, by omega, by omega, fun k => ?_⟩
      unfold spec_l1Cur_data.f
      rw [h2, Option.bind_some, h7, Option.bind_some, if_neg (by simp), Int.toNat_of_nonneg (by omega)]
  obtain ⟨n, p3, s3, hn, h10, h11, hf⟩ := hs
  obtain ⟨T, p4, s4, h12, h13, h14, h15, h16⟩ := data_loop l hl n (by omega) c [] p3 s3 hc (by simp; omega) (by simp) (by omega) (by omega)
  refine ⟨T, p4, s4, ?_, by rw [h13]; simp, fun t ht => by have := h14 t ht; omega, by omega, by omega⟩
  refine Ev.congr (f := fun k => spec_l1Cur_data.j0 k (c : Int) (n : Int) l p3 s3) hf (Ev.step (fun k => ?_) h12)
  simp only [spec_l1Cur_data.j0]
  rfl
end
end Go.Proofs.Ytgdjjghdjpaofaa.PureFnAnyFew

/-
  The drawn numbers and texts: each draw ends, within small bounds. No conditions beyond those that each lemma names.
-/
import Derived.Test.YtgdjjghdjpaofaaPFnZeckendorfx4
import Derived.Test.YtgdjjghdjpaofaaPFnZeckendorfx5
import Derived.Test.YtgdjjghdjpaofaaPFnZeckendorfx6
import Derived.Test.YtgdjjghdjpaofaaTakeFnZeckendorf
namespace Go.Proofs.Ytgdjjghdjpaofaa.PureFnZeckendorf
open Go.RowKit Go.Proofs.Ytgdjjghdjpaofaa.PFnZeckendorf Go.Proofs.YtgdjjghdjpaofaaW.PrintWords Go.Proofs.YtgdjjghdjpaofaaW.PrintLast Go.Proofs.YtgdjjghdjpaofaaW.PrintMore Go.Proofs.Ytgdjjghdjpaofaa.Zeck

theorem number_ok (l : List Int) (hl : Bytes l) (p s : Int) (h0 : 0 ≤ p) (h1 : p ≤ 100000) :
    ∃ v p' s', spec_l1Cur_number.f l p s = some (v, p', s') ∧ 0 ≤ v ∧ v ≤ 1000001 ∧ p ≤ p' ∧ p' ≤ p + 6 := by
  unfold spec_l1Cur_number.f
  obtain ⟨a, p1, s1, ha, ha0, ha1, hp, hp'⟩ := pick_ok l hl p s 8 h0 (by omega) (by omega)
  rw [ha, Option.bind_some]
  simp only
  by_cases e0 : a = 0
  · rw [if_pos e0]
    unfold spec_l1Cur_among.f
    obtain ⟨b, p2, s2, hb, hb0, hb1, hq, hq'⟩ := pick_ok l hl p1 s1 5 (by omega) (by omega) (by omega)
    rw [show ((([0, 1, 999999, 1000000, 1000001] : List Int).length : Nat) : Int) = 5 from rfl, hb, Option.bind_some]
    simp only
    rw [if_pos hb0, if_pos (by omega), Option.bind_some]
    refine ⟨_, _, _, rfl, ?_⟩
    have hr : ∀ i : Nat, i < 5 → 0 ≤ rd ([0, 1, 999999, 1000000, 1000001] : List Int) (i : Int) ∧ rd ([0, 1, 999999, 1000000, 1000001] : List Int) (i : Int) ≤ 1000001 := by decide +kernel
    have := hr b.toNat (by omega)
    rw [Int.toNat_of_nonneg hb0] at this
    exact ⟨this.1, this.2, by show p ≤ p2; omega, by show p2 ≤ p + 6; omega⟩
  · rw [if_neg e0]
    by_cases e1 : a = 1
    · obtain ⟨b, p2, s2, hb, hb0, hb1, hq, hq'⟩ := pick_ok l hl p1 s1 5000 (by omega) (by omega) (by omega)
      rw [if_pos e1, hb, Option.bind_some]
      simp only
      rw [w64 (by omega) (by omega)]
      exact ⟨_, _, _, rfl, by omega, by omega, by omega, by omega⟩
    · obtain ⟨b, p2, s2, hb, hb0, hb1, hq, hq'⟩ := pick_ok l hl p1 s1 60 (by omega) (by omega) (by omega)
      rw [if_neg e1, hb, Option.bind_some]
      simp only
      rw [w64 (by omega) (by omega)]
      exact ⟨_, _, _, rfl, by omega, by omega, by omega, by omega⟩
theorem drawn_number (l : List Int) (hl : Bytes l) : ∃ n : Nat, spec_DrawSumsOf.f l = some (n : Int) ∧ n ≤ 1000001 := by
  obtain ⟨v, p, s, h, h0, h1, _⟩ := number_ok l hl 0 0 (by omega) (by omega)
  refine ⟨v.toNat, ?_, by omega⟩
  unfold spec_DrawSumsOf.f spec_DrawGammaOf.f
  rw [h, Option.bind_some, Option.bind_some, Int.toNat_of_nonneg h0]

/-- The reference's and the program's codes, at every number. -/
theorem both_fib (n : Nat) (hn : n ≤ 1000001) : ∃ c : ByteArray × Bool, Ev (fun k => spec_FibonacciOf.f k (n : Int)) c ∧ Ev (fun k => impl_FibonacciOf.f k (n : Int)) c ∧ c.1.size ≤ 32 ∧
    (0 < n ∧ n ≤ 1000000 → c = (str (code n), true)) ∧ (¬ (0 < n ∧ n ≤ 1000000) → c = (⟨#[]⟩, false)) := by
  by_cases h : 0 < n ∧ n ≤ 1000000
  · refine ⟨(str (code n), true), ?_, ?_, ?_, fun _ => rfl, fun hc => absurd h hc⟩
    · refine (Ev.bind (f := fun _ t => some (t, true)) (spec_fib n h.1 h.2) (Ev.now _)).congr fun k => ?_
      unfold spec_FibonacciOf.f
      rw [number_spec, Option.bind_some, if_pos (by simp; omega)]
    · refine (Ev.bind (f := fun _ t => some (t, true)) (impl_fib n h.1 h.2) (Ev.now _)).congr fun k => ?_
      unfold impl_FibonacciOf.f
      rw [number_impl, Option.bind_some, if_pos (by simp; omega)]
    · have := top29 n h.2
      simp only [str_size, code, List.length_append, chars_len, List.length_singleton]; omega
  · refine ⟨(⟨#[]⟩, false), ?_, ?_, by decide, fun hc => absurd hc h, fun _ => rfl⟩
    · refine (Ev.now _).congr fun k => ?_
      unfold spec_FibonacciOf.f
      rw [number_spec, Option.bind_some, if_neg (by simp; omega)]
    · refine (Ev.now _).congr fun k => ?_
      unfold impl_FibonacciOf.f
      rw [number_impl, Option.bind_some, if_neg (by simp; omega)]
theorem both_sums (n : Nat) (hn : n ≤ 1000001) : ∃ c : List Int × Bool, Ev (fun k => spec_SumsOf.f k (n : Int)) c ∧ Ev (fun k => impl_SumsOf.f k (n : Int)) c ∧
    (0 < n ∧ n ≤ 1000000 → c = (els (gb (top n) n) (top n), true)) ∧ (¬ (0 < n ∧ n ≤ 1000000) → c = ([], false)) := by
  by_cases h : 0 < n ∧ n ≤ 1000000
  · refine ⟨(els (gb (top n) n) (top n), true), ?_, ?_, fun _ => rfl, fun hc => absurd h hc⟩
    · refine (Ev.bind (f := fun _ t => some (t, true)) (spec_sums n h.2) (Ev.now _)).congr fun k => ?_
      unfold spec_SumsOf.f
      rw [number_spec, Option.bind_some, if_pos (by simp; omega)]
    · refine (Ev.bind (f := fun _ t => some (t, true)) (impl_sums n h.2) (Ev.now _)).congr fun k => ?_
      unfold impl_SumsOf.f
      rw [number_impl, Option.bind_some, if_pos (by simp; omega)]
  · refine ⟨([], false), ?_, ?_, fun hc => absurd hc h, fun _ => rfl⟩
    · refine (Ev.now _).congr fun k => ?_
      unfold spec_SumsOf.f
      rw [number_spec, Option.bind_some, if_neg (by simp; omega)]
    · refine (Ev.now _).congr fun k => ?_
      unfold impl_SumsOf.f
      rw [number_impl, Option.bind_some, if_neg (by simp; omega)]

theorem spoilt_loop (l : List Int) (hl : Bytes l) (w : ByteArray) (hw : w.size = 2) (d : Nat) : ∀ (t : ByteArray) (p s : Int), t.size ≤ 1000 - d → d ≤ 100 → 0 ≤ p → p + 6 * d ≤ 10000 →
    ∃ t' p' s', Ev (fun k => spec_l1Cur_spoilt.l0 k t w (d : Int) l p s) (t', p', s') ∧ t'.size ≤ t.size + d ∧ p ≤ p' ∧ p' ≤ p + 6 * d := by
  induction d with
  | zero =>
    intro t p s ht _ hp hp2
    refine ⟨t, p, s, ?_, by omega, by omega, by omega⟩
    refine Ev.step (g := fun k => spec_l1Cur_spoilt.l0 k t w 0 l p s) (fun k => ?_) (Ev.step (g := fun k => spec_l1Cur_spoilt.j1 k t w 0 false l p s) (f := fun _ => some (t, p, s)) (fun k => ?_) (Ev.now _))
    · simp only [spec_l1Cur_spoilt.l0]; rw [if_neg (by omega)]
    · simp only [spec_l1Cur_spoilt.j1]; rfl
  | succ d ih =>
    intro t p s ht hd hp hp2
    by_cases h0 : t.size = 0
    · refine ⟨t, p, s, ?_, by omega, by omega, by omega⟩
      refine Ev.step (fun k => ?_) (Ev.step (g := fun k => spec_l1Cur_spoilt.j1 k t w ((d + 1 : Nat) : Int) false l p s) (f := fun _ => some (t, p, s)) (fun k => ?_) (Ev.now _))
      · simp only [spec_l1Cur_spoilt.l0]; rw [if_pos (by omega), show decide ((t.size : Int) > 0) = false from decide_eq_false (by omega)]
      · simp only [spec_l1Cur_spoilt.j1]; rfl
    · obtain ⟨i, p1, s1, hi, hi0, hi1, hp1, hp1'⟩ := pick_ok l hl p s (t.size : Int) hp (by omega) (by omega)
      obtain ⟨c, p3, s3, hc, hc0, hc1, hp3, hp3'⟩ := pick_ok l hl p1 s1 (w.size : Int) (by omega) (by omega) (by omega)
      obtain ⟨z, p4, s4, hz, hz0, hz1, hp4, hp4'⟩ := pick_ok l hl p3 s3 3 (by omega) (by omega) (by omega)
      have hw1 : (strOfNums [bt w c]).size = 1 := by rw [strOfNums_size]; rfl
      have fin : ∀ t2 : ByteArray, t2.size ≤ t.size + 1 → (∀ k, spec_l1Cur_spoilt.l0 (k + 1 + 1) t w ((d + 1 : Nat) : Int) l p s = spec_l1Cur_spoilt.l0 k t2 w (d : Int) l p4 s4) →
          ∃ t' p' s', Ev (fun k => spec_l1Cur_spoilt.l0 k t w ((d + 1 : Nat) : Int) l p s) (t', p', s') ∧ t'.size ≤ t.size + (d + 1) ∧ p ≤ p' ∧ p' ≤ p + 6 * ((d + 1 : Nat) : Int) := by
        intro t2 h2 he
        obtain ⟨t', p', s', h3, h4, h5, h6⟩ := ih t2 p4 s4 (by omega) (by omega) (by omega) (by omega)
        exact ⟨t', p', s', Ev.step (f := fun k => spec_l1Cur_spoilt.l0 (k + 1) t w ((d + 1 : Nat) : Int) l p s) (fun _ => rfl) (Ev.step (fun k => he k) h3), by omega, by omega, by omega⟩
      have step : ∀ k, spec_l1Cur_spoilt.l0 (k + 1 + 1) t w ((d + 1 : Nat) : Int) l p s = spec_l1Cur_spoilt.j1 (k + 1) t w ((d + 1 : Nat) : Int) true l p s := fun k => by
        conv => lhs; unfold spec_l1Cur_spoilt.l0
        rw [if_pos (by omega), show decide ((t.size : Int) > 0) = true from decide_eq_true (by omega)]
      have hx : ∀ a b : Nat, (t.extract a b).size = min b t.size - a := fun a b => ByteArray.size_extract
      have hw64 : wrap64 (((d + 1 : Nat) : Int) - 1) = (d : Int) := by rw [w64 (by omega) (by omega)]; omega
      have hwi : wrap64 (i + 1) = i + 1 := w64 (by omega) (by omega)
      by_cases z0 : z = 0
      · refine fin ((t.extract 0 i.toNat ++ strOfNums [bt w c]) ++ t.extract i.toNat t.size) ?_ (fun k => (step k).trans ?_)
        rotate_left
        · simp only [spec_l1Cur_spoilt.j1]
          rw [if_pos True.intro, hi, Option.bind_some]
          simp only
          rw [hc, Option.bind_some]
          simp only
          rw [if_pos hc0, if_pos (by omega), Option.bind_some, hz, Option.bind_some]
          simp only
          rw [if_pos z0, if_pos hi0, if_pos (by omega), if_pos (by rw [hx, hw1]; omega), if_pos (by rw [ByteArray.size_append, hx, hw1, hx]; omega), hw64]
        · rw [ByteArray.size_append, ByteArray.size_append, hx, hw1, hx]; omega
      · by_cases z1 : z = 1
        · refine fin ((t.extract 0 i.toNat ++ strOfNums [bt w c]) ++ t.extract (i + 1).toNat t.size) ?_ (fun k => (step k).trans ?_)
          rotate_left
          · simp only [spec_l1Cur_spoilt.j1]
            rw [if_pos True.intro, hi, Option.bind_some]
            simp only
            rw [hc, Option.bind_some]
            simp only
            rw [if_pos hc0, if_pos (by omega), Option.bind_some, hz, Option.bind_some]
            simp only
            rw [if_neg z0, if_pos z1, if_pos hi0, if_pos (by omega), if_pos (by rw [hx, hw1]; omega), hwi, if_pos (by omega), if_pos (by omega), if_pos (by rw [ByteArray.size_append, hx, hw1, hx]; omega), hw64]
          · rw [ByteArray.size_append, ByteArray.size_append, hx, hw1, hx]; omega
        · refine fin (t.extract 0 i.toNat ++ t.extract (i + 1).toNat t.size) ?_ (fun k => (step k).trans ?_)
          rotate_left
          · simp only [spec_l1Cur_spoilt.j1]
            rw [if_pos True.intro, hi, Option.bind_some]
            simp only
            rw [hc, Option.bind_some]
            simp only
            rw [if_pos hc0, if_pos (by omega), Option.bind_some, hz, Option.bind_some]
            simp only
            rw [if_neg z0, if_neg z1, if_pos hi0, if_pos (by omega), hwi, if_pos (by omega), if_pos (by omega), if_pos (by rw [hx, hx]; omega), hw64]
          · rw [ByteArray.size_append, hx, hx]; omega
theorem bits_loop (l : List Int) (hl : Bytes l) (d : Nat) : ∀ (t : ByteArray) (p s : Int), t.size ≤ 1000 - d → d ≤ 100 → 0 ≤ p → p + 2 * d ≤ 100000 →
    ∃ t' p' s', Ev (fun k => spec_l1Cur_bits.l0 k (d : Int) t l p s) (t', p', s') ∧ t'.size ≤ t.size + d ∧ p ≤ p' ∧ p' ≤ p + 2 * d := by
  induction d with
  | zero =>
    intro t p s ht _ hp hp2
    exact ⟨t, p, s, Ev.step (g := fun k => spec_l1Cur_bits.l0 k 0 t l p s) (f := fun _ => some (t, p, s)) (fun k => by simp only [spec_l1Cur_bits.l0]; rfl) (Ev.now _), by omega, by omega, by omega⟩
  | succ d ih =>
    intro t p s ht hd hp hp2
    obtain ⟨i, p1, s1, hi, hi0, hi1, hp1, hp1'⟩ := pick_ok l hl p s 2 hp (by omega) (by omega)
    obtain ⟨c, hc, hcs⟩ : ∃ c, spec_l10Bit.f i = some c ∧ c.size = 1 := ⟨_, rfl, by rw [strOfNums_size]; rfl⟩
    obtain ⟨t', p', s', h3, h4, h5, h6⟩ := ih (t ++ c) p1 s1 (by rw [ByteArray.size_append]; omega) (by omega) (by omega) (by omega)
    rw [ByteArray.size_append, hcs] at h4
    refine ⟨t', p', s', Ev.step (fun k => ?_) h3, by omega, by omega, by omega⟩
    simp only [spec_l1Cur_bits.l0]
    rw [if_pos (by omega), hi, Option.bind_some]
    simp only
    rw [hc, Option.bind_some, if_pos (by rw [hcs]; omega), w64 (by omega) (by omega)]
    congr 1; omega
theorem drawn_text (l : List Int) (hl : Bytes l) : ∃ t : ByteArray, Ev (fun k => spec_DrawTakeFibonacci.f k l) t ∧ t.size ≤ 1000 := by
  obtain ⟨v, p, s, hv, hv0, hv1, hp, hp'⟩ := number_ok l hl 0 0 (by omega) (by omega)
  obtain ⟨n, rfl⟩ : ∃ n : Nat, v = n := ⟨v.toNat, by omega⟩
  obtain ⟨c, hc, _, hcs, _⟩ := both_fib n (by omega)
  obtain ⟨o, p2, s2, ho, ho0, ho1, hp2, hp2'⟩ := pick_ok l hl p s 4 (by omega) (by omega) (by omega)
  have hone : Ev (fun k => spec_l13One.f k (n : Int) 4) c := by
    refine (Ev.bind (f := fun _ t => some (t.1, t.2)) hc (Ev.now _)).congr fun k => ?_
    unfold spec_l13One.f
    rw [if_neg (by omega), if_neg (by omega), if_neg (by omega), if_pos rfl]
  have tail : ∀ (t : ByteArray) (q s3 : Int), t.size ≤ 100 → 0 ≤ q → q ≤ 10000 → ∃ r, Ev (fun k => (spec_l1Cur_pick.f l q s3 4).bind fun b1 => (spec_l1Cur_bits.f k l b1.2.1 b1.2.2 b1.1).bind fun b2 => if t.size + b2.1.size ≤ 9223372036854775807 then some (t ++ b2.1, b2.2.1, b2.2.2) else none) r ∧ r.1.size ≤ 1000 := by
    intro t q s3 ht hq hq2
    obtain ⟨a, p4, s4, ha, ha0, ha1, hp4, hp4'⟩ := pick_ok l hl q s3 4 hq (by omega) (by omega)
    obtain ⟨m, rfl⟩ : ∃ m : Nat, a = m := ⟨a.toNat, by omega⟩
    obtain ⟨t', p', s', h3, h4, h5, h6⟩ := bits_loop l hl m ⟨#[]⟩ p4 s4 (by show 0 ≤ _; omega) (by omega) (by omega) (by omega)
    have h4' : t'.size ≤ m := by have : (⟨#[]⟩ : ByteArray).size = 0 := rfl
                                 omega
    refine ⟨(t ++ t', p', s'), (Ev.bind (f := fun _ b2 => if t.size + b2.1.size ≤ 9223372036854775807 then some (t ++ b2.1, b2.2.1, b2.2.2) else none) h3 ⟨0, fun _ _ => by rw [if_pos (by simp only; omega)]⟩).congr fun k => ?_, by simp only [ByteArray.size_append]; omega⟩
    rw [ha, Option.bind_some]; rfl
  have main : ∃ r, Ev (fun k => spec_l1Cur_told.f k l 0 0 4) r ∧ r.1.size ≤ 1000 := by
    by_cases hb : (o == 0) = true
    · obtain ⟨a, p4, s4, ha, ha0, ha1, hp4, hp4'⟩ := pick_ok l hl p2 s2 3 (by omega) (by omega) (by omega)
      obtain ⟨m, rfl⟩ : ∃ m : Nat, a = m := ⟨a.toNat, by omega⟩
      obtain ⟨t', p', s', h3, h4, h5, h6⟩ := spoilt_loop l hl (⟨#[48, 49]⟩ : ByteArray) rfl m c.1 p4 s4 (by omega) (by omega) (by omega) (by omega)
      obtain ⟨r, hr, hrs⟩ := tail t' p' s' (by omega) (by omega) (by omega)
      refine ⟨r, (Ev.bind (f := fun k t => (spec_l1Cur_one.f l p s 4).bind fun bt272 => (if bt272.1 = true then ((spec_l1Cur_spoilt.f k l bt272.2.1 bt272.2.2 t.1 (⟨#[48, 49]⟩ : ByteArray)).bind fun bt275 => ((spec_l1Cur_pick.f l bt275.2.1 bt275.2.2 4).bind fun bt278 => ((spec_l1Cur_bits.f k l bt278.2.1 bt278.2.2 bt278.1).bind fun bt281 => (if bt275.1.size + bt281.1.size ≤ 9223372036854775807 then (some (bt275.1 ++ bt281.1, bt281.2.1, bt281.2.2)) else (none))))) else ((spec_l1Cur_pick.f l bt272.2.1 bt272.2.2 4).bind fun bt284 => ((spec_l1Cur_bits.f k l bt284.2.1 bt284.2.2 bt284.1).bind fun bt287 => (if t.1.size + bt287.1.size ≤ 9223372036854775807 then (some (t.1 ++ bt287.1, bt287.2.1, bt287.2.2)) else (none)))))) hone ?_).congr fun k => ?_, hrs⟩
      · refine (Ev.bind (f := fun k bt275 => (spec_l1Cur_pick.f l bt275.2.1 bt275.2.2 4).bind fun bt278 => ((spec_l1Cur_bits.f k l bt278.2.1 bt278.2.2 bt278.1).bind fun bt281 => (if bt275.1.size + bt281.1.size ≤ 9223372036854775807 then (some (bt275.1 ++ bt281.1, bt281.2.1, bt281.2.2)) else (none)))) h3 hr).congr fun k => ?_
        unfold spec_l1Cur_one.f
        rw [ho, Option.bind_some, Option.bind_some]
        simp only
        rw [if_pos hb]
        unfold spec_l1Cur_spoilt.f
        rw [ha, Option.bind_some]
      · unfold spec_l1Cur_told.f
        rw [hv, Option.bind_some]
    · obtain ⟨r, hr, hrs⟩ := tail c.1 p2 s2 (by omega) (by omega) (by omega)
      refine ⟨r, (Ev.bind (f := fun k t => (spec_l1Cur_one.f l p s 4).bind fun bt272 => (if bt272.1 = true then ((spec_l1Cur_spoilt.f k l bt272.2.1 bt272.2.2 t.1 (⟨#[48, 49]⟩ : ByteArray)).bind fun bt275 => ((spec_l1Cur_pick.f l bt275.2.1 bt275.2.2 4).bind fun bt278 => ((spec_l1Cur_bits.f k l bt278.2.1 bt278.2.2 bt278.1).bind fun bt281 => (if bt275.1.size + bt281.1.size ≤ 9223372036854775807 then (some (bt275.1 ++ bt281.1, bt281.2.1, bt281.2.2)) else (none))))) else ((spec_l1Cur_pick.f l bt272.2.1 bt272.2.2 4).bind fun bt284 => ((spec_l1Cur_bits.f k l bt284.2.1 bt284.2.2 bt284.1).bind fun bt287 => (if t.1.size + bt287.1.size ≤ 9223372036854775807 then (some (t.1 ++ bt287.1, bt287.2.1, bt287.2.2)) else (none)))))) hone (hr.congr fun k => ?_)).congr fun k => ?_, hrs⟩
      · unfold spec_l1Cur_one.f
        rw [ho, Option.bind_some, Option.bind_some]
        simp only
        rw [if_neg hb]
      · unfold spec_l1Cur_told.f
        rw [hv, Option.bind_some]
  obtain ⟨r, hr, hrs⟩ := main
  exact ⟨r.1, (Ev.bind (f := fun _ (b : ByteArray × Int × Int) => some b.1) hr (Ev.now r.1)).congr fun k => rfl, hrs⟩
end Go.Proofs.Ytgdjjghdjpaofaa.PureFnZeckendorf

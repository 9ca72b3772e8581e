/-
  What the program's and the reference's products, powers and inverses of bytes compute, and what their lists of bytes are. No conditions beyond those that each lemma names.
-/
import Derived.Test.YtgdjjghdjpaofaaPFnAnyFewx
import Derived.Test.YtgdjjghdjpaofaaGFFnAnyFew
namespace Go.Proofs.Ytgdjjghdjpaofaa.PureFnAnyFew
open Go.RowKit Go.Proofs.Ytgdjjghdjpaofaa.PFnAnyFew Go.Proofs.YtgdjjghdjpaofaaW.PrintWords Go.Proofs.YtgdjjghdjpaofaaW.PrintLast Go.Proofs.YtgdjjghdjpaofaaW.PrintMore Go.Proofs.Ytgdjjghdjpaofaa.GF

theorem v64 {x : Int} (h0 : -9223372036854775808 ≤ x) (h1 : x ≤ 9223372036854775807) : wrap64 x = x := by unfold wrap64; omega
def ib (a : UInt8) : Int := (a.toNat : Int)
theorem ib_le (a : UInt8) : 0 ≤ ib a ∧ ib a ≤ 255 := by have := a.toNat_lt; unfold ib; omega
theorem ib_64 (a : UInt8) : wrap64 (ib a) = ib a := by have := ib_le a; exact v64 (by omega) (by omega)
theorem ib_mod (a : UInt8) : ib a % 256 = ib a := by have := ib_le a; omega
theorem ib_inj {a b : UInt8} (h : ib a = ib b) : a = b := by unfold ib at h; exact UInt8.toNat_inj.mp (by omega)
def li (l : List UInt8) : List Int := l.map ib
theorem li_len (l : List UInt8) : (li l).length = l.length := by simp [li]
theorem li_app (l m : List UInt8) : li (l ++ m) = li l ++ li m := by simp [li]
theorem li_one (a : UInt8) : li [a] = [ib a] := rfl
theorem li_rep (n : Nat) : li (List.replicate n 0) = List.replicate n 0 := by simp [li]; right; rfl
theorem li_set (l : List UInt8) (i : Nat) (a : UInt8) : (li l).set i (ib a) = li (l.set i a) := by simp [li]
theorem rd_li (l : List UInt8) (i : Nat) (h : i < l.length) : rd (li l) (i : Int) = ib l[i] := by
  show (li l).getD ((i : Int)).toNat 0 = _
  rw [Int.toNat_natCast, List.getD_eq_getElem?_getD, List.getElem?_eq_getElem (by rw [li_len]; exact h)]; simp [li]
def str (l : List UInt8) : ByteArray := ⟨l.toArray⟩
theorem str_size (l : List UInt8) : (str l).size = l.length := by simp [str, ByteArray.size]
theorem str_all (s : ByteArray) : ∃ l, s = str l := ⟨s.data.toList, by simp [str]⟩
theorem bytes_str (l : List UInt8) : bytesOf (str l) = li l := by simp [bytesOf, str, li]; intro a _; rfl
theorem strOf_li (l : List UInt8) : strOfNums (li l) = str l := by
  unfold strOfNums str li
  rw [List.map_map]
  have : (fun n : Int => UInt8.ofNat n.toNat) ∘ ib = id := by funext a; simp [ib]
  rw [this, List.map_id]
theorem bt_str (l : List UInt8) (i : Nat) (h : i < l.length) : bt (str l) (i : Int) = ib l[i] := by
  unfold bt
  rw [dif_pos (by rw [Int.toNat_natCast, str_size]; exact h)]
  rfl
theorem str_app (l m : List UInt8) : str l ++ str m = str (l ++ m) := by
  apply ByteArray.ext
  rw [ByteArray.data_append]; simp [str]
theorem xor_u8 (a b : UInt8) : Go.bits .xor .u8 (ib a) (ib b) = ib (a ^^^ b) := by
  have ha := a.toNat_lt; have hb := b.toNat_lt
  have h : a.toNat ^^^ b.toNat < 2 ^ 8 := Nat.xor_lt_two_pow ha hb
  have h2 : Go.bits .xor .u8 (ib a) (ib b) = IntKind.u8.wrap ((a.toNat % 2 ^ 8 ^^^ b.toNat % 2 ^ 8 : Nat) : Int) := by
    unfold Go.bits ib
    simp only [BitVec.ofInt_natCast, BitVec.toNat_xor, BitVec.toNat_ofNat]
    rfl
  rw [h2, Nat.mod_eq_of_lt (by omega), Nat.mod_eq_of_lt (by omega), Go.IntKind.wrap_u8]
  show _ = ((a ^^^ b).toNat : Int)
  rw [UInt8.toNat_xor]
  omega
theorem xor_i64 (a b : UInt8) : Go.bits .xor .i64 (ib a) (ib b) = ib (a ^^^ b) := by
  have ha := a.toNat_lt; have hb := b.toNat_lt
  have h : a.toNat ^^^ b.toNat < 2 ^ 8 := Nat.xor_lt_two_pow ha hb
  have h2 : Go.bits .xor .i64 (ib a) (ib b) = IntKind.i64.wrap ((a.toNat % 2 ^ 64 ^^^ b.toNat % 2 ^ 64 : Nat) : Int) := by
    unfold Go.bits ib
    simp only [BitVec.ofInt_natCast, BitVec.toNat_xor, BitVec.toNat_ofNat]
    rfl
  rw [h2, Nat.mod_eq_of_lt (by omega), Nat.mod_eq_of_lt (by omega), Go.IntKind.wrap_i64]
  show _ = ((a ^^^ b).toNat : Int)
  rw [UInt8.toNat_xor]
  omega

/-! ### products -/
theorem dbl (x : UInt8) : if wrap64 (ib x * 2) > 255 then Go.bits .xor .i64 (wrap64 (ib x * 2)) 283 = ib (xt x) else wrap64 (ib x * 2) = ib (xt x) := by
  have h := all8 (p := fun x => decide (if wrap64 (ib x * 2) > 255 then Go.bits .xor .i64 (wrap64 (ib x * 2)) 283 = ib (xt x) else wrap64 (ib x * 2) = ib (xt x))) (by decide +kernel) x
  exact of_decide_eq_true h
theorem half (b : UInt8) : ((Go.bits .and .i64 (ib b) 1) = 1 ↔ b &&& 1 = 1) ∧ ib b / (2 : Int) = ib (b >>> 1) ∧ (ib b > 0 ↔ b ≠ 0) ∧ (b >>> 1).toNat = b.toNat / 2 := by
  have h := all8 (p := fun b => decide (((Go.bits .and .i64 (ib b) 1) = 1 ↔ b &&& 1 = 1) ∧ ib b / (2 : Int) = ib (b >>> 1) ∧ (ib b > 0 ↔ b ≠ 0) ∧ (b >>> 1).toNat = b.toNat / 2)) (by decide +kernel) b
  exact of_decide_eq_true h
theorem gmr_zero : ∀ n x, gmr n x 0 = 0
  | 0, _ => rfl
  | n + 1, x => by
    have h : sel 0 1 x = 0 := by unfold sel; rw [if_neg (by decide)]
    simp only [gmr]
    rw [h, show (0 : UInt8) >>> 1 = 0 by decide, gmr_zero n]; rfl
theorem times_s_loop : ∀ (n : Nat) (acc x b : UInt8), b.toNat < 2 ^ n → Ev (fun k => spec_l1Times.l0 k (ib acc) (ib x) (ib b)) (ib (acc ^^^ gmr n x b))
  | 0, acc, x, b, h => by
    obtain rfl : b = 0 := UInt8.toNat_inj.mp (by simpa using h)
    rw [gmr_zero, x0]
    exact Ev.step (f := fun _ => some (ib acc)) (fun k => by simp only [spec_l1Times.l0]; rw [if_neg (by decide), ib_mod]) (Ev.now _)
  | n + 1, acc, x, b, h => by
    obtain ⟨h1, h2, h3, h4⟩ := half b
    by_cases hb : b = 0
    · subst hb
      rw [gmr_zero, x0]
      exact Ev.step (f := fun _ => some (ib acc)) (fun k => by simp only [spec_l1Times.l0]; rw [if_neg (by decide), ib_mod]) (Ev.now _)
    · have ih := times_s_loop n (acc ^^^ sel b 1 x) (xt x) (b >>> 1) (by rw [h4, Nat.div_lt_iff_lt_mul (by decide)]; rw [Nat.pow_succ] at h; omega)
      simp only [gmr]
      rw [← UInt8.xor_assoc]
      refine Ev.step (fun k => ?_) ih
      have hd := dbl x
      simp only [spec_l1Times.l0]
      rw [if_pos (h3.mpr hb), h2]
      by_cases hc : b &&& 1 = 1
      · rw [if_pos (h1.mpr hc), xor_i64, show sel b 1 x = x from if_pos hc]
        by_cases hg : wrap64 (ib x * 2) > 255
        · rw [if_pos hg] at hd ⊢; rw [hd]
        · rw [if_neg hg] at hd ⊢; rw [hd]
      · rw [if_neg (fun e => hc (h1.mp e)), show sel b 1 x = 0 from if_neg hc, x0]
        by_cases hg : wrap64 (ib x * 2) > 255
        · rw [if_pos hg] at hd ⊢; rw [hd]
        · rw [if_neg hg] at hd ⊢; rw [hd]
theorem times_s (a b : UInt8) : Ev (fun k => spec_l1Times.f k (ib a) (ib b)) (ib (gm a b)) := by
  have h := times_s_loop 8 0 a b (by have := b.toNat_lt; omega)
  rw [zx] at h
  refine h.congr fun k => ?_
  unfold spec_l1Times.f
  rw [ib_64, ib_64]; rfl
def shn (b : UInt8) : Nat → UInt8
  | 0 => b
  | n + 1 => shn b n >>> 1
theorem bit_i (b : UInt8) (j : Nat) (hj : j < 8) : (Go.bits .and .u8 (shr .u8 (ib b) (j : Int)) 1) = 1 ↔ shn b j &&& 1 = 1 := by
  have h := all8 (p := fun b => (List.range 8).all fun j => decide ((Go.bits .and .u8 (shr .u8 (ib b) (j : Int)) 1) = 1 ↔ shn b j &&& 1 = 1)) (by decide +kernel) b
  exact of_decide_eq_true (List.all_eq_true.mp h j (List.mem_range.mpr hj))
theorem times_i_loop (b : UInt8) : ∀ (n j : Nat) (acc x : UInt8), n + j = 8 → Ev (fun k => impl_Times.l0 k (ib b) (ib acc) (j : Int) (ib x)) (ib (acc ^^^ gmr n x (shn b j)))
  | 0, j, acc, x, h => by
    rw [show gmr 0 x (shn b j) = 0 from rfl, x0]
    exact Ev.step (f := fun _ => some (ib acc)) (fun k => by simp only [impl_Times.l0]; rw [if_neg (by omega), ib_mod]) (Ev.now _)
  | n + 1, j, acc, x, h => by
    have ih := times_i_loop b n (j + 1) (acc ^^^ sel (shn b j) 1 x) (xt x) (by omega)
    simp only [gmr]
    rw [← UInt8.xor_assoc]
    refine Ev.step (fun k => ?_) ih
    have hd := dbl x
    have hb := bit_i b j (by omega)
    simp only [impl_Times.l0]
    rw [if_pos (by omega), if_pos (by omega), v64 (x := (j : Int) + 1) (by omega) (by omega), show (j : Int) + 1 = ((j + 1 : Nat) : Int) from rfl]
    by_cases hc : shn b j &&& 1 = 1
    · rw [if_pos (hb.mpr hc), xor_i64, show sel (shn b j) 1 x = x from if_pos hc]
      by_cases hg : wrap64 (ib x * 2) > 255
      · rw [if_pos hg] at hd ⊢; rw [hd]
      · rw [if_neg hg] at hd ⊢; rw [hd]
    · rw [if_neg (fun e => hc (hb.mp e)), show sel (shn b j) 1 x = 0 from if_neg hc, x0]
      by_cases hg : wrap64 (ib x * 2) > 255
      · rw [if_pos hg] at hd ⊢; rw [hd]
      · rw [if_neg hg] at hd ⊢; rw [hd]
theorem times_i (a b : UInt8) : Ev (fun k => impl_Times.f k (ib a) (ib b)) (ib (gm a b)) := by
  have h := times_i_loop b 8 0 0 a rfl
  rw [zx] at h
  refine h.congr fun k => ?_
  unfold impl_Times.f
  rw [ib_64]; rfl

/-! ### powers and inverses -/
theorem power_s_loop (a : UInt8) : ∀ (n : Nat) (out : UInt8), n ≤ 1000000 → Ev (fun k => spec_l1Power.l0 k (ib a) (n : Int) (ib out)) (ib (gm out (gp a n)))
  | 0, out, _ => by
    rw [show gp a 0 = 1 from rfl, gm_one]
    exact Ev.step (f := fun _ => some (ib out)) (fun k => by simp only [spec_l1Power.l0]; rw [if_neg (by omega)]) (Ev.now _)
  | n + 1, out, h => by
    have ih := power_s_loop a n (gm out a) (by omega)
    rw [gm_assoc, gm_comm a] at ih
    refine Ev.step (fun k => ?_) (Ev.bind (f := fun k t => spec_l1Power.l0 k (ib a) (n : Int) t) (times_s out a) ih)
    simp only [spec_l1Power.l0]
    rw [if_pos (by omega), v64 (by omega) (by omega), show ((n + 1 : Nat) : Int) - 1 = (n : Int) by omega]
theorem power_s (a : UInt8) (n : Nat) (h : n ≤ 1000000) : Ev (fun k => spec_l1Power.f k (ib a) (n : Int)) (ib (gp a n)) := by
  have h := power_s_loop a n 1 h
  rw [one_gm] at h
  exact h.congr fun k => rfl
theorem odd_i (n : Nat) (h : n ≤ 1000000) : (Go.bits .and .i64 (n : Int) 1) = 1 ↔ n % 2 = 1 := by
  have h2 := (Go.bits_nat .i64 62 (by decide) (fun m h0 h1 => by rw [Go.IntKind.wrap_i64]; omega) n 1 (by omega) (by decide)).1
  rw [show ((1 : Nat) : Int) = 1 from rfl] at h2
  rw [h2, Nat.and_one_is_mod]; omega
theorem power_i_loop : ∀ (N n : Nat) (a out : UInt8), n ≤ N → n ≤ 1000000 → Ev (fun k => impl_power.l0 k (ib a) (n : Int) (ib out)) (ib (gm out (gp a n)))
  | 0, n, a, out, h0, _ => by
    obtain rfl : n = 0 := by omega
    rw [show gp a 0 = 1 from rfl, gm_one]
    exact Ev.step (f := fun _ => some (ib out)) (fun k => by simp only [impl_power.l0]; rw [if_neg (by omega)]) (Ev.now _)
  | N + 1, n, a, out, h0, h => by
    by_cases hn : n = 0
    · subst hn
      rw [show gp a 0 = 1 from rfl, gm_one]
      exact Ev.step (f := fun _ => some (ib out)) (fun k => by simp only [impl_power.l0]; rw [if_neg (by omega)]) (Ev.now _)
    · have ho := odd_i n h
      by_cases hc : n % 2 = 1
      · have ih := power_i_loop N (n / 2) (gm a a) (gm out a) (by omega) (by omega)
        rw [gm_assoc, ← gp_odd, show 2 * (n / 2) + 1 = n by omega] at ih
        refine Ev.step (fun k => ?_) (Ev.bind (f := fun k t => (impl_Times.f k (ib a) (ib a)).bind fun u => impl_power.l0 k u ((n / 2 : Nat) : Int) t) (times_i out a) (Ev.bind (f := fun k u => impl_power.l0 k u ((n / 2 : Nat) : Int) (ib (gm out a))) (times_i a a) ih))
        simp only [impl_power.l0]
        rw [if_pos (by omega), if_pos (ho.mpr hc), show (n : Int) / 2 = ((n / 2 : Nat) : Int) by omega]
      · have ih := power_i_loop N (n / 2) (gm a a) out (by omega) (by omega)
        rw [gp_sq, show 2 * (n / 2) = n by omega] at ih
        refine Ev.step (fun k => ?_) (Ev.bind (f := fun k u => impl_power.l0 k u ((n / 2 : Nat) : Int) (ib out)) (times_i a a) ih)
        simp only [impl_power.l0]
        rw [if_pos (by omega), if_neg (fun e => hc (ho.mp e)), show (n : Int) / 2 = ((n / 2 : Nat) : Int) by omega]
theorem power_i (a : UInt8) (n : Nat) (h : n ≤ 1000000) : Ev (fun k => impl_power.f k (ib a) (n : Int)) (ib (gp a n)) := by
  have h := power_i_loop n n a 1 (Nat.le_refl _) h
  rw [one_gm] at h
  exact h.congr fun k => rfl
theorem inverse_i (a : UInt8) : Ev (fun k => impl_Inverse.f k (ib a)) (ib (inv a)) := by
  refine (Ev.bind (f := fun _ t => some t) (power_i a 254 (by omega)) (Ev.now _)).congr fun k => rfl
theorem inverse_s (a : UInt8) : Ev (fun k => spec_l1Inverse.f k (ib a)) (ib (inv a)) := by
  by_cases h : a = 0
  · subst h
    rw [inv_zero]
    exact (Ev.now (ib 0)).congr fun k => by unfold spec_l1Inverse.f; exact if_pos rfl
  · refine (Ev.bind (f := fun _ t => some t) (power_s a 254 (by omega)) (Ev.now _)).congr fun k => ?_
    unfold spec_l1Inverse.f
    exact if_neg (fun e => h (ib_inj (b := 0) e))
end Go.Proofs.Ytgdjjghdjpaofaa.PureFnAnyFew

/-
  The field of 256 elements in plain Lean: products of bytes by doubling, and their laws, by linearity from the powers of two. No conditions beyond those that each lemma names.
-/
import Derived.Below
namespace Go.Proofs.Ytgdjjghdjpaofaa.GF

theorem all8 {p : UInt8 → Bool} (h : (List.range 256).all (fun n => p (UInt8.ofNat n)) = true) (a : UInt8) : p a = true := by
  have h2 := List.all_eq_true.mp h a.toNat (List.mem_range.mpr a.toNat_lt)
  simpa using h2
/-- v, where the byte c has the bit m. -/
def sel (c m v : UInt8) : UInt8 := if c &&& m = m then v else 0
def xt (a : UInt8) : UInt8 := (a <<< 1) ^^^ sel a 128 27
def gmr : Nat → UInt8 → UInt8 → UInt8
  | 0, _, _ => 0
  | n + 1, a, b => sel b 1 a ^^^ gmr n (xt a) (b >>> 1)
/-- The product. -/
def gm (a b : UInt8) : UInt8 := gmr 8 a b
theorem shr_xor (b c : UInt8) : (b ^^^ c) >>> 1 = (b >>> 1) ^^^ (c >>> 1) := by
  apply UInt8.eq_of_toBitVec_eq
  simp [UInt8.toBitVec_xor, UInt8.toBitVec_shiftRight, BitVec.ushiftRight_xor_distrib]
theorem shl_xor (b c : UInt8) : (b ^^^ c) <<< 1 = (b <<< 1) ^^^ (c <<< 1) := by
  apply UInt8.eq_of_toBitVec_eq
  simp [UInt8.toBitVec_xor, UInt8.toBitVec_shiftLeft, BitVec.shiftLeft_xor_distrib]
theorem and_xor (b c d : UInt8) : (b ^^^ c) &&& d = (b &&& d) ^^^ (c &&& d) := by
  apply UInt8.eq_of_toBitVec_eq
  ext i
  simp
  cases b.toBitVec[i] <;> cases c.toBitVec[i] <;> cases d.toBitVec[i] <;> rfl
theorem xx (a : UInt8) : a ^^^ a = 0 := by simp
theorem x0 (a : UInt8) : a ^^^ 0 = a := by simp
theorem zx (a : UInt8) : 0 ^^^ a = a := by simp
theorem xor4 (a b c d : UInt8) : (a ^^^ b) ^^^ (c ^^^ d) = (a ^^^ c) ^^^ (b ^^^ d) := by
  rw [UInt8.xor_assoc, UInt8.xor_assoc, ← UInt8.xor_assoc b, UInt8.xor_comm b c, UInt8.xor_assoc c]
theorem and_one (b : UInt8) : b &&& 1 = 0 ∨ b &&& 1 = 1 := by
  have h := all8 (p := fun b => decide (b &&& 1 = 0 ∨ b &&& 1 = 1)) (by decide +kernel) b
  exact of_decide_eq_true h
theorem and_top (b : UInt8) : b &&& 128 = 0 ∨ b &&& 128 = 128 := by
  have h := all8 (p := fun b => decide (b &&& 128 = 0 ∨ b &&& 128 = 128)) (by decide +kernel) b
  exact of_decide_eq_true h
theorem sel_bits {m : UInt8} (hm : m ≠ 0) (hb : ∀ b : UInt8, b &&& m = 0 ∨ b &&& m = m) (b c v : UInt8) : sel (b ^^^ c) m v = sel b m v ^^^ sel c m v := by
  unfold sel
  rw [and_xor]
  rcases hb b with h1 | h1 <;> rcases hb c with h2 | h2 <;> rw [h1, h2]
  · rw [x0, if_neg (Ne.symm hm), x0]
  · rw [zx, if_pos rfl, if_neg (Ne.symm hm), zx]
  · rw [x0, if_pos rfl, if_neg (Ne.symm hm), x0]
  · rw [xx, if_neg (Ne.symm hm), if_pos rfl, xx]
theorem sel_xor (c m v u : UInt8) : sel c m (v ^^^ u) = sel c m v ^^^ sel c m u := by
  unfold sel
  by_cases h : c &&& m = m
  · rw [if_pos h, if_pos h, if_pos h]
  · rw [if_neg h, if_neg h, if_neg h, x0]
theorem xt_xor (a b : UInt8) : xt (a ^^^ b) = xt a ^^^ xt b := by
  unfold xt
  rw [shl_xor, sel_bits (by decide) and_top, xor4]
theorem gmr_xor : ∀ n a b c, gmr n a (b ^^^ c) = gmr n a b ^^^ gmr n a c
  | 0, _, _, _ => by simp [gmr]
  | n + 1, a, b, c => by
    simp only [gmr]
    rw [shr_xor, gmr_xor n, sel_bits (by decide) and_one, xor4]
theorem xor_gmr : ∀ n a b c, gmr n (a ^^^ b) c = gmr n a c ^^^ gmr n b c
  | 0, _, _, _ => by simp [gmr]
  | n + 1, a, b, c => by
    simp only [gmr]
    rw [xt_xor, xor_gmr n, sel_xor, xor4]
theorem gm_xor (a b c : UInt8) : gm a (b ^^^ c) = gm a b ^^^ gm a c := gmr_xor 8 a b c
theorem xor_gm (a b c : UInt8) : gm (a ^^^ b) c = gm a c ^^^ gm b c := xor_gmr 8 a b c
def Lin (f : UInt8 → UInt8) : Prop := ∀ a b, f (a ^^^ b) = f a ^^^ f b
theorem Lin.zero {f : UInt8 → UInt8} (h : Lin f) : f 0 = 0 := by
  have := h 0 0
  rw [xx, xx] at this; exact this
theorem Lin.sel {f : UInt8 → UInt8} (h : Lin f) (c m v : UInt8) : f (sel c m v) = GF.sel c m (f v) := by
  unfold GF.sel
  by_cases h2 : c &&& m = m
  · rw [if_pos h2, if_pos h2]
  · rw [if_neg h2, if_neg h2, h.zero]
theorem bits8 (a : UInt8) : a = sel a 1 1 ^^^ (sel a 2 2 ^^^ (sel a 4 4 ^^^ (sel a 8 8 ^^^ (sel a 16 16 ^^^ (sel a 32 32 ^^^ (sel a 64 64 ^^^ sel a 128 128)))))) := by
  have h := all8 (p := fun a => decide (a = sel a 1 1 ^^^ (sel a 2 2 ^^^ (sel a 4 4 ^^^ (sel a 8 8 ^^^ (sel a 16 16 ^^^ (sel a 32 32 ^^^ (sel a 64 64 ^^^ sel a 128 128)))))))) (by decide +kernel) a
  exact of_decide_eq_true h
/-- Two linear maps that agree at the powers of two. -/
theorem Lin.ext {f g : UInt8 → UInt8} (hf : Lin f) (hg : Lin g) (h : f 1 = g 1 ∧ f 2 = g 2 ∧ f 4 = g 4 ∧ f 8 = g 8 ∧ f 16 = g 16 ∧ f 32 = g 32 ∧ f 64 = g 64 ∧ f 128 = g 128) (a : UInt8) : f a = g a := by
  obtain ⟨h1, h2, h3, h4, h5, h6, h7, h8⟩ := h
  rw [bits8 a]
  simp only [hf _ _, hg _ _, hf.sel, hg.sel, h1, h2, h3, h4, h5, h6, h7, h8]
theorem lin_l (b : UInt8) : Lin (fun a => gm a b) := fun a c => xor_gm a c b
theorem lin_r (a : UInt8) : Lin (fun b => gm a b) := fun b c => gm_xor a b c
def P2 : List UInt8 := [1, 2, 4, 8, 16, 32, 64, 128]
theorem Lin.ext2 {f g : UInt8 → UInt8} (hf : Lin f) (hg : Lin g) (h : ∀ p ∈ P2, f p = g p) (a : UInt8) : f a = g a :=
  Lin.ext hf hg ⟨h _ (by decide), h _ (by decide), h _ (by decide), h _ (by decide), h _ (by decide), h _ (by decide), h _ (by decide), h _ (by decide)⟩ a
theorem gm_comm (a b : UInt8) : gm a b = gm b a := by
  have h : ∀ p ∈ P2, ∀ q ∈ P2, gm p q = gm q p := by decide +kernel
  exact Lin.ext2 (lin_l b) (lin_r b) (fun p hp => Lin.ext2 (lin_r p) (lin_l p) (fun q hq => h p hp q hq) b) a
theorem gm_assoc (a b c : UInt8) : gm (gm a b) c = gm a (gm b c) := by
  have h : ∀ p ∈ P2, ∀ q ∈ P2, ∀ r ∈ P2, gm (gm p q) r = gm p (gm q r) := by decide +kernel
  exact Lin.ext2 (f := fun a => gm (gm a b) c) (fun x y => by dsimp only; rw [xor_gm, xor_gm]) (lin_l _)
    (fun p hp => Lin.ext2 (f := fun b => gm (gm p b) c) (g := fun b => gm p (gm b c)) (fun x y => by dsimp only; rw [gm_xor, xor_gm]) (fun x y => by dsimp only; rw [xor_gm, gm_xor])
      (fun q hq => Lin.ext2 (f := fun c => gm (gm p q) c) (g := fun c => gm p (gm q c)) (lin_r _) (fun x y => by dsimp only; rw [gm_xor, gm_xor]) (fun r hr => h p hp q hq r hr) c) b) a
theorem gm_zero (a : UInt8) : gm a 0 = 0 := (lin_r a).zero
theorem zero_gm (a : UInt8) : gm 0 a = 0 := (lin_l a).zero
theorem gm_one (a : UInt8) : gm a 1 = a := by
  have h := all8 (p := fun a => decide (gm a 1 = a)) (by decide +kernel) a
  exact of_decide_eq_true h
theorem one_gm (a : UInt8) : gm 1 a = a := by rw [gm_comm, gm_one]
/-- Powers. -/
def gp (a : UInt8) : Nat → UInt8
  | 0 => 1
  | n + 1 => gm (gp a n) a
theorem gp_add (a : UInt8) (m : Nat) : ∀ n, gp a (m + n) = gm (gp a m) (gp a n)
  | 0 => by show gp a m = gm _ 1; rw [gm_one]
  | n + 1 => by show gm (gp a (m + n)) a = gm _ (gm _ a); rw [gp_add a m n, gm_assoc]
theorem gp_two (a : UInt8) : gp a 2 = gm a a := by show gm (gm 1 a) a = _; rw [one_gm]
theorem gp_one (a : UInt8) : gp a 1 = a := one_gm a
theorem gp_sq (a : UInt8) (n : Nat) : gp (gm a a) n = gp a (2 * n) := by
  induction n with
  | zero => rfl
  | succ n ih => show gm (gp (gm a a) n) (gm a a) = gp a (2 * n + 2); rw [ih, gp_add a (2 * n) 2, gp_two]
theorem gp_odd (a : UInt8) (n : Nat) : gp a (2 * n + 1) = gm a (gp (gm a a) n) := by rw [gp_add, gp_one, ← gp_sq, gm_comm]
def inv (a : UInt8) : UInt8 := gp a 254
def sq (a : UInt8) : UInt8 := gm a a
theorem inv_sq (a : UInt8) : inv a = gm (sq a) (gm (sq (sq a)) (gm (sq (sq (sq a))) (gm (sq (sq (sq (sq a)))) (gm (sq (sq (sq (sq (sq a))))) (gm (sq (sq (sq (sq (sq (sq a)))))) (sq (sq (sq (sq (sq (sq (sq a)))))))))))) := by
  unfold inv sq
  rw [show 254 = 2 * 127 from rfl, ← gp_sq, show 127 = 2 * 63 + 1 from rfl, gp_odd, show 63 = 2 * 31 + 1 from rfl, gp_odd, show 31 = 2 * 15 + 1 from rfl, gp_odd, show 15 = 2 * 7 + 1 from rfl, gp_odd, show 7 = 2 * 3 + 1 from rfl, gp_odd, show 3 = 2 * 1 + 1 from rfl, gp_odd, gp_one]
theorem inv_zero : inv 0 = 0 := by rw [inv_sq]; unfold sq; simp only [zero_gm]
theorem gm_inv {a : UInt8} (h : a ≠ 0) : gm a (inv a) = 1 := by
  have h2 := all8 (p := fun a => decide (a = 0) || (let s := sq a; let t := sq s; let u := sq t; let v := sq u; let x := sq v; let y := sq x; decide (gm a (gm s (gm t (gm u (gm v (gm x (gm y (sq y))))))) = 1))) (by decide +kernel) a
  simp only [h, decide_false, Bool.false_or] at h2
  rw [inv_sq]; exact of_decide_eq_true h2
theorem gm_ne {a b : UInt8} (ha : a ≠ 0) (hb : b ≠ 0) : gm a b ≠ 0 := by
  intro h
  have h2 : gm (inv a) (gm a b) = b := by rw [← gm_assoc, gm_comm (inv a), gm_inv ha, one_gm]
  rw [h, gm_zero] at h2; exact hb h2.symm
end Go.Proofs.Ytgdjjghdjpaofaa.GF

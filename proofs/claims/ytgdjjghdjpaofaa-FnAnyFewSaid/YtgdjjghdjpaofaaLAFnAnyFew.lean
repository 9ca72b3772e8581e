/-
  Linear algebra over the field of 256 elements, with matrices as functions of two indices: elimination by Gauss and Jordan keeps kernels and the independence of rows; what it tells of rank and inverse; parts of Cauchy's matrix. No conditions beyond those that each lemma names.
-/
import Derived.Test.YtgdjjghdjpaofaaGFFnAnyFew
namespace Go.Proofs.Ytgdjjghdjpaofaa.LA
open GF
set_option linter.unusedVariables false
set_option linter.unusedSimpArgs false

/-- The sum of the first n. -/
def sm : Nat → (Nat → UInt8) → UInt8
  | 0, _ => 0
  | n + 1, f => sm n f ^^^ f n
theorem sm_congr {f g : Nat → UInt8} : ∀ n, (∀ i, i < n → f i = g i) → sm n f = sm n g
  | 0, _ => rfl
  | n + 1, h => by simp only [sm]; rw [sm_congr n (fun i hi => h i (by omega)), h n (by omega)]
theorem sm_zero : ∀ n, sm n (fun _ => 0) = 0
  | 0 => rfl
  | n + 1 => by simp only [sm]; rw [sm_zero n, xx]
theorem sm_nil {f : Nat → UInt8} (n : Nat) (h : ∀ i, i < n → f i = 0) : sm n f = 0 := by rw [sm_congr n h, sm_zero]
theorem sm_xor (f g : Nat → UInt8) : ∀ n, sm n (fun i => f i ^^^ g i) = sm n f ^^^ sm n g
  | 0 => by simp [sm]
  | n + 1 => by simp only [sm]; rw [sm_xor f g n, xor4]
theorem gm_sm (a : UInt8) (f : Nat → UInt8) : ∀ n, gm a (sm n f) = sm n (fun i => gm a (f i))
  | 0 => gm_zero a
  | n + 1 => by simp only [sm]; rw [gm_xor, gm_sm a f n]
theorem sm_gm (a : UInt8) (f : Nat → UInt8) (n : Nat) : gm (sm n f) a = sm n (fun i => gm (f i) a) := by
  rw [gm_comm, gm_sm]; exact sm_congr n (fun i _ => gm_comm _ _)
theorem sm_comm (f : Nat → Nat → UInt8) (m : Nat) : ∀ n, sm n (fun i => sm m (fun j => f i j)) = sm m (fun j => sm n (fun i => f i j))
  | 0 => by simp only [sm]; rw [sm_zero]
  | n + 1 => by simp only [sm]; rw [sm_comm f m n, ← sm_xor]
theorem sm_one (f : Nat → UInt8) (i : Nat) : ∀ n, i < n → (∀ j, j < n → j ≠ i → f j = 0) → sm n f = f i
  | 0, h, _ => absurd h (by omega)
  | n + 1, h, hz => by
    simp only [sm]
    by_cases e : i = n
    · subst e; rw [sm_nil i (fun j hj => hz j (by omega) (by omega)), zx]
    · rw [sm_one f i n (by omega) (fun j hj hn => hz j (by omega) hn), hz n (by omega) (Ne.symm e), x0]
theorem sm_two (f : Nat → UInt8) (a b n : Nat) (ha : a < n) (hb : b < n) (hab : a ≠ b) (hz : ∀ j, j < n → j ≠ a → j ≠ b → f j = 0) : sm n f = f a ^^^ f b := by
  have e : sm n f = sm n (fun j => (if j = a then f j else 0) ^^^ (if j = b then f j else 0)) := sm_congr n (fun j hj => by
    by_cases h1 : j = a
    · subst h1; rw [if_pos rfl, if_neg hab, x0]
    · by_cases h2 : j = b
      · subst h2; rw [if_neg h1, if_pos rfl, zx]
      · rw [if_neg h1, if_neg h2, x0, hz j hj h1 h2])
  rw [e, sm_xor, sm_one _ a n ha (fun j _ h => if_neg h), sm_one _ b n hb (fun j _ h => if_neg h), if_pos rfl, if_pos rfl]
theorem sm_split (f : Nat → UInt8) (m : Nat) : ∀ n, sm (m + n) f = sm m f ^^^ sm n (fun i => f (m + i))
  | 0 => by simp only [sm, Nat.add_zero]; rw [x0]
  | n + 1 => by rw [← Nat.add_assoc]; simp only [sm]; rw [sm_split f m n, UInt8.xor_assoc]
theorem xeq {a b : UInt8} (h : a ^^^ b = 0) : a = b := by
  have : (a ^^^ b) ^^^ b = 0 ^^^ b := by rw [h]
  rw [UInt8.xor_assoc, xx, x0, zx] at this; exact this
theorem gm_eq_zero {a b : UInt8} (h : gm a b = 0) : a = 0 ∨ b = 0 := by
  by_cases ha : a = 0
  · exact Or.inl ha
  · by_cases hb : b = 0
    · exact Or.inr hb
    · exact absurd h (gm_ne ha hb)

theorem xor_a (x y z : UInt8) : ((x ^^^ (x ^^^ y)) ^^^ (z ^^^ y)) ^^^ z = 0 := by
  apply UInt8.eq_of_toBitVec_eq
  ext i
  simp
  cases x.toBitVec[i] <;> cases y.toBitVec[i] <;> cases z.toBitVec[i] <;> rfl
abbrev Mat := Nat → Nat → UInt8
/-- x is sent to 0 by R rows of N elements. -/
def Ker (R N : Nat) (M : Mat) (x : Nat → UInt8) : Prop := ∀ i, i < R → sm N (fun j => gm (M i j) (x j)) = 0
/-- R rows of N elements are independent. -/
def Ind (R N : Nat) (M : Mat) : Prop := ∀ c : Nat → UInt8, (∀ j, j < N → sm R (fun i => gm (c i) (M i j)) = 0) → ∀ i, i < R → c i = 0
def swp (M : Mat) (a b : Nat) : Mat := fun i => if i = a then M b else if i = b then M a else M i
def scl (M : Mat) (a : Nat) (s : UInt8) : Mat := fun i j => if i = a then gm s (M a j) else M i j
def adr (M : Mat) (r a : Nat) (f : UInt8) : Mat := fun i j => if i = r then M r j ^^^ gm f (M a j) else M i j
theorem swp_swp (M : Mat) (a b : Nat) : swp (swp M a b) a b = M := by
  funext i j
  unfold swp
  by_cases h1 : i = a
  · subst h1; rw [if_pos rfl]
    by_cases h2 : b = i
    · subst h2; rw [if_pos rfl]
    · rw [if_neg h2, if_pos rfl]
  · rw [if_neg h1]
    by_cases h2 : i = b
    · subst h2; rw [if_pos rfl, if_pos rfl]
    · rw [if_neg h2, if_neg h1, if_neg h2]
theorem scl_scl (M : Mat) (a : Nat) (s t : UInt8) (h : gm s t = 1) : scl (scl M a t) a s = M := by
  funext i j
  unfold scl
  by_cases h1 : i = a
  · subst h1; rw [if_pos rfl, if_pos rfl, ← gm_assoc, h, one_gm]
  · rw [if_neg h1, if_neg h1]
theorem adr_adr (M : Mat) (r a : Nat) (f : UInt8) (h : r ≠ a) : adr (adr M r a f) r a f = M := by
  funext i j
  unfold adr
  by_cases h1 : i = r
  · subst h1; rw [if_pos rfl, if_pos rfl, if_neg (Ne.symm h), UInt8.xor_assoc, xx, x0]
  · rw [if_neg h1, if_neg h1]
theorem ker_swp {R N : Nat} {M : Mat} {x : Nat → UInt8} (a b : Nat) (ha : a < R) (hb : b < R) (h : Ker R N M x) : Ker R N (swp M a b) x := by
  intro i hi
  unfold swp
  by_cases h1 : i = a
  · rw [if_pos h1]; exact h b hb
  · rw [if_neg h1]
    by_cases h2 : i = b
    · rw [if_pos h2]; exact h a ha
    · rw [if_neg h2]; exact h i hi
theorem ker_scl {R N : Nat} {M : Mat} {x : Nat → UInt8} (a : Nat) (s : UInt8) (h : Ker R N M x) : Ker R N (scl M a s) x := by
  intro i hi
  by_cases h1 : i = a
  · subst h1
    rw [sm_congr N (g := fun j => gm s (gm (M i j) (x j))) (fun j _ => by unfold scl; rw [if_pos rfl, gm_assoc]), ← gm_sm, h i hi, gm_zero]
  · rw [sm_congr N (g := fun j => gm (M i j) (x j)) (fun j _ => by unfold scl; rw [if_neg h1])]; exact h i hi
theorem ker_adr {R N : Nat} {M : Mat} {x : Nat → UInt8} (r a : Nat) (f : UInt8) (ha : a < R) (h : Ker R N M x) : Ker R N (adr M r a f) x := by
  intro i hi
  by_cases h1 : i = r
  · subst h1
    rw [sm_congr N (g := fun j => gm (M i j) (x j) ^^^ gm f (gm (M a j) (x j))) (fun j _ => by unfold adr; rw [if_pos rfl, xor_gm, gm_assoc]), sm_xor, ← gm_sm, h i hi, h a ha, gm_zero, x0]
  · rw [sm_congr N (g := fun j => gm (M i j) (x j)) (fun j _ => by unfold adr; rw [if_neg h1])]; exact h i hi
theorem ind_swp {R N : Nat} {M : Mat} (a b : Nat) (ha : a < R) (hb : b < R) (h : Ind R N M) : Ind R N (swp M a b) := by
  by_cases hab : a = b
  · subst hab
    have e : swp M a a = M := by funext i j; unfold swp; by_cases h1 : i = a; · subst h1; rw [if_pos rfl]
                                 rw [if_neg h1, if_neg h1]
    rw [e]; exact h
  intro c hc
  have h2 := h (fun i => if i = a then c b else if i = b then c a else c i) (fun j hj => by
    rw [← hc j hj]
    have e : sm R (fun i => gm (if i = a then c b else if i = b then c a else c i) (M i j)) ^^^ sm R (fun i => gm (c i) (swp M a b i j)) = 0 := by
      rw [← sm_xor, sm_two _ a b R ha hb hab (fun i _ h1 h2 => by unfold swp; rw [if_neg h1, if_neg h2, if_neg h1, if_neg h2, xx])]
      unfold swp
      rw [if_pos rfl, if_pos rfl, if_neg (Ne.symm hab), if_pos rfl, if_neg (Ne.symm hab), if_pos rfl, xor4, UInt8.xor_comm (gm (c a) (M b j)), xor4, xx, xx, xx]
    exact xeq e)
  intro i hi
  by_cases h1 : i = a
  · subst h1; have := h2 b hb; rw [if_neg (Ne.symm hab), if_pos rfl] at this; exact this
  · by_cases h3 : i = b
    · subst h3; have := h2 a ha; rw [if_pos rfl] at this; exact this
    · have := h2 i hi; rw [if_neg h1, if_neg h3] at this; exact this
theorem ind_scl {R N : Nat} {M : Mat} (a : Nat) (s : UInt8) (hs : s ≠ 0) (h : Ind R N M) : Ind R N (scl M a s) := by
  intro c hc
  have h2 := h (fun i => if i = a then gm (c i) s else c i) (fun j hj => by
    rw [← hc j hj]
    refine sm_congr R (fun i _ => ?_)
    unfold scl
    by_cases h1 : i = a
    · subst h1; rw [if_pos rfl, if_pos rfl, gm_assoc]
    · rw [if_neg h1, if_neg h1])
  intro i hi
  have h3 := h2 i hi
  by_cases h1 : i = a
  · rw [if_pos h1] at h3
    rcases gm_eq_zero h3 with h4 | h4
    · exact h4
    · exact absurd h4 hs
  · rw [if_neg h1] at h3; exact h3
theorem ind_adr {R N : Nat} {M : Mat} (r a : Nat) (f : UInt8) (hr : r < R) (ha : a < R) (hra : r ≠ a) (h : Ind R N M) : Ind R N (adr M r a f) := by
  intro c hc
  have h2 := h (fun i => if i = a then c a ^^^ gm (c r) f else c i) (fun j hj => by
    rw [← hc j hj]
    have e : sm R (fun i => gm (if i = a then c a ^^^ gm (c r) f else c i) (M i j)) ^^^ sm R (fun i => gm (c i) (adr M r a f i j)) = 0 := by
      rw [← sm_xor, sm_two _ r a R hr ha hra (fun i _ h1 h2 => by unfold adr; rw [if_neg h1, if_neg h2, xx])]
      unfold adr
      rw [if_pos rfl, if_pos rfl, if_neg hra, if_neg (Ne.symm hra), gm_xor, xor_gm, gm_assoc, ← UInt8.xor_assoc, xor_a]
    exact xeq e)
  have h3 := h2 r hr
  rw [if_neg hra] at h3
  intro i hi
  by_cases h1 : i = a
  · subst h1; have := h2 i hi; rw [if_pos rfl, h3, zero_gm, x0] at this; exact this
  · have := h2 i hi; rw [if_neg h1] at this; exact this
/-- Alike: the same kernel, and independent at the same time. -/
structure Alike (R N : Nat) (M M' : Mat) : Prop where
  ker : ∀ x, Ker R N M x ↔ Ker R N M' x
  ind : Ind R N M ↔ Ind R N M'
theorem Alike.refl {R N : Nat} (M : Mat) : Alike R N M M := ⟨fun _ => Iff.rfl, Iff.rfl⟩
theorem Alike.trans {R N : Nat} {A B C : Mat} (h : Alike R N A B) (g : Alike R N B C) : Alike R N A C := ⟨fun x => (h.ker x).trans (g.ker x), h.ind.trans g.ind⟩
theorem alike_swp {R N : Nat} (M : Mat) (a b : Nat) (ha : a < R) (hb : b < R) : Alike R N M (swp M a b) :=
  ⟨fun _ => ⟨ker_swp a b ha hb, fun h => by have := ker_swp a b ha hb h; rwa [swp_swp] at this⟩, ⟨ind_swp a b ha hb, fun h => by have := ind_swp a b ha hb h; rwa [swp_swp] at this⟩⟩
theorem alike_scl {R N : Nat} (M : Mat) (a : Nat) (s : UInt8) (hs : s ≠ 0) : Alike R N M (scl M a s) := by
  have hi : gm (inv s) s = 1 := by rw [gm_comm, gm_inv hs]
  have hn : inv s ≠ 0 := fun h => by rw [h, zero_gm] at hi; exact absurd hi (by decide)
  exact ⟨fun _ => ⟨ker_scl a s, fun h => by have := ker_scl a (inv s) h; rwa [scl_scl _ _ _ _ hi] at this⟩, ⟨ind_scl a s hs, fun h => by have := ind_scl a (inv s) hn h; rwa [scl_scl _ _ _ _ hi] at this⟩⟩
theorem alike_adr {R N : Nat} (M : Mat) (r a : Nat) (f : UInt8) (hr : r < R) (ha : a < R) (hra : r ≠ a) : Alike R N M (adr M r a f) :=
  ⟨fun _ => ⟨ker_adr r a f ha, fun h => by have := ker_adr r a f ha h; rwa [adr_adr _ _ _ _ hra] at this⟩, ⟨ind_adr r a f hr ha hra, fun h => by have := ind_adr r a f hr ha hra h; rwa [adr_adr _ _ _ _ hra] at this⟩⟩

/-- Column k is cleared in the first rows, but for row a. -/
def clr (a k : Nat) : Nat → Mat → Mat
  | 0, M => M
  | r + 1, M => if r = a then clr a k r M else adr (clr a k r M) r a (clr a k r M r k)
theorem alike_clr {N R : Nat} (a k : Nat) (ha : a < R) (M : Mat) : ∀ r, r ≤ R → Alike R N M (clr a k r M)
  | 0, _ => Alike.refl _
  | r + 1, h => by
    simp only [clr]
    by_cases e : r = a
    · rw [if_pos e]; exact alike_clr a k ha M r (by omega)
    · rw [if_neg e]; exact (alike_clr a k ha M r (by omega)).trans (alike_adr _ r a _ (by omega) ha e)
theorem clr_at (a k : Nat) (M : Mat) (i j : Nat) : ∀ r, clr a k r M i j = if i < r ∧ i ≠ a then M i j ^^^ gm (M i k) (M a j) else M i j
  | 0 => by rw [if_neg (by omega)]; rfl
  | r + 1 => by
    simp only [clr]
    by_cases e : r = a
    · rw [if_pos e, clr_at a k M i j r]
      by_cases h : i < r ∧ i ≠ a
      · rw [if_pos h, if_pos (by omega)]
      · rw [if_neg h, if_neg (by omega)]
    · rw [if_neg e]
      unfold adr
      by_cases h : i = r
      · subst h
        rw [if_pos rfl, if_pos (by omega), clr_at a k M i j i, clr_at a k M i k i, clr_at a k M a j i, if_neg (by omega), if_neg (by omega), if_neg (by omega)]
      · rw [if_neg h, clr_at a k M i j r]
        by_cases h2 : i < r ∧ i ≠ a
        · rw [if_pos h2, if_pos (by omega)]
        · rw [if_neg h2, if_neg (by omega)]
/-- The first row from a on, of so many, that has no 0 in column k. -/
def fnd (M : Mat) (k : Nat) : Nat → Nat → Option Nat
  | 0, _ => none
  | n + 1, a => if M a k ≠ 0 then some a else fnd M k n (a + 1)
theorem fnd_some {M : Mat} {k i : Nat} : ∀ n a, fnd M k n a = some i → a ≤ i ∧ i < a + n ∧ M i k ≠ 0
  | 0, _, h => by simp [fnd] at h
  | n + 1, a, h => by
    simp only [fnd] at h
    by_cases e : M a k ≠ 0
    · rw [if_pos e] at h; obtain rfl := Option.some.inj h; exact ⟨by omega, by omega, e⟩
    · rw [if_neg e] at h; obtain ⟨h1, h2, h3⟩ := fnd_some n (a + 1) h; exact ⟨by omega, by omega, h3⟩
theorem fnd_none {M : Mat} {k : Nat} : ∀ n a, fnd M k n a = none → ∀ i, a ≤ i → i < a + n → M i k = 0
  | 0, _, _, _, _, _ => by omega
  | n + 1, a, h, i, h1, h2 => by
    simp only [fnd] at h
    by_cases e : M a k ≠ 0
    · rw [if_pos e] at h; simp at h
    · rw [if_neg e] at h
      by_cases h3 : i = a
      · subst h3; exact Decidable.not_not.mp e
      · exact fnd_none n (a + 1) h i (by omega) (by omega)
/-- What one column does, where row i is the first to serve. -/
def piv (R k a i : Nat) (M : Mat) : Mat := clr a k R (scl (swp M a i) a (inv (M i k)))
def stp (R k : Nat) (s : Mat × Nat) : Mat × Nat :=
  match fnd s.1 k (R - s.2) s.2 with
  | none => s
  | some i => (piv R k s.2 i s.1, s.2 + 1)
/-- Elimination over the first columns: the rows, and their rank there. -/
def elm (R : Nat) : Nat → Mat → Mat × Nat
  | 0, M => (M, 0)
  | k + 1, M => stp R k (elm R k M)
theorem alike_piv {R N k a i : Nat} (M : Mat) (ha : a < R) (hi : i < R) (hp : M i k ≠ 0) : Alike R N M (piv R k a i M) := by
  have hn : inv (M i k) ≠ 0 := fun h => by have := gm_inv hp; rw [h, gm_zero] at this; exact absurd this (by decide)
  exact ((alike_swp M a i ha hi).trans (alike_scl _ a _ hn)).trans (alike_clr a k ha _ R (Nat.le_refl _))
theorem piv_at {R k a i : Nat} (M : Mat) (r j : Nat) (hr : r < R) : piv R k a i M r j = if r = a then gm (inv (M i k)) (M i j) else swp M a i r j ^^^ gm (swp M a i r k) (gm (inv (M i k)) (M i j)) := by
  have s1 : ∀ q, scl (swp M a i) a (inv (M i k)) a q = gm (inv (M i k)) (M i q) := fun q => by unfold scl swp; rw [if_pos rfl, if_pos rfl]
  unfold piv
  rw [clr_at]
  by_cases e : r = a
  · subst e; rw [if_neg (by omega), if_pos rfl, s1]
  · rw [if_pos ⟨hr, e⟩, if_neg e, s1]
    unfold scl
    rw [if_neg e, if_neg e]
/-- What stands after the first columns. -/
structure After (R N k : Nat) (M0 M : Mat) (a : Nat) : Prop where
  like : Alike R N M0 M
  le : a ≤ k
  leR : a ≤ R
  low : ∀ i, a ≤ i → i < R → ∀ j, j < k → M i j = 0
  pivs : ∃ p : Nat → Nat, ∀ i, i < a → p i < k ∧ ∀ r, r < R → M r (p i) = if r = i then 1 else 0
  full : a = k → ∀ r, r < R → ∀ j, j < k → M r j = if r = j then 1 else 0
  part : a < k → ∃ x : Nat → UInt8, (∃ j, j < k ∧ x j ≠ 0) ∧ (∀ j, k ≤ j → x j = 0) ∧ Ker R N M x
/-- What is sent to 0 where column k has no row of its own. -/
def kv (M : Mat) (k j : Nat) : UInt8 := if j < k then M j k else if j = k then 1 else 0
theorem kv_lt {M : Mat} {k j : Nat} (h : j < k) : kv M k j = M j k := if_pos h
theorem kv_eq {M : Mat} {k : Nat} : kv M k k = 1 := by unfold kv; rw [if_neg (by omega), if_pos rfl]
theorem kv_gt {M : Mat} {k j : Nat} (h : k < j) : kv M k j = 0 := by unfold kv; rw [if_neg (by omega), if_neg (by omega)]
theorem after_elm (R N : Nat) (M0 : Mat) : ∀ k, k ≤ N → After R N k M0 (elm R k M0).1 (elm R k M0).2
  | 0, _ => ⟨Alike.refl _, Nat.le_refl _, Nat.zero_le _, fun _ _ _ _ h => absurd h (by omega), ⟨fun i => i, fun _ h => absurd h (by simp [elm])⟩, fun _ _ _ _ h => absurd h (by omega), fun h => absurd h (by simp [elm])⟩
  | k + 1, hN => by
    have A := after_elm R N M0 k (by omega)
    simp only [elm, stp]
    generalize elm R k M0 = s at A ⊢
    obtain ⟨M, a⟩ := s
    dsimp only at A ⊢
    cases hf : fnd M k (R - a) a with
    | none =>
      dsimp only
      have hz := fnd_none _ _ hf
      have le := A.le
      have leR := A.leR
      refine ⟨A.like, by show a ≤ k + 1; omega, leR, fun i h1 h2 j h3 => ?_, ?_, fun h => absurd h (by show ¬ a = k + 1; omega), fun _ => ?_⟩
      · by_cases e : j = k
        · subst e; exact hz i h1 (by omega)
        · exact A.low i h1 h2 j (by omega)
      · obtain ⟨p, hp⟩ := A.pivs
        exact ⟨p, fun i hi => ⟨by have := (hp i hi).1; omega, (hp i hi).2⟩⟩
      · by_cases e : a = k
        · have F := A.full e
          refine ⟨kv M k, ⟨k, by omega, by rw [kv_eq]; decide⟩, fun j hj => kv_gt (by omega), ?_⟩
          intro i hi
          by_cases h1 : i < k
          · rw [sm_two _ i k N (by omega) (by omega) (by omega) (fun j hj h2 h3 => ?_)]
            · rw [kv_lt h1, kv_eq, F i hi i h1, if_pos rfl, one_gm, gm_one, xx]
            · by_cases h4 : j < k
              · rw [F i hi j h4, if_neg (Ne.symm h2), zero_gm]
              · rw [kv_gt (by omega), gm_zero]
          · refine sm_nil N (fun j hj => ?_)
            by_cases h4 : j < k
            · rw [A.low i (by omega) hi j h4, zero_gm]
            · by_cases h5 : j = k
              · subst h5; rw [hz i (by omega) (by omega), zero_gm]
              · rw [kv_gt (by omega), gm_zero]
        · obtain ⟨x, ⟨j, hj, hx⟩, hx2, hk⟩ := A.part (by omega)
          exact ⟨x, ⟨j, by omega, hx⟩, fun j hj => hx2 j (by omega), hk⟩
    | some i =>
      dsimp only
      obtain ⟨h1, h2, h3⟩ := fnd_some _ _ hf
      have le := A.le
      have leR := A.leR
      have haR : a < R := by omega
      have hiR : i < R := by omega
      have hlow : ∀ j, j < k → M i j = 0 := A.low i h1 hiR
      have hinv : gm (inv (M i k)) (M i k) = 1 := by rw [gm_comm, gm_inv h3]
      -- an old column stays
      have hold : ∀ r j, r < R → j < k → piv R k a i M r j = swp M a i r j := fun r j hr hj => by
        rw [piv_at M r j hr]
        by_cases e : r = a
        · subst e; rw [if_pos rfl, hlow j hj, gm_zero]; unfold swp; rw [if_pos rfl, hlow j hj]
        · rw [if_neg e, hlow j hj, gm_zero, gm_zero, x0]
      have hnew : ∀ r, r < R → piv R k a i M r k = if r = a then 1 else 0 := fun r hr => by
        rw [piv_at M r k hr]
        by_cases e : r = a
        · rw [if_pos e, if_pos e, hinv]
        · rw [if_neg e, if_neg e, hinv, gm_one, xx]
      have hsw : ∀ r j, a ≤ r → r < R → j < k → swp M a i r j = 0 := fun r j h4 h5 hj => by
        unfold swp
        by_cases e1 : r = a
        · rw [if_pos e1]; exact hlow j hj
        · rw [if_neg e1]
          by_cases e2 : r = i
          · rw [if_pos e2]; exact A.low a (Nat.le_refl _) haR j hj
          · rw [if_neg e2]; exact A.low r h4 h5 j hj
      have hup : ∀ r j, r < a → swp M a i r j = M r j := fun r j h4 => by unfold swp; rw [if_neg (by omega), if_neg (by omega)]
      have hdel : ∀ q, q < k → ∀ t, t < a → (∀ r, r < R → M r q = if r = t then 1 else 0) → ∀ r, r < R → piv R k a i M r q = if r = t then 1 else 0 := fun q hq t ht hM r hr => by
        rw [hold r q hr hq]
        by_cases e : r < a
        · rw [hup r q e, hM r hr]
        · rw [hsw r q (by omega) hr hq, if_neg (by omega)]
      refine ⟨A.like.trans (alike_piv M haR hiR h3), by show a + 1 ≤ k + 1; omega, by show a + 1 ≤ R; omega, fun r h4 h5 j h6 => ?_, ?_, fun h => ?_, fun h => ?_⟩
      · have h4' : a + 1 ≤ r := h4
        by_cases e : j = k
        · subst e; show piv R j a i M r j = 0; rw [hnew r h5, if_neg (by omega)]
        · show piv R k a i M r j = 0
          rw [hold r j h5 (by omega)]; exact hsw r j (by omega) h5 (by omega)
      · obtain ⟨p, hp⟩ := A.pivs
        refine ⟨fun t => if t < a then p t else k, fun t ht => ?_⟩
        have ht' : t < a + 1 := ht
        by_cases e : t < a
        · show (if t < a then p t else k) < k + 1 ∧ ∀ r, r < R → piv R k a i M r (if t < a then p t else k) = _
          rw [if_pos e]
          exact ⟨by have := (hp t e).1; omega, hdel (p t) (hp t e).1 t e (hp t e).2⟩
        · show (if t < a then p t else k) < k + 1 ∧ ∀ r, r < R → piv R k a i M r (if t < a then p t else k) = _
          obtain rfl : t = a := by omega
          rw [if_neg e]
          exact ⟨by omega, hnew⟩
      · have h' : a = k := by have : a + 1 = k + 1 := h; omega
        subst h'
        intro r hr j hj
        show piv R a a i M r j = _
        by_cases e : j = a
        · subst e; exact hnew r hr
        · exact hdel j (by omega) j (by omega) (fun q hq => A.full rfl q hq j (by omega)) r hr
      · obtain ⟨x, ⟨j, hj, hx⟩, hx2, hk⟩ := A.part (by have : a + 1 < k + 1 := h; omega)
        exact ⟨x, ⟨j, by omega, hx⟩, fun j hj => hx2 j (by omega), ((alike_piv M haR hiR h3).ker x).mp hk⟩

/-- The rank of R rows of n elements. -/
def rnk (R n : Nat) (M : Mat) : Nat := (elm R n M).2
theorem rnk_le (R n : Nat) (M : Mat) : rnk R n M ≤ n ∧ rnk R n M ≤ R := ⟨(after_elm R n M n (Nat.le_refl _)).le, (after_elm R n M n (Nat.le_refl _)).leR⟩
/-- The rank is full where nothing else than 0 is sent to 0. -/
theorem rnk_ker (R n : Nat) (M : Mat) : rnk R n M = n ↔ ∀ x, Ker R n M x → ∀ j, j < n → x j = 0 := by
  have A := after_elm R n M n (Nat.le_refl _)
  unfold rnk
  generalize (elm R n M).1 = M' at A
  generalize (elm R n M).2 = a at A
  have h1 := A.le
  constructor
  · intro h x hx j hj
    have F := A.full h
    have := (A.like.ker x).mp hx j (by have := A.leR; omega)
    rw [sm_one _ j n hj (fun q hq hn => by rw [F j (by have := A.leR; omega) q hq, if_neg (Ne.symm hn), zero_gm]), F j (by have := A.leR; omega) j hj, if_pos rfl, one_gm] at this
    exact this
  · intro h
    by_cases e : a = n
    · exact e
    · obtain ⟨x, ⟨j, hj, hx⟩, _, hk⟩ := A.part (by omega)
      exact absurd (h x ((A.like.ker x).mpr hk) j hj) hx
theorem rnk_ind (R n : Nat) (M : Mat) : rnk R n M = R ↔ Ind R n M := by
  have A := after_elm R n M n (Nat.le_refl _)
  unfold rnk
  generalize (elm R n M).1 = M' at A
  generalize (elm R n M).2 = a at A
  have h1 := A.leR
  constructor
  · intro h
    subst h
    refine A.like.ind.mpr (fun c hc i hi => ?_)
    obtain ⟨p, hp⟩ := A.pivs
    have := hc (p i) (hp i hi).1
    rw [sm_one _ i a hi (fun q hq hn => by rw [(hp i hi).2 q hq, if_neg hn, gm_zero]), (hp i hi).2 i hi, if_pos rfl, gm_one] at this
    exact this
  · intro h
    by_cases e : a = R
    · exact e
    · have := A.like.ind.mp h (fun i => if i = a then 1 else 0) (fun j hj => sm_nil R (fun i hi => by
        by_cases h2 : i = a
        · subst h2; rw [A.low i (Nat.le_refl _) hi j hj, gm_zero]
        · rw [if_neg h2, zero_gm])) a (by omega)
      rw [if_pos rfl] at this
      exact absurd this (by decide)
/-- A square matrix beside the identity. -/
def aug (n : Nat) (A : Mat) : Mat := fun i j => if j < n then A i j else if j - n = i then 1 else 0
theorem elm_congr (R : Nat) {M M' : Mat} {n : Nat} (h : ∀ i j, j < n → M i j = M' i j) : ∀ k, k ≤ n → (elm R k M).2 = (elm R k M').2 ∧ ∀ i, i < R → ∀ j, j < n → (elm R k M).1 i j = (elm R k M').1 i j
  | 0, _ => ⟨rfl, fun i _ j hj => h i j hj⟩
  | k + 1, hk => by
    obtain ⟨h1, h2⟩ := elm_congr R h k (by omega)
    simp only [elm, stp]
    generalize elm R k M = s at h1 h2 ⊢
    generalize elm R k M' = s' at h1 h2 ⊢
    obtain ⟨X, a⟩ := s
    obtain ⟨Y, b⟩ := s'
    dsimp only at h1 h2 ⊢
    subst h1
    have hf : ∀ m q, q + m ≤ R → fnd X k m q = fnd Y k m q := by
      intro m
      induction m with
      | zero => intro q _; rfl
      | succ m ih => intro q hq; simp only [fnd]; rw [h2 q (by omega) k (by omega), ih (q + 1) (by omega)]
    by_cases ha : a ≤ R
    · rw [hf (R - a) a (by omega)]
      cases hg : fnd Y k (R - a) a with
      | none => exact ⟨rfl, h2⟩
      | some i =>
        obtain ⟨g1, g2, g3⟩ := fnd_some _ _ hg
        refine ⟨rfl, fun r hr j hj => ?_⟩
        show piv R k a i X r j = piv R k a i Y r j
        have hs : ∀ q, q < n → swp X a i r q = swp Y a i r q := fun q hq => by
          unfold swp
          by_cases e1 : r = a
          · rw [if_pos e1, if_pos e1]; exact h2 i (by omega) q hq
          · rw [if_neg e1, if_neg e1]
            by_cases e2 : r = i
            · rw [if_pos e2, if_pos e2]; exact h2 a (by omega) q hq
            · rw [if_neg e2, if_neg e2]; exact h2 r hr q hq
        rw [piv_at X r j hr, piv_at Y r j hr, h2 i (by omega) k (by omega), h2 i (by omega) j hj, hs j hj, hs k (by omega)]
    · have e : R - a = 0 := by omega
      rw [e]; exact ⟨rfl, h2⟩
theorem rnk_aug (n : Nat) (A : Mat) : (elm n n (aug n A)).2 = rnk n n A := (elm_congr n (fun i j hj => by unfold aug; rw [if_pos hj]) n (Nat.le_refl _)).1
/-- The inverse, where the rank is full. -/
def ivs (n : Nat) (A : Mat) : Mat := fun i j => (elm n n (aug n A)).1 i (n + j)
/-- A vector and what it is sent to, one behind the other. -/
def uv (n : Nat) (A : Mat) (u : Nat → UInt8) (j : Nat) : UInt8 := if j < n then u j else sm n (fun l => gm (A (j - n) l) (u l))
theorem uv_lt {n : Nat} {A : Mat} {u : Nat → UInt8} {j : Nat} (h : j < n) : uv n A u j = u j := if_pos h
theorem uv_add (n : Nat) (A : Mat) (u : Nat → UInt8) (j : Nat) : uv n A u (n + j) = sm n (fun l => gm (A j l) (u l)) := by
  unfold uv; rw [if_neg (by omega), show n + j - n = j by omega]
theorem aug_lt {n : Nat} {A : Mat} {i j : Nat} (h : j < n) : aug n A i j = A i j := if_pos h
theorem aug_add (n : Nat) (A : Mat) (i j : Nat) : aug n A i (n + j) = if j = i then 1 else 0 := by
  unfold aug; rw [if_neg (by omega), show n + j - n = j by omega]
theorem ivs_mul (n : Nat) (A : Mat) (h : rnk n n A = n) (u : Nat → UInt8) (i : Nat) (hi : i < n) : sm n (fun k => gm (ivs n A i k) (sm n (fun l => gm (A k l) (u l)))) = u i := by
  have F := after_elm n (n + n) (aug n A) n (by omega)
  have hF := F.full (by rw [rnk_aug, h])
  have hk : Ker n (n + n) (aug n A) (uv n A u) := by
    intro r hr
    rw [sm_split, sm_congr n (g := fun j => gm (A r j) (u j)) (fun j hj => by rw [aug_lt hj, uv_lt hj]),
      sm_one (fun j => gm (aug n A r (n + j)) (uv n A u (n + j))) r n hr (fun j hj hn => by rw [aug_add, if_neg hn, zero_gm])]
    rw [aug_add, if_pos rfl, uv_add, one_gm, xx]
  have := (F.like.ker _).mp hk i hi
  rw [sm_split, sm_one (fun j => gm ((elm n n (aug n A)).1 i j) (uv n A u j)) i n hi (fun j hj hn => by rw [hF i hi j hj, if_neg (Ne.symm hn), zero_gm]), hF i hi i hi, if_pos rfl, one_gm, uv_lt hi] at this
  rw [xeq this]
  refine sm_congr n (fun k hk => ?_)
  rw [uv_add]; rfl

/-- A sum over a list of pairs 'x, b': x / (a + b). -/
def frac (a : UInt8) : List (UInt8 × UInt8) → UInt8
  | [] => 0
  | t :: l => gm t.1 (inv (a ^^^ t.2)) ^^^ frac a l
theorem inv_ne {a : UInt8} (h : a ≠ 0) : inv a ≠ 0 := fun e => by have := gm_inv h; rw [e, gm_zero] at this; exact absurd this (by decide)
theorem xor_ne {a b : UInt8} (h : a ≠ b) : a ^^^ b ≠ 0 := fun e => h (xeq e)
theorem frac_map (a c b0 : UInt8) (hac : a ≠ c) : ∀ l : List (UInt8 × UInt8), (∀ t ∈ l, a ≠ t.2 ∧ c ≠ t.2) →
    gm (a ^^^ c) (frac a (l.map fun t => (gm (gm t.1 (b0 ^^^ t.2)) (inv (c ^^^ t.2)), t.2))) = gm (a ^^^ b0) (frac a l) ^^^ gm (c ^^^ b0) (frac c l)
  | [], _ => by simp only [List.map_nil, frac, gm_zero, xx]
  | t :: l, h => by
    obtain ⟨h1, h2⟩ := h t (by simp)
    have ih := frac_map a c b0 hac l (fun t ht => h t (by simp [ht]))
    simp only [List.map_cons, frac]
    obtain ⟨x, b⟩ := t
    rw [gm_xor (a ^^^ c), ih, gm_xor (a ^^^ b0), gm_xor (c ^^^ b0), xor4 (gm (a ^^^ b0) _)]
    congr 1
    show gm (a ^^^ c) (gm (gm (gm x (b0 ^^^ b)) (inv (c ^^^ b))) (inv (a ^^^ b))) = gm (a ^^^ b0) (gm x (inv (a ^^^ b))) ^^^ gm (c ^^^ b0) (gm x (inv (c ^^^ b)))
    have e1 := gm_inv (xor_ne h1)
    have e2 := gm_inv (xor_ne h2)
    generalize inv (a ^^^ b) = A at *
    generalize inv (c ^^^ b) = C at *
    -- (a+c)(b0+b) = (a+b0)(c+b) + (c+b0)(a+b)
    have key : gm (a ^^^ c) (b0 ^^^ b) = gm (a ^^^ b0) (c ^^^ b) ^^^ gm (c ^^^ b0) (a ^^^ b) := by
      simp only [gm_xor, xor_gm, gm_comm c a, gm_comm b0 c, gm_comm b0 a]
      generalize gm a b0 = p1; generalize gm c b0 = p2; generalize gm a b = p3; generalize gm c b = p4; generalize gm a c = p5; generalize gm b0 b = p6
      apply UInt8.eq_of_toBitVec_eq
      ext i
      simp
      cases p1.toBitVec[i] <;> cases p2.toBitVec[i] <;> cases p3.toBitVec[i] <;> cases p4.toBitVec[i] <;> cases p5.toBitVec[i] <;> cases p6.toBitVec[i] <;> rfl
    have l1 : gm (a ^^^ c) (gm (gm (gm x (b0 ^^^ b)) C) A) = gm (gm (a ^^^ c) (b0 ^^^ b)) (gm x (gm C A)) := by
      rw [gm_assoc, gm_assoc, gm_assoc, ← gm_assoc x, gm_comm x (b0 ^^^ b), gm_assoc (b0 ^^^ b)]
    have l2 : gm (gm (a ^^^ b0) (c ^^^ b)) (gm x (gm C A)) = gm (a ^^^ b0) (gm x A) := by
      rw [gm_assoc, ← gm_assoc x, gm_comm x C, gm_assoc C, ← gm_assoc (c ^^^ b), e2, one_gm]
    have l3 : gm (gm (c ^^^ b0) (a ^^^ b)) (gm x (gm C A)) = gm (c ^^^ b0) (gm x C) := by
      rw [gm_assoc, gm_comm C A, ← gm_assoc x, gm_comm x A, gm_assoc A, ← gm_assoc (a ^^^ b), e1, one_gm]
    rw [l1, key, xor_gm, l2, l3]
/-- Cauchy: a sum of so many fractions that vanishes at as many places vanishes altogether. -/
theorem cauchy_zero : ∀ (l : List (UInt8 × UInt8)) (as : List UInt8), l.length ≤ as.length → as.Nodup → (l.map (·.2)).Nodup → (∀ a ∈ as, ∀ t ∈ l, a ≠ t.2) → (∀ a ∈ as, frac a l = 0) → ∀ t ∈ l, t.1 = 0
  | [], _, _, _, _, _, _, _, h => absurd h (by simp)
  | (x, b) :: l, [], h, _, _, _, _, _, _ => absurd h (by simp)
  | (x, b) :: l, c :: as, hlen, hn, hb, hd, hz, t, ht => by
    obtain ⟨hc, hn'⟩ := List.nodup_cons.mp hn
    obtain ⟨hbl, hb'⟩ := List.nodup_cons.mp (show (b :: l.map (·.2)).Nodup from hb)
    have hcb : c ≠ b := hd c (by simp) (x, b) (by simp)
    have hzc : gm x (inv (c ^^^ b)) ^^^ frac c l = 0 := hz c (by simp)
    have ih := cauchy_zero (l.map fun t => (gm (gm t.1 (b ^^^ t.2)) (inv (c ^^^ t.2)), t.2)) as (by simp at hlen ⊢; exact hlen) hn'
      (by rw [List.map_map]; exact hb') (fun a ha t ht => by
        obtain ⟨u, hu, rfl⟩ := List.mem_map.mp ht
        exact hd a (by simp [ha]) u (by simp [hu]))
      (fun a ha => by
        have hac : a ≠ c := fun e => hc (e ▸ ha)
        have hab : a ≠ b := hd a (by simp [ha]) (x, b) (by simp)
        have f := frac_map a c b hac l (fun t ht => ⟨hd a (by simp [ha]) t (by simp [ht]), hd c (by simp) t (by simp [ht])⟩)
        have hza : gm x (inv (a ^^^ b)) ^^^ frac a l = 0 := hz a (by simp [ha])
        rw [← xeq hza, ← xeq hzc, gm_comm x, gm_comm x, ← gm_assoc, ← gm_assoc, gm_inv (xor_ne hab), gm_inv (xor_ne hcb), xx] at f
        rcases gm_eq_zero f with h1 | h1
        · exact absurd h1 (xor_ne hac)
        · exact h1)
    have hl : ∀ t ∈ l, t.1 = 0 := fun t ht => by
      have h1 := ih _ (List.mem_map.mpr ⟨t, ht, rfl⟩)
      have h1' : gm (gm t.1 (b ^^^ t.2)) (inv (c ^^^ t.2)) = 0 := h1
      rcases gm_eq_zero h1' with h2 | h2
      · rcases gm_eq_zero h2 with h3 | h3
        · exact h3
        · exact absurd (List.mem_map.mpr ⟨t, ht, (xeq h3).symm⟩) hbl
      · exact absurd h2 (inv_ne (xor_ne (hd c (by simp) t (by simp [ht]))))
    have hfl : ∀ l : List (UInt8 × UInt8), (∀ t ∈ l, t.1 = 0) → frac c l = 0 := by
      intro l
      induction l with
      | nil => intro _; rfl
      | cons t l ih => intro h; simp only [frac]; rw [h t (by simp), zero_gm, zx]; exact ih (fun t ht => h t (by simp [ht]))
    rw [hfl l hl, x0] at hzc
    rcases List.mem_cons.mp ht with h | h
    · subst h
      rcases gm_eq_zero hzc with h2 | h2
      · exact h2
      · exact absurd h2 (inv_ne (xor_ne hcb))
    · exact hl t h
end Go.Proofs.Ytgdjjghdjpaofaa.LA

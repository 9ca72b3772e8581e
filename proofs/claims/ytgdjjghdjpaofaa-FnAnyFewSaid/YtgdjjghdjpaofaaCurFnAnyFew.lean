/-
  What a draw's cursor gives: every choice lies in its range, and the cursor goes on by few steps. No conditions beyond those that each lemma names.
-/
import Derived.Test.YtgdjjghdjpaofaaPFnAnyFewx
namespace Go.Proofs.Ytgdjjghdjpaofaa.PureFnAnyFew
open Go.RowKit Go.Proofs.Ytgdjjghdjpaofaa.PFnAnyFew Go.Proofs.YtgdjjghdjpaofaaW.PrintWords Go.Proofs.YtgdjjghdjpaofaaW.PrintLast Go.Proofs.YtgdjjghdjpaofaaW.PrintMore
set_option linter.unusedVariables false
set_option linter.unusedSimpArgs false

theorem w64 {x : Int} (h0 : -9223372036854775808 ≤ x) (h1 : x ≤ 9223372036854775807) : wrap64 x = x := by unfold wrap64; omega
theorem and255 (x : Int) : 0 ≤ Go.bits .and .u64 x 255 ∧ Go.bits .and .u64 x 255 ≤ 255 := by
  unfold Go.bits
  simp only [BitVec.toNat_and]
  have h : (BitVec.ofInt IntKind.u64.bits x).toNat &&& (BitVec.ofInt IntKind.u64.bits 255).toNat ≤ 255 := Nat.and_le_right
  have h2 := Go.IntWalk.u64_in (((BitVec.ofInt IntKind.u64.bits x).toNat &&& (BitVec.ofInt IntKind.u64.bits 255).toNat : Nat) : Int) (by omega)
  rw [h2]; omega

/-- Bytes. -/
def Bytes (l : List Int) : Prop := ∀ x ∈ l, 0 ≤ x ∧ x ≤ 255
theorem Bytes.of {l : List Int} (h : ∀ x ∈ l, (Lit.int .u8 x).wf = true) : Bytes l := fun x hx => by
  have := h x hx; simp [Lit.wf, IntKind.min, IntKind.max, IntKind.signed, IntKind.bits] at this; omega
theorem Bytes.rd {l : List Int} (h : Bytes l) (i : Int) : 0 ≤ rd l i ∧ rd l i ≤ 255 := by
  show 0 ≤ l.getD i.toNat 0 ∧ l.getD i.toNat 0 ≤ 255
  rw [List.getD_eq_getElem?_getD]
  by_cases hi : i.toNat < l.length
  · rw [List.getElem?_eq_getElem hi]; exact h _ (List.getElem_mem hi)
  · rw [List.getElem?_eq_none (by omega)]; simp

theorem next_ok (l : List Int) (hl : Bytes l) (p s : Int) (h0 : 0 ≤ p) (h1 : p ≤ 1000000000) :
    ∃ v s', spec_l1Cur_next.f l p s = some (v, p + 1, s') ∧ 0 ≤ v ∧ v ≤ 255 := by
  unfold spec_l1Cur_next.f
  have e : wrap64 (p + 1) = p + 1 := w64 (by omega) (by omega)
  rw [e]
  have hr := hl.rd p
  by_cases h : p < (l.length : Int)
  · rw [if_pos h, if_pos h0, if_pos (by omega), w64 (x := rd l p) (by omega) (by omega)]
    exact ⟨_, _, rfl, hr.1, hr.2⟩
  · rw [if_neg h, if_neg (by omega)]
    refine ⟨_, _, rfl, ?_⟩
    rw [w64]
    · exact and255 _
    · have := (and255 (IntKind.u64.wrap (IntKind.u64.wrap (IntKind.u64.wrap (s * 6364136223846793005)) + 1442695040888963407) / 1099511627776)).1; omega
    · have := (and255 (IntKind.u64.wrap (IntKind.u64.wrap (IntKind.u64.wrap (s * 6364136223846793005)) + 1442695040888963407) / 1099511627776)).2; omega

theorem pick_ok (l : List Int) (hl : Bytes l) (p s n : Int) (h0 : 0 ≤ p) (h1 : p ≤ 1000000) (hn : n ≤ 60000) :
    ∃ v p' s', spec_l1Cur_pick.f l p s n = some (v, p', s') ∧ 0 ≤ v ∧ (v < n ∨ v = 0) ∧ p ≤ p' ∧ p' ≤ p + 2 := by
  unfold spec_l1Cur_pick.f
  by_cases hn1 : n ≤ 1
  · rw [if_pos hn1]; exact ⟨0, p, s, rfl, by omega, by omega, by omega, by omega⟩
  · obtain ⟨v, s1, hv, hv0, hv1⟩ := next_ok l hl p s h0 (by omega)
    rw [if_neg hn1, hv, Option.bind_some]
    simp only
    have hm : ∀ x : Int, 0 ≤ x → 0 ≤ Int.tmod x n ∧ Int.tmod x n < n := fun x hx => by
      rw [Int.tmod_eq_emod_of_nonneg hx]; exact ⟨Int.emod_nonneg _ (by omega), Int.emod_lt_of_pos _ (by omega)⟩
    by_cases hb : n > 200
    · obtain ⟨v2, s2, hv2, h20, h21⟩ := next_ok l hl (p + 1) s1 (by omega) (by omega)
      rw [if_pos hb, hv2, Option.bind_some]
      simp only
      rw [if_neg (by omega), w64 (x := v * 256) (by omega) (by omega), w64 (by omega) (by omega)]
      have := hm (v * 256 + v2) (by omega)
      exact ⟨_, _, _, rfl, this.1, Or.inl this.2, by omega, by omega⟩
    · rw [if_neg hb, if_neg (by omega)]
      have := hm v hv0
      exact ⟨_, _, _, rfl, this.1, Or.inl this.2, by omega, by omega⟩

end Go.Proofs.Ytgdjjghdjpaofaa.PureFnAnyFew

/-
  UnpackBits of the program answers as the reference's does, at every string and every number. No conditions.
-/
import Derived.Test.YtldnpigmdaabgaaPFnExactUnpackBitsx2
import Derived.Lib.Bytes
namespace Go.Proofs.Ytldnpigmdaabgaa.Pure
open Go.RowKit Go.Proofs.Ytldnpigmdaabgaa.PFnExactUnpackBits Go.Proofs.YtldnpigmdaabgaaW.PrintWords Go.Proofs.YtldnpigmdaabgaaW.PrintLast Go.Proofs.YtldnpigmdaabgaaW.PrintMore

theorem w64 {x : Int} (h0 : -9223372036854775808 ≤ x) (h1 : x ≤ 9223372036854775807) : wrap64 x = x := by unfold wrap64; omega
theorem td (i : Nat) : Int.tdiv (i : Int) 8 = ((i / 8 : Nat) : Int) := by rw [Int.tdiv_eq_ediv_of_nonneg (by omega)]; rfl
theorem tm (i : Nat) : Int.tmod (i : Int) 8 = ((i % 8 : Nat) : Int) := by rw [Int.tmod_eq_emod_of_nonneg (by omega)]; rfl
theorem u64 (x : Nat) (h : x < 256) : IntKind.u64.wrap (x : Int) = x := by
  simp only [IntKind.wrap, IntKind.bits, IntKind.signed]; simp; omega

theorem pack_same (s : ByteArray) (hs : s.size ≤ 4000) (k : Nat) : ∀ (out : List Int) (i : Nat), i ≤ s.size → impl_packBits.l0 k s out (s.size : Int) i = spec_l15Pack.l0 k s out i := by
  induction k with
  | zero => intro out i _; rfl
  | succ k ih =>
    intro out i hi
    simp only [impl_packBits.l0, spec_l15Pack.l0]
    by_cases h : (i : Int) < (s.size : Int)
    · rw [tm, td, u64 _ (by omega), w64 (by omega) (by omega), w64 (by omega) (by omega)]
      have e : ((i : Int) + 1) = ((i + 1 : Nat) : Int) := by omega
      rw [e]
      simp only [if_pos h, if_pos (show 0 ≤ (i : Int) by omega), ih _ (i + 1) (by omega)]
    · simp only [if_neg h]

theorem pack_total (s : ByteArray) (hs : s.size ≤ 4000) (d : Nat) : ∀ (out : List Int) (i : Nat), i + d = s.size → out.length = (s.size + 7) / 8 → ∃ r, Ev (fun k => spec_l15Pack.l0 k s out i) r := by
  induction d with
  | zero =>
    intro out i hi ho
    exact ⟨_, Ev.step (f := fun _ => some (strOfNums out)) (fun k => by simp only [spec_l15Pack.l0]; rw [if_neg (by omega)]) (Ev.now _)⟩
  | succ d ih =>
    intro out i hi ho
    have e : wrap64 ((i : Int) + 1) = ((i + 1 : Nat) : Int) := by rw [w64 (by omega) (by omega)]; omega
    by_cases hb : bt s i = 49
    · obtain ⟨r, hr⟩ := ih (out.set (wrap64 (Int.tdiv (i : Int) 8)).toNat (Go.bits .or .u8 (rd out (wrap64 (Int.tdiv (i : Int) 8))) (shr .u8 128 (IntKind.u64.wrap (Int.tmod (i : Int) 8))))) (i + 1) (by omega) (by simp [ho])
      refine ⟨r, Ev.step (fun k => ?_) hr⟩
      simp only [spec_l15Pack.l0]
      rw [if_pos (by omega), if_pos (by omega), if_pos hb, if_pos, if_pos, if_pos, e]
      · rw [tm, u64 _ (by omega)]; omega
      · rw [td, w64 (by omega) (by omega), ho]; omega
      · rw [td, w64 (by omega) (by omega)]; omega
    · obtain ⟨r, hr⟩ := ih out (i + 1) (by omega) ho
      refine ⟨r, Ev.step (fun k => ?_) hr⟩
      simp only [spec_l15Pack.l0]
      rw [if_pos (by omega), if_pos (by omega), if_neg hb, e]

theorem pack_size (s : ByteArray) (hs : s.size ≤ 4000) : wrap64 (Int.tdiv (wrap64 ((s.size : Int) + 7)) 8) = (((s.size + 7) / 8 : Nat) : Int) := by
  rw [w64 (x := (s.size : Int) + 7) (by omega) (by omega), show ((s.size : Int) + 7) = ((s.size + 7 : Nat) : Int) by omega, td, w64 (by omega) (by omega)]
theorem pack_f (s : ByteArray) (hs : s.size ≤ 4000) : ∃ r, Ev (fun k => spec_l15Pack.f k s) r ∧ Ev (fun k => impl_packBits.f k s) r := by
  obtain ⟨r, hr⟩ := pack_total s hs s.size (List.replicate ((s.size + 7) / 8) 0) 0 (by omega) (by simp)
  refine ⟨r, hr.congr fun k => ?_, hr.congr fun k => ?_⟩
  · unfold spec_l15Pack.f
    rw [pack_size s hs, if_pos (by omega), if_pos (by omega), Int.toNat_natCast]; rfl
  · unfold impl_packBits.f
    rw [pack_size s hs, if_pos (by omega), if_pos (by omega), Int.toNat_natCast]
    exact pack_same s hs k _ 0 (by omega)

/-- The bit that the reference writes at i. -/
def one (s : ByteArray) (i : Nat) : Int := (48 + (Go.bits .and .u8 (shr .u8 (bt s (wrap64 (Int.tdiv (i : Int) 8))) (IntKind.u64.wrap (wrap64 (7 - (Int.tmod (i : Int) 8))))) 1)) % 256
theorem one_is (s : ByteArray) (i : Nat) (hi : i / 8 < s.size) (h4 : i ≤ 4000) : one s i = if impl_UnpackBits.bit s i then 49 else 48 := by
  unfold one impl_UnpackBits.bit
  rw [dif_pos hi, td, w64 (by omega) (by omega), tm, w64 (by omega) (by omega), show (7 - ((i % 8 : Nat) : Int)) = ((7 - i % 8 : Nat) : Int) by omega, u64 _ (by omega)]
  have hb : bt s ((i / 8 : Nat) : Int) = ((s[i / 8]'hi).toNat : Int) := (bt_at s ((i / 8 : Nat) : Int) hi).symm
  rw [hb]
  have hsh : shr .u8 ((s[i / 8]'hi).toNat : Int) ((7 - i % 8 : Nat) : Int) = ((s[i / 8]'hi).toNat : Int) / 2 ^ (7 - i % 8) := by
    unfold shr
    rw [Int.toNat_natCast, show min (7 - i % 8) IntKind.u8.bits = 7 - i % 8 from Nat.min_eq_left (by show 7 - i % 8 ≤ 8; omega)]
  rw [hsh, show (((s[i / 8]'hi).toNat : Int) / 2 ^ (7 - i % 8)) = (((s[i / 8]'hi).toNat / 2 ^ (7 - i % 8) : Nat) : Int) by norm_cast]
  have hx : ∀ x : Nat, x < 256 → Go.bits .and .u8 (x : Int) 1 = 0 ∨ Go.bits .and .u8 (x : Int) 1 = 1 := by
    intro x hx
    have h := bits_mask .u8 8 (by decide) wraps_u8 1 (by decide) (x : Int) (by omega) (by omega)
    have h2 : Go.bits .and .u8 (x : Int) 1 = (x : Int) % 2 := h
    omega
  have hlt : (s[i / 8]'hi).toNat / 2 ^ (7 - i % 8) < 256 := Nat.lt_of_le_of_lt (Nat.div_le_self _ _) (s[i / 8]'hi).toNat_lt
  rcases hx _ hlt with h | h <;> rw [h] <;> rfl

theorem unpack_loop (s : ByteArray) (n : Nat) (hn : n ≤ 4000) (hs : s.size = (n + 7) / 8) (R : Nat → Option (ByteArray × Bool)) (r : ByteArray × Bool)
    (hR : ∀ k, R k = (spec_l15Pack.f k ⟨(impl_UnpackBits.bits s n).toArray⟩).bind fun t => if t.toList = s.toList then some ((⟨(impl_UnpackBits.bits s n).toArray⟩ : ByteArray), true) else some (⟨#[]⟩, false))
    (hr : Ev R r) (d : Nat) : ∀ (out : List Int) (i : Nat), i + d = n → out.length = n → (∀ j, j < i → out.getD j 0 = one s j) → Ev (fun k => spec_UnpackBits.l0 k s out (n : Int) i) r := by
  induction d with
  | zero =>
    intro out i hi ho hj
    refine Ev.step (f := R) (fun k => ?_) hr
    simp only [spec_UnpackBits.l0]
    have e : strOfNums out = ⟨(impl_UnpackBits.bits s n).toArray⟩ := by
      unfold strOfNums impl_UnpackBits.bits
      congr 2
      apply List.ext_getElem (by simp [ho])
      intro j h1 h2
      have hjn : j < n := by simpa [ho] using h1
      have := hj j (by omega)
      rw [List.getD_eq_getElem?_getD, List.getElem?_eq_getElem (by omega), Option.getD_some, one_is s j (by omega) (by omega)] at this
      rw [List.getElem_map, List.getElem_map, List.getElem_range, this]
      split <;> rfl
    rw [if_neg (by omega), e, hR]
  | succ d ih =>
    intro out i hi ho hj
    have e : wrap64 ((i : Int) + 1) = ((i + 1 : Nat) : Int) := by rw [w64 (by omega) (by omega)]; omega
    refine Ev.step (fun k => ?_) (ih (out.set ((i : Int)).toNat (one s i)) (i + 1) (by omega) (by simp [ho]) ?_)
    · simp only [spec_UnpackBits.l0]
      rw [if_pos (by omega), if_pos, if_pos, if_pos, if_pos (by omega), if_pos (by omega), e]; rfl
      · rw [tm, w64 (by omega) (by omega), show (7 - ((i % 8 : Nat) : Int)) = ((7 - i % 8 : Nat) : Int) by omega, u64 _ (by omega)]; omega
      · rw [td, w64 (by omega) (by omega)]; omega
      · rw [td, w64 (by omega) (by omega)]; omega
    · intro j hji
      rw [Int.toNat_natCast, List.getD_eq_getElem?_getD, List.getElem?_set]
      by_cases e2 : i = j
      · subst e2; rw [if_pos rfl, if_pos (by omega)]; rfl
      · rw [if_neg e2, ← List.getD_eq_getElem?_getD]; exact hj j (by omega)

theorem both (s : ByteArray) (m : Int) (hm : (Lit.int .i64 m).wf = true) (hs : s.size ≤ 1048576) : ∃ r, Ev (fun k => spec_UnpackBits.f k s m) r ∧ Ev (fun k => impl_UnpackBits.f k s m) r := by
  have hb : -9223372036854775808 ≤ m ∧ m ≤ 9223372036854775807 := by simpa [Lit.wf, IntKind.min, IntKind.max, IntKind.signed, IntKind.bits] using hm
  by_cases h : 0 ≤ m ∧ m ≤ 4000 ∧ (s.size : Int) = (m + 7) / 8
  · obtain ⟨n, rfl⟩ : ∃ n : Nat, m = n := ⟨m.toNat, by omega⟩
    obtain ⟨t, h1, h2⟩ := pack_f ⟨(impl_UnpackBits.bits s n).toArray⟩ (by simp [ByteArray.size, impl_UnpackBits.bits]; omega)
    have hsz : s.size = (n + 7) / 8 := by omega
    obtain ⟨r, hr⟩ : ∃ r, (if t.toList = s.toList then some ((⟨(impl_UnpackBits.bits s n).toArray⟩ : ByteArray), true) else some (⟨#[]⟩, false)) = some r := by split <;> exact ⟨_, rfl⟩
    have h2' : Ev (fun k => (spec_l15Pack.f k ⟨(impl_UnpackBits.bits s n).toArray⟩).bind fun t => if t.toList = s.toList then some ((⟨(impl_UnpackBits.bits s n).toArray⟩ : ByteArray), true) else some (⟨#[]⟩, false)) r :=
      Ev.bind (f := fun _ t => if t.toList = s.toList then some ((⟨(impl_UnpackBits.bits s n).toArray⟩ : ByteArray), true) else some (⟨#[]⟩, false)) h1 ⟨0, fun _ _ => hr⟩
    refine ⟨r, ?_, ?_⟩
    · have hl := unpack_loop s n (by omega) hsz _ r (fun k => rfl) h2' n (List.replicate n 0) 0 (by omega) (by simp) (fun j hj => by omega)
      have hj : Ev (fun k => spec_UnpackBits.j0 k s (n : Int) false) r := by
        refine Ev.step (fun k => ?_) hl
        simp only [spec_UnpackBits.j0]
        rw [if_neg (by simp), if_pos (by omega), if_pos (by omega), Option.bind_some, Int.toNat_natCast, List.length_replicate]; rfl
      refine hj.congr fun k => ?_
      unfold spec_UnpackBits.f spec_l1In.f
      rw [if_pos (by omega), Option.bind_some, if_pos (by simp; omega), w64 (x := (n : Int) + 7) (by omega) (by omega), show ((n : Int) + 7) = ((n + 7 : Nat) : Int) by omega, td, w64 (by omega) (by omega)]
      rw [show ((s.size : Int) != (((n + 7) / 8 : Nat) : Int)) = false by simp; omega]
    · refine Ev.congr (fun k => ?_) (Ev.bind (g := fun k => impl_packBits.f k ⟨(impl_UnpackBits.bits s n).toArray⟩) (f := fun _ t => if t.toList = s.toList then some ((⟨(impl_UnpackBits.bits s n).toArray⟩ : ByteArray), true) else some (⟨#[]⟩, false)) h2 ⟨0, fun _ _ => hr⟩)
      unfold impl_UnpackBits.f
      rw [if_pos h, Int.toNat_natCast]
  · refine ⟨(⟨#[]⟩, false), ?_, ?_⟩
    · have hj : Ev (fun k => spec_UnpackBits.j0 k s m true) (⟨#[]⟩, false) := Ev.step (fun k => by simp only [spec_UnpackBits.j0]; rfl) (Ev.now _)
      refine hj.congr fun k => ?_
      unfold spec_UnpackBits.f spec_l1In.f
      by_cases h0 : m ≥ 0
      · rw [if_pos h0, Option.bind_some]
        by_cases h1 : m ≤ 4000
        · rw [if_pos (by simpa using h1), w64 (x := m + 7) (by omega) (by omega), Int.tdiv_eq_ediv_of_nonneg (by omega), w64 (by omega) (by omega)]
          rw [show ((s.size : Int) != (m + 7) / 8) = true by simp; omega]
        · rw [if_neg (by simpa using h1)]
      · rw [if_neg h0, Option.bind_some, if_neg (by simp)]
    · exact Ev.congr (fun k => by unfold impl_UnpackBits.f; rw [if_neg h]) (Ev.now _)

theorem FnExactUnpackBits : laws_FnExactUnpackBits.Pure := by
  intro s m hs hm
  by_cases hb : (s.size : Int) > 1048576
  · exact ⟨0, by unfold laws_FnExactUnpackBits.f; rw [if_pos hb]⟩
  · obtain ⟨r, h1, h2⟩ := both s m hm (by omega)
    refine Ev.rounds (Ev.congr (fun k => ?_) (Ev.bind (f := fun k a => (impl_UnpackBits.f k s m).bind fun b => if b.1.toList = a.1.toList then (if (b.2 != a.2) = true then some false else some true) else some false) h1 (Ev.bind (f := fun _ b => if b.1.toList = r.1.toList then (if (b.2 != r.2) = true then some false else some true) else some false) h2 (r := true) ⟨0, fun _ _ => by rw [if_pos rfl, if_neg (by simp)]⟩)))
    unfold laws_FnExactUnpackBits.f
    rw [if_neg hb]

end Go.Proofs.Ytldnpigmdaabgaa.Pure

/-
  The parts of a text: the pieces of the padded text, the shares of its bytes, and that the program's parts are the reference's. No conditions beyond those that each lemma names.
-/
import Derived.Test.YtgdjjghdjpaofaaGMFnExactPartsFor
namespace Go.Proofs.Ytgdjjghdjpaofaa.PureFnExactPartsFor
open Go.RowKit Go.Proofs.Ytgdjjghdjpaofaa.PFnExactPartsFor Go.Proofs.YtgdjjghdjpaofaaW.PrintWords Go.Proofs.YtgdjjghdjpaofaaW.PrintLast Go.Proofs.YtgdjjghdjpaofaaW.PrintMore Go.Proofs.Ytgdjjghdjpaofaa.GF

/-! ### pieces -/
theorem extract_str (L : List UInt8) (a b : Nat) : (str L).extract a b = str ((L.drop a).take (b - a)) := by
  apply ByteArray.ext
  rw [ByteArray.data_extract]
  simp [str]
theorem repeat_zero : ∀ c, Lib.repeatL ([0] : List UInt8) c = zs c
  | 0 => rfl
  | c + 1 => by
    have ih := repeat_zero c
    unfold zs at ih ⊢
    rw [List.replicate_succ, ← ih]; rfl
def piece (L : List UInt8) (n i : Nat) : List UInt8 := (L.drop (i * n)).take ((i + 1) * n - i * n)
theorem split_s_loop (L : List UInt8) (n c : Nat) (hL : L.length = c * n) (hc : c ≤ 100) (hn : n ≤ 100) : ∀ (m i : Nat) (outs : List (List UInt8)), m + i = c → outs.length = i →
    Ev (fun k => spec_l3Split.l0 k (str L) (c : Int) (n : Int) (ts outs) (i : Int)) (ts (outs ++ ((List.range c).drop i).map (piece L n)))
  | 0, i, outs, h, _ => by
    rw [List.drop_eq_nil_of_le (by simp; omega), List.map_nil, List.append_nil]
    exact Ev.step (f := fun _ => some (ts outs)) (fun k => by simp only [spec_l3Split.l0]; rw [if_neg (by omega)]) (Ev.now _)
  | m + 1, i, outs, h, ho => by
    have ih := split_s_loop L n c hL hc hn m (i + 1) (outs ++ [piece L n i]) (by omega) (by simp [ho])
    rw [List.append_assoc] at ih
    rw [List.drop_eq_getElem_cons (by simp; omega : i < (List.range c).length), List.map_cons, List.getElem_range]
    have h1 : (i : Int) * (n : Int) = ((i * n : Nat) : Int) := by push_cast; rfl
    have h2 : ((i : Int) + 1) * (n : Int) = (((i + 1) * n : Nat) : Int) := by push_cast; rfl
    have h3 : i * n ≤ 10000 := Nat.mul_le_mul (by omega : i ≤ 100) hn
    have h4 : (i + 1) * n ≤ c * n := Nat.mul_le_mul_right _ (by omega)
    have h5 : c * n ≤ 10000 := Nat.mul_le_mul hc hn
    have h6 : i * n ≤ (i + 1) * n := Nat.mul_le_mul_right _ (by omega)
    refine Ev.step (fun k => ?_) ih
    simp only [spec_l3Split.l0]
    rw [v64 (x := (i : Int) + 1) (by omega) (by omega), h1, h2, v64 (x := ((i * n : Nat) : Int)) (by omega) (by omega), v64 (x := (((i + 1) * n : Nat) : Int)) (by omega) (by omega)]
    rw [if_pos (by omega), if_pos (by omega), if_pos (by omega), if_pos (by rw [str_size]; omega), if_pos (by rw [ts_len]; omega), Int.toNat_natCast, Int.toNat_natCast, extract_str, ts_app]
    rfl
theorem split_i_loop (L : List UInt8) (n c : Nat) (hL : L.length = c * n) (hc : c ≤ 100) (hn : n ≤ 100) : ∀ (m i : Nat) (outs : List (List UInt8)), m + i = c → outs.length = i →
    Ev (fun k => impl_SplitText.l0 k (str L) (n : Int) (ts outs) (c : Int) (i : Int)) (ts (outs ++ ((List.range c).drop i).map (piece L n)), true)
  | 0, i, outs, h, _ => by
    rw [List.drop_eq_nil_of_le (by simp; omega), List.map_nil, List.append_nil]
    exact Ev.step (f := fun _ => some (ts outs, true)) (fun k => by simp only [impl_SplitText.l0]; rw [if_neg (by omega)]) (Ev.now _)
  | m + 1, i, outs, h, ho => by
    have ih := split_i_loop L n c hL hc hn m (i + 1) (outs ++ [piece L n i]) (by omega) (by simp [ho])
    rw [List.append_assoc] at ih
    rw [List.drop_eq_getElem_cons (by simp; omega : i < (List.range c).length), List.map_cons, List.getElem_range]
    have h1 : (i : Int) * (n : Int) = ((i * n : Nat) : Int) := by push_cast; rfl
    have h2 : ((i : Int) + 1) * (n : Int) = (((i + 1) * n : Nat) : Int) := by push_cast; rfl
    have h3 : i * n ≤ 10000 := Nat.mul_le_mul (by omega : i ≤ 100) hn
    have h4 : (i + 1) * n ≤ c * n := Nat.mul_le_mul_right _ (by omega)
    have h5 : c * n ≤ 10000 := Nat.mul_le_mul hc hn
    have h6 : i * n ≤ (i + 1) * n := Nat.mul_le_mul_right _ (by omega)
    refine Ev.step (fun k => ?_) ih
    simp only [impl_SplitText.l0]
    rw [v64 (x := (i : Int) + 1) (by omega) (by omega), h1, h2, v64 (x := ((i * n : Nat) : Int)) (by omega) (by omega), v64 (x := (((i + 1) * n : Nat) : Int)) (by omega) (by omega)]
    rw [if_pos (by omega), if_pos (by omega), if_pos (by omega), if_pos (by rw [str_size]; omega), if_pos (by rw [ts_len]; omega), Int.toNat_natCast, Int.toNat_natCast, extract_str, ts_app]
    rfl
/-- A text with zeros behind it, up to c pieces of one length. -/
def pad (l : List UInt8) (c : Nat) : List UInt8 := l ++ zs (c * ((l.length + c - 1) / c) - l.length)
theorem pad_len (l : List UInt8) : (pad l 3).length = 3 * ((l.length + 3 - 1) / 3) := by
  simp [pad, zs]; omega
def pieces (l : List UInt8) : List (List UInt8) := (List.range 3).map (piece (pad l 3) ((l.length + 3 - 1) / 3))
theorem split_s (l : List UInt8) (hl : l.length ≤ 60) : Ev (fun k => spec_l3Split.f k (str l) 3) (ts (pieces l)) := by
  have h := split_s_loop (pad l 3) ((l.length + 3 - 1) / 3) 3 (pad_len l) (by omega) (by omega) 3 0 [] rfl rfl
  refine h.congr fun k => ?_
  unfold spec_l3Split.f
  have e : (wrap64 (Int.tdiv (wrap64 ((wrap64 (((str l).size : Int) + 3)) - 1)) 3)) = (((l.length + 3 - 1) / 3 : Nat) : Int) := by
    rw [str_size, v64 (x := (l.length : Int) + 3) (by omega) (by omega), v64 (x := (l.length : Int) + 3 - 1) (by omega) (by omega), Int.tdiv_eq_ediv_of_nonneg (by omega), v64 (by omega) (by omega)]; omega
  rw [e, v64 (x := 3 * (((l.length + 3 - 1) / 3 : Nat) : Int)) (by omega) (by omega), v64 (by rw [str_size]; omega) (by rw [str_size]; omega)]
  rw [if_neg (by decide), if_pos (by rw [str_size]; omega), if_pos (by rw [str_size]; omega)]
  rw [show (3 * (((l.length + 3 - 1) / 3 : Nat) : Int) - ((str l).size : Int)).toNat = 3 * ((l.length + 3 - 1) / 3) - l.length by rw [str_size]; omega, ← li_rep]
  rw [Option.bind_some, strOf_li, if_pos (by rw [str_size, str_size]; simp; omega), str_app]
  rfl
theorem split_i (l : List UInt8) (hl : l.length ≤ 60) : Ev (fun k => impl_SplitText.f k (str l) 3) (ts (pieces l), true) := by
  have h := split_i_loop (pad l 3) ((l.length + 3 - 1) / 3) 3 (pad_len l) (by omega) (by omega) 3 0 [] rfl rfl
  refine Ev.congr (f := fun k => impl_SplitText.j0 k (str l) 3 false) (fun k => ?_) (Ev.step (fun k => ?_) h)
  · unfold impl_SplitText.f
    rw [show impl_within.f 3 1 8 = some true from rfl, Option.bind_some, if_pos rfl, show decide (((str l).size : Int) > wrap64 (3 * 40)) = false by rw [str_size, v64 (by omega) (by omega)]; exact decide_eq_false (by omega)]
  · have e : (wrap64 (Int.tdiv (wrap64 ((wrap64 (((str l).size : Int) + 3)) - 1)) 3)) = (((l.length + 3 - 1) / 3 : Nat) : Int) := by
      rw [str_size, v64 (x := (l.length : Int) + 3) (by omega) (by omega), v64 (x := (l.length : Int) + 3 - 1) (by omega) (by omega), Int.tdiv_eq_ediv_of_nonneg (by omega), v64 (by omega) (by omega)]; omega
    simp only [impl_SplitText.j0]
    rw [e, v64 (x := (((l.length + 3 - 1) / 3 : Nat) : Int) * 3) (by omega) (by omega), v64 (by rw [str_size]; omega) (by rw [str_size]; omega)]
    rw [if_neg (by decide), if_neg (by decide)]
    have hc : ((((l.length + 3 - 1) / 3 : Nat) : Int) * 3 - ((str l).size : Int)).toNat = 3 * ((l.length + 3 - 1) / 3) - l.length := by rw [str_size]; omega
    have hr : strings_Repeat.f (⟨#[0]⟩ : ByteArray) ((((l.length + 3 - 1) / 3 : Nat) : Int) * 3 - ((str l).size : Int)) = some (str (zs (3 * ((l.length + 3 - 1) / 3) - l.length))) := by
      unfold strings_Repeat.f
      rw [hc, if_pos ⟨by rw [str_size]; omega, by rw [str_size]; omega, by rw [show (⟨#[0]⟩ : ByteArray).size = 1 from rfl]; omega⟩]
      rw [show (⟨#[0]⟩ : ByteArray).data.toList = [0] from rfl, repeat_zero]; rfl
    rw [hr]
    rw [Option.bind_some, if_pos (by rw [str_size, str_size]; simp [zs]; omega), str_app]
    rfl
theorem piece_len (l : List UInt8) (t : List UInt8) (h : t ∈ pieces l) : t.length = (l.length + 3 - 1) / 3 := by
  obtain ⟨i, hi, rfl⟩ := List.mem_map.mp h
  have hi := List.mem_range.mp hi
  unfold piece
  rw [List.length_take, List.length_drop, pad_len]
  generalize (l.length + 3 - 1) / 3 = n
  rw [Nat.add_mul, Nat.one_mul]
  have : i * n + n ≤ 3 * n := by rw [← Nat.succ_mul]; exact Nat.mul_le_mul_right _ hi
  omega
def M32 : List (List UInt8) := [[1, 0, 0], [0, 1, 0], [0, 0, 1], [inv 3, inv 2, inv 1], [inv 4, inv 5, inv 6]]
theorem mat_s : Ev (fun k => spec_l3Matrix.f k 3 2) (lr M32) := Ev.of (fun k => spec_l3Matrix.mono 3 2 k) (k := 300) (by decide +kernel)
theorem mat_i : Ev (fun k => impl_codeRows.f k 3 2) (lr M32) := Ev.of (fun k => impl_codeRows.mono 3 2 k) (k := 60) (by decide +kernel)

/-! ### shares -/
def val (x : UInt8) : List UInt8 → UInt8
  | [] => 0
  | c :: l => gm (val x l) x ^^^ c
theorem at_s_loop (l : List UInt8) (x : UInt8) (hl : l.length ≤ 1000) : ∀ i, i ≤ l.length → Ev (fun k => spec_l7At.l0 k (li l) (ib x) (ib (val x (l.drop i))) ((i : Int) - 1)) (ib (val x l))
  | 0, _ => Ev.step (f := fun _ => some (ib (val x l))) (fun k => by simp only [spec_l7At.l0]; rw [if_neg (by omega)]; rfl) (Ev.now _)
  | i + 1, h => by
    have ih := at_s_loop l x hl i (by omega)
    rw [List.drop_eq_getElem_cons (by omega : i < l.length)] at ih
    refine Ev.step (fun k => ?_) (Ev.bind (f := fun k t => spec_l7At.l0 k (li l) (ib x) (Go.bits .xor .u8 t (ib l[i])) ((i : Int) - 1)) (times_s (val x (l.drop (i + 1))) x) (ih.congr fun k => by rw [xor_u8]; rfl))
    simp only [spec_l7At.l0]
    rw [show ((i + 1 : Nat) : Int) - 1 = (i : Int) by omega, if_pos (by omega)]
    congr 1
    funext t
    rw [if_pos (by omega), if_pos (by rw [li_len]; omega), rd_li l i (by omega), v64 (by omega) (by omega)]
theorem at_s (l : List UInt8) (x : UInt8) (hl : l.length ≤ 1000) : Ev (fun k => spec_l7At.f k (li l) (ib x)) (ib (val x l)) := by
  have h := at_s_loop l x hl l.length (Nat.le_refl _)
  rw [List.drop_eq_nil_of_le (Nat.le_refl _)] at h
  refine h.congr fun k => ?_
  unfold spec_l7At.f
  rw [li_len, v64 (by omega) (by omega)]; rfl
theorem at_i_loop (l : List UInt8) (x : UInt8) (hl : l.length ≤ 1000) : ∀ i, i ≤ l.length → Ev (fun k => impl_valueAt.l0 k (li l) (ib x) (ib (val x (l.drop i))) ((i : Int) - 1)) (ib (val x l))
  | 0, _ => Ev.step (f := fun _ => some (ib (val x l))) (fun k => by simp only [impl_valueAt.l0]; rw [if_neg (by omega)]; rfl) (Ev.now _)
  | i + 1, h => by
    have ih := at_i_loop l x hl i (by omega)
    rw [List.drop_eq_getElem_cons (by omega : i < l.length)] at ih
    refine Ev.step (fun k => ?_) (Ev.bind (f := fun k t => impl_valueAt.l0 k (li l) (ib x) (Go.bits .xor .u8 t (ib l[i])) ((i : Int) - 1)) (times_i (val x (l.drop (i + 1))) x) (ih.congr fun k => by rw [xor_u8]; rfl))
    simp only [impl_valueAt.l0]
    rw [show ((i + 1 : Nat) : Int) - 1 = (i : Int) by omega, if_pos (by omega)]
    congr 1
    funext t
    rw [if_pos (by omega), if_pos (by rw [li_len]; omega), rd_li l i (by omega), v64 (by omega) (by omega)]
theorem at_i (l : List UInt8) (x : UInt8) (hl : l.length ≤ 1000) : Ev (fun k => impl_valueAt.f k (li l) (ib x)) (ib (val x l)) := by
  have h := at_i_loop l x hl l.length (Nat.le_refl _)
  rw [List.drop_eq_nil_of_le (Nat.le_refl _)] at h
  refine h.congr fun k => ?_
  unfold impl_valueAt.f
  rw [li_len, v64 (by omega) (by omega)]; rfl
/-- The shares 1 to n of a byte c behind whose polynomial stands r. -/
def sh (c r : UInt8) (i : Nat) : S172 := ⟨ib (UInt8.ofNat (i + 1)), ib (val (UInt8.ofNat (i + 1)) [c, r])⟩
theorem ofNat_ib (i : Nat) (h : i < 256) : ib (UInt8.ofNat i) = (i : Int) := by unfold ib; rw [UInt8.toNat_ofNat_of_lt' h]
theorem share_s_loop (c r : UInt8) : ∀ (m i : Nat) (acc : List S172), m + i = 4 → acc.length = i →
    Ev (fun k => spec_ShareSecret.l0 k 4 (li [c, r]) acc ((i : Int) + 1)) (acc ++ ((List.range 4).drop i).map (sh c r), true)
  | 0, i, acc, h, _ => by
    rw [List.drop_eq_nil_of_le (by simp; omega), List.map_nil, List.append_nil]
    exact Ev.step (f := fun _ => some (acc, true)) (fun k => by simp only [spec_ShareSecret.l0]; rw [if_neg (by omega)]) (Ev.now _)
  | m + 1, i, acc, h, ha => by
    have ih := share_s_loop c r m (i + 1) (acc ++ [sh c r i]) (by omega) (by simp [ha])
    rw [List.append_assoc] at ih
    rw [List.drop_eq_getElem_cons (by simp; omega : i < (List.range 4).length), List.map_cons, List.getElem_range]
    have e : ((i : Int) + 1) % 256 = ib (UInt8.ofNat (i + 1)) := by rw [ofNat_ib _ (by omega)]; omega
    refine Ev.step (fun k => ?_) (Ev.bind (f := fun k t => spec_ShareSecret.l0 k 4 (li [c, r]) (acc ++ [(⟨((i : Int) + 1) % 256, t⟩ : S172)]) (((i + 1 : Nat) : Int) + 1)) (at_s [c, r] (UInt8.ofNat (i + 1)) (by simp)) (ih.congr fun k => by rw [e]; rfl))
    simp only [spec_ShareSecret.l0]
    rw [if_pos (by omega), v64 (by omega) (by omega), e]
    congr 1
    funext t
    rw [if_pos (by omega)]; rfl
theorem share_i_loop (c r : UInt8) : ∀ (m i : Nat) (acc : List S172), m + i = 4 → acc.length = i →
    Ev (fun k => impl_ShareSecret.l0 k (li [c, r]) acc 4 (i : Int)) (acc ++ ((List.range 4).drop i).map (sh c r), true)
  | 0, i, acc, h, _ => by
    rw [List.drop_eq_nil_of_le (by simp; omega), List.map_nil, List.append_nil]
    exact Ev.step (f := fun _ => some (acc, true)) (fun k => by simp only [impl_ShareSecret.l0]; rw [if_neg (by omega)]) (Ev.now _)
  | m + 1, i, acc, h, ha => by
    have ih := share_i_loop c r m (i + 1) (acc ++ [sh c r i]) (by omega) (by simp [ha])
    rw [List.append_assoc] at ih
    rw [List.drop_eq_getElem_cons (by simp; omega : i < (List.range 4).length), List.map_cons, List.getElem_range]
    have e : (wrap64 ((i : Int) + 1)) % 256 = ib (UInt8.ofNat (i + 1)) := by rw [ofNat_ib _ (by omega), v64 (by omega) (by omega)]; omega
    refine Ev.step (fun k => ?_) (Ev.bind (f := fun k t => impl_ShareSecret.l0 k (li [c, r]) (acc ++ [(⟨(wrap64 ((i : Int) + 1)) % 256, t⟩ : S172)]) 4 (((i + 1 : Nat) : Int))) (at_i [c, r] (UInt8.ofNat (i + 1)) (by simp)) (ih.congr fun k => by rw [e]; rfl))
    simp only [impl_ShareSecret.l0]
    rw [if_pos (by omega), e]
    congr 1
    funext t
    rw [if_pos (by omega), v64 (by omega) (by omega)]; rfl
def shs (c r : UInt8) : List S172 := (List.range 4).map (sh c r)
theorem share_s (c r : UInt8) : Ev (fun k => spec_ShareSecret.f k (ib c) [ib r] 4) (shs c r, true) := by
  refine Ev.congr (f := fun k => spec_ShareSecret.j0 k (ib c) [ib r] 4 false) (fun k => ?_) (Ev.step (fun k => ?_) (share_s_loop c r 4 0 [] rfl rfl))
  · unfold spec_ShareSecret.f
    rw [if_neg (by simp), show spec_l1In.f 4 1 20 = some true from rfl]; rfl
  · simp only [spec_ShareSecret.j0]
    rw [if_neg (by decide)]
    rw [Option.bind_some, if_pos (by simp)]; rfl
theorem share_i (c r : UInt8) : Ev (fun k => impl_ShareSecret.f k (ib c) [ib r] 4) (shs c r, true) := by
  refine Ev.congr (f := fun k => impl_ShareSecret.j0 k (ib c) [ib r] 4 false) (fun k => ?_) (Ev.step (fun k => ?_) (share_i_loop c r 4 0 [] rfl rfl))
  · unfold impl_ShareSecret.f
    rw [if_neg (by simp), show impl_within.f 4 1 20 = some true from rfl]; rfl
  · simp only [impl_ShareSecret.j0]
    rw [if_neg (by decide)]
    rw [Option.bind_some, if_pos (by simp)]; rfl
end Go.Proofs.Ytgdjjghdjpaofaa.PureFnExactPartsFor

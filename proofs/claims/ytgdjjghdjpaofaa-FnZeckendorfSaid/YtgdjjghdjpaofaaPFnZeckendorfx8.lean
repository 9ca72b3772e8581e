/- What the functions that FnZeckendorf reaches compute, each as a Lean function, with the proof that the Go code computes it (written by our driver round the kit's printer, partly by hand). No conditions. -/
import Derived.Test.YtgdjjghdjpaofaaPFnZeckendorfx0
import Derived.Test.YtgdjjghdjpaofaaPFnZeckendorfx1
import Derived.Test.YtgdjjghdjpaofaaPFnZeckendorfx2
import Derived.Test.YtgdjjghdjpaofaaPFnZeckendorfx3
import Derived.Test.YtgdjjghdjpaofaaPFnZeckendorfx4
import Derived.Test.YtgdjjghdjpaofaaPFnZeckendorfx6
import Derived.Test.YtgdjjghdjpaofaaPFnZeckendorfx7
namespace Go.Proofs.Ytgdjjghdjpaofaa.PFnZeckendorf
open Go.RowKit Go.Proofs.YtgdjjghdjpaofaaW.PrintWords Go.Proofs.YtgdjjghdjpaofaaW.PrintLast Go.Proofs.YtgdjjghdjpaofaaW.PrintMore
attribute [local go_sem] max2_int min2_int max_two min_two max_three min_three max_four min_four   -- for this text's walks alone
set_option linter.unusedVariables false
set_option linter.unusedSimpArgs false

/-! ### laws_FnZeckendorf: function 5 -/
mutual
def laws_FnZeckendorf.j0 : Nat → List Int → Int → List Int → Bool → ByteArray → Bool → Option (Bool)
  | 0, _, _, _, _, _, _ => none
  | k + 1, x1, x5, x6, x7, x10, x81 => if x81 = true then (some false) else (if x7 = true then (laws_FnZeckendorf.l0 k x1 x5 x6 x10 0 x6 (x6.length : Int) 0) else (laws_FnZeckendorf.j4 k x1))
def laws_FnZeckendorf.j4 : Nat → List Int → Option (Bool)
  | 0, _ => none
  | k + 1, x1 => laws_FnZeckendorf.l2 k x1 (⟨#[]⟩ : ByteArray) 0
def laws_FnZeckendorf.l2 : Nat → List Int → ByteArray → Int → Option (Bool)
  | 0, _, _, _ => none
  | k + 1, x1, x21, x22 => if x22 < (x1.length : Int) then (laws_FnZeckendorf.j6 k x1 x21 x22 (decide (x22 < 14))) else (laws_FnZeckendorf.j6 k x1 x21 x22 false)
def laws_FnZeckendorf.j6 : Nat → List Int → ByteArray → Int → Bool → Option (Bool)
  | 0, _, _, _, _ => none
  | k + 1, x1, x21, x22, x169 => if x169 = true then (if 0 ≤ x22 then (if x22 < (x1.length : Int) then (if (Int.tmod (rd x1 x22) 2) = 1 then (if x21.toList = ([] : List UInt8) then (if x21.size + 1 ≤ 9223372036854775807 then (laws_FnZeckendorf.l2 k x1 (x21 ++ (⟨#[49]⟩ : ByteArray)) (wrap64 (x22 + 1))) else (none)) else (if 0 ≤ (wrap64 ((x21.size : Int) - 1)) then (if (wrap64 ((x21.size : Int) - 1)) < (x21.size : Int) then (if (bt x21 (wrap64 ((x21.size : Int) - 1))) = 48 then (if x21.size + 1 ≤ 9223372036854775807 then (laws_FnZeckendorf.l2 k x1 (x21 ++ (⟨#[49]⟩ : ByteArray)) (wrap64 (x22 + 1))) else (none)) else (if x21.size + 1 ≤ 9223372036854775807 then (laws_FnZeckendorf.l2 k x1 (x21 ++ (⟨#[48]⟩ : ByteArray)) (wrap64 (x22 + 1))) else (none))) else (none)) else (none))) else (if x21.size + 1 ≤ 9223372036854775807 then (laws_FnZeckendorf.l2 k x1 (x21 ++ (⟨#[48]⟩ : ByteArray)) (wrap64 (x22 + 1))) else (none))) else (none)) else (none)) else (if x21.toList = ([] : List UInt8) then (laws_FnZeckendorf.j7 k x1 x21 false) else (if 0 ≤ (wrap64 ((x21.size : Int) - 1)) then (if (wrap64 ((x21.size : Int) - 1)) < (x21.size : Int) then (laws_FnZeckendorf.j7 k x1 x21 ((bt x21 (wrap64 ((x21.size : Int) - 1))) == 49)) else (none)) else (none)))
def laws_FnZeckendorf.j7 : Nat → List Int → ByteArray → Bool → Option (Bool)
  | 0, _, _, _ => none
  | k + 1, x1, x21, x203 => if x203 = true then (if x21.size + 1 ≤ 9223372036854775807 then ((impl_TakeFibonacci.f k (x21 ++ (⟨#[49]⟩ : ByteArray))).bind fun bt319 => ((impl_FibonacciOf.f k bt319.1).bind fun bt322 => (if bt319.2.2 = true then (if bt319.2.1 = ((x21 ++ (⟨#[49]⟩ : ByteArray)).size : Int) then (if bt322.2 = true then (laws_FnZeckendorf.j8 k x1 (bt322.1.toList != (x21 ++ (⟨#[49]⟩ : ByteArray)).toList)) else (laws_FnZeckendorf.j8 k x1 true)) else (laws_FnZeckendorf.j8 k x1 true)) else (laws_FnZeckendorf.j8 k x1 true)))) else (none)) else ((spec_DrawTakeFibonacci.f k x1).bind fun t331 => ((impl_TakeFibonacci.f k t331).bind fun bt332 => ((spec_TakeFibonacci.f k t331).bind fun bt335 => (if (bt332.2.2 == bt335.2.2) = true then (if bt332.1 = bt335.1 then (some (bt332.2.1 == bt335.2.1)) else (some false)) else (some false)))))
def laws_FnZeckendorf.j8 : Nat → List Int → Bool → Option (Bool)
  | 0, _, _ => none
  | k + 1, x1, x233 => if x233 = true then (some false) else ((spec_DrawTakeFibonacci.f k x1).bind fun t324 => ((impl_TakeFibonacci.f k t324).bind fun bt325 => ((spec_TakeFibonacci.f k t324).bind fun bt328 => (if (bt325.2.2 == bt328.2.2) = true then (if bt325.1 = bt328.1 then (some (bt325.2.1 == bt328.2.1)) else (some false)) else (some false)))))
def laws_FnZeckendorf.l0 : Nat → List Int → Int → List Int → ByteArray → Int → List Int → Int → Int → Option (Bool)
  | 0, _, _, _, _, _, _, _, _ => none
  | k + 1, x1, x5, x6, x10, x14, x83, x84, x85 => if x85 < x84 then (if 0 ≤ x85 then (if x85 < (x83.length : Int) then (if x85 > 0 then (if 0 ≤ (wrap64 (x85 - 1)) then (if (wrap64 (x85 - 1)) < (x6.length : Int) then (if (rd x83 x85) < (wrap64 (2 * (rd x6 (wrap64 (x85 - 1))))) then (some false) else (laws_FnZeckendorf.l0 k x1 x5 x6 x10 (wrap64 (x14 + (rd x83 x85))) x83 x84 (wrap64 (x85 + 1)))) else (none)) else (none)) else (laws_FnZeckendorf.l0 k x1 x5 x6 x10 (wrap64 (x14 + (rd x83 x85))) x83 x84 (wrap64 (x85 + 1)))) else (none)) else (none)) else (if x10.size + 3 ≤ 9223372036854775807 then ((impl_TakeFibonacci.f k (x10 ++ (⟨#[48, 49, 49]⟩ : ByteArray))).bind fun bt315 => (if x14 = x5 then (if bt315.2.2 = true then (if bt315.1 = x5 then (if bt315.2.1 = (x10.size : Int) then (if (x10.size : Int) < 2 then (laws_FnZeckendorf.j2 k x1 x10 true) else (if 0 ≤ (wrap64 ((x10.size : Int) - 2)) then (if (wrap64 ((x10.size : Int) - 2)) ≤ (x10.size : Int) then (laws_FnZeckendorf.j2 k x1 x10 ((x10.extract ((wrap64 ((x10.size : Int) - 2)) : Int).toNat x10.size).toList != ([49, 49] : List UInt8))) else (none)) else (none))) else (laws_FnZeckendorf.j2 k x1 x10 true)) else (laws_FnZeckendorf.j2 k x1 x10 true)) else (laws_FnZeckendorf.j2 k x1 x10 true)) else (laws_FnZeckendorf.j2 k x1 x10 true))) else (none))
def laws_FnZeckendorf.j2 : Nat → List Int → ByteArray → Bool → Option (Bool)
  | 0, _, _, _ => none
  | k + 1, x1, x10, x143 => if x143 = true then (some false) else (laws_FnZeckendorf.l1 k x1 x10 0)
def laws_FnZeckendorf.l1 : Nat → List Int → ByteArray → Int → Option (Bool)
  | 0, _, _, _ => none
  | k + 1, x1, x10, x20 => if (wrap64 (x20 + 2)) < (x10.size : Int) then (if 0 ≤ x20 then (if x20 < (x10.size : Int) then (if (bt x10 x20) = 49 then (if 0 ≤ (wrap64 (x20 + 1)) then (if (wrap64 (x20 + 1)) < (x10.size : Int) then (if (bt x10 (wrap64 (x20 + 1))) = 49 then (some false) else (laws_FnZeckendorf.l1 k x1 x10 (wrap64 (x20 + 1)))) else (none)) else (none)) else (laws_FnZeckendorf.l1 k x1 x10 (wrap64 (x20 + 1)))) else (none)) else (none)) else (laws_FnZeckendorf.j4 k x1)
end
def laws_FnZeckendorf.f (k : Nat) (l0 : List Int) (l1 : List Int) : Option (Bool) := if (wrap64 ((l0.length : Int) + (l1.length : Int))) > 1048576 then (some true) else ((spec_DrawSumsOf.f l0).bind fun t299 => ((impl_SumsOf.f k t299).bind fun bt300 => ((spec_SumsOf.f k t299).bind fun bt304 => ((impl_FibonacciOf.f k t299).bind fun bt308 => ((spec_FibonacciOf.f k t299).bind fun bt310 => (if (bt300.2 != bt304.2) = true then (laws_FnZeckendorf.j0 k l1 t299 bt300.1 bt300.2 bt308.1 true) else ((laws_sameInts.f k bt300.1 bt304.1).bind fun t312 => (if t312 = true then (if (bt308.2 != bt310.2) = true then (laws_FnZeckendorf.j0 k l1 t299 bt300.1 bt300.2 bt308.1 true) else (laws_FnZeckendorf.j0 k l1 t299 bt300.1 bt300.2 bt308.1 (bt308.1.toList != bt310.1.toList))) else (laws_FnZeckendorf.j0 k l1 t299 bt300.1 bt300.2 bt308.1 true)))))))))
theorem laws_FnZeckendorf.mono_l : ∀ k, (∀ y0 y1 y2 y3 y4 y5, LeO (laws_FnZeckendorf.j0 k y0 y1 y2 y3 y4 y5) (laws_FnZeckendorf.j0 (k + 1) y0 y1 y2 y3 y4 y5)) ∧ (∀ y0, LeO (laws_FnZeckendorf.j4 k y0) (laws_FnZeckendorf.j4 (k + 1) y0)) ∧ (∀ y0 y1 y2, LeO (laws_FnZeckendorf.l2 k y0 y1 y2) (laws_FnZeckendorf.l2 (k + 1) y0 y1 y2)) ∧ (∀ y0 y1 y2 y3, LeO (laws_FnZeckendorf.j6 k y0 y1 y2 y3) (laws_FnZeckendorf.j6 (k + 1) y0 y1 y2 y3)) ∧ (∀ y0 y1 y2, LeO (laws_FnZeckendorf.j7 k y0 y1 y2) (laws_FnZeckendorf.j7 (k + 1) y0 y1 y2)) ∧ (∀ y0 y1, LeO (laws_FnZeckendorf.j8 k y0 y1) (laws_FnZeckendorf.j8 (k + 1) y0 y1)) ∧ (∀ y0 y1 y2 y3 y4 y5 y6 y7, LeO (laws_FnZeckendorf.l0 k y0 y1 y2 y3 y4 y5 y6 y7) (laws_FnZeckendorf.l0 (k + 1) y0 y1 y2 y3 y4 y5 y6 y7)) ∧ (∀ y0 y1 y2, LeO (laws_FnZeckendorf.j2 k y0 y1 y2) (laws_FnZeckendorf.j2 (k + 1) y0 y1 y2)) ∧ (∀ y0 y1 y2, LeO (laws_FnZeckendorf.l1 k y0 y1 y2) (laws_FnZeckendorf.l1 (k + 1) y0 y1 y2))
  | 0 => ⟨fun _ _ _ _ _ _ r h => by simp [laws_FnZeckendorf.j0] at h, fun _ r h => by simp [laws_FnZeckendorf.j4] at h, fun _ _ _ r h => by simp [laws_FnZeckendorf.l2] at h, fun _ _ _ _ r h => by simp [laws_FnZeckendorf.j6] at h, fun _ _ _ r h => by simp [laws_FnZeckendorf.j7] at h, fun _ _ r h => by simp [laws_FnZeckendorf.j8] at h, fun _ _ _ _ _ _ _ _ r h => by simp [laws_FnZeckendorf.l0] at h, fun _ _ _ r h => by simp [laws_FnZeckendorf.j2] at h, fun _ _ _ r h => by simp [laws_FnZeckendorf.l1] at h⟩
  | k + 1 => by
    obtain ⟨ih0, ih1, ih2, ih3, ih4, ih5, ih6, ih7, ih8⟩ := laws_FnZeckendorf.mono_l k
    refine ⟨?_, ?_, ?_, ?_, ?_, ?_, ?_, ?_, ?_⟩
    · intro y0 y1 y2 y3 y4 y5
      unfold laws_FnZeckendorf.j0
      repeat' first
      | (with_reducible exact ih0 _ _ _ _ _ _)
      | (with_reducible exact ih1 _)
      | (with_reducible exact ih2 _ _ _)
      | (with_reducible exact ih3 _ _ _ _)
      | (with_reducible exact ih4 _ _ _)
      | (with_reducible exact ih5 _ _)
      | (with_reducible exact ih6 _ _ _ _ _ _ _ _)
      | (with_reducible exact ih7 _ _ _)
      | (with_reducible exact ih8 _ _ _)
      | (with_reducible exact impl_FibonacciOf.mono _ _)
      | (with_reducible exact impl_SumsOf.mono _ _)
      | (with_reducible exact impl_TakeFibonacci.mono _ _)
      | (with_reducible exact laws_sameInts.mono _ _ _)
      | (with_reducible exact spec_DrawTakeFibonacci.mono _ _)
      | (with_reducible exact spec_FibonacciOf.mono _ _)
      | (with_reducible exact spec_SumsOf.mono _ _)
      | (with_reducible exact spec_TakeFibonacci.mono _ _)
      | (with_reducible exact LeO.refl _)
      | (with_reducible exact LeO.none _)
      | (with_reducible refine LeO.ite ?_ ?_)
      | (with_reducible refine LeO.bind ?_ (fun _ => ?_))
      | exact ih0 _ _ _ _ _ _
      | exact ih1 _
      | exact ih2 _ _ _
      | exact ih3 _ _ _ _
      | exact ih4 _ _ _
      | exact ih5 _ _
      | exact ih6 _ _ _ _ _ _ _ _
      | exact ih7 _ _ _
      | exact ih8 _ _ _
      | exact impl_FibonacciOf.mono _ _
      | exact impl_SumsOf.mono _ _
      | exact impl_TakeFibonacci.mono _ _
      | exact laws_sameInts.mono _ _ _
      | exact spec_DrawTakeFibonacci.mono _ _
      | exact spec_FibonacciOf.mono _ _
      | exact spec_SumsOf.mono _ _
      | exact spec_TakeFibonacci.mono _ _
      | exact LeO.none _
      | refine LeO.ite ?_ ?_
      | refine LeO.bind ?_ (fun _ => ?_)
    · intro y0
      unfold laws_FnZeckendorf.j4
      repeat' first
      | (with_reducible exact ih0 _ _ _ _ _ _)
      | (with_reducible exact ih1 _)
      | (with_reducible exact ih2 _ _ _)
      | (with_reducible exact ih3 _ _ _ _)
      | (with_reducible exact ih4 _ _ _)
      | (with_reducible exact ih5 _ _)
      | (with_reducible exact ih6 _ _ _ _ _ _ _ _)
      | (with_reducible exact ih7 _ _ _)
      | (with_reducible exact ih8 _ _ _)
      | (with_reducible exact impl_FibonacciOf.mono _ _)
      | (with_reducible exact impl_SumsOf.mono _ _)
      | (with_reducible exact impl_TakeFibonacci.mono _ _)
      | (with_reducible exact laws_sameInts.mono _ _ _)
      | (with_reducible exact spec_DrawTakeFibonacci.mono _ _)
      | (with_reducible exact spec_FibonacciOf.mono _ _)
      | (with_reducible exact spec_SumsOf.mono _ _)
      | (with_reducible exact spec_TakeFibonacci.mono _ _)
      | (with_reducible exact LeO.refl _)
      | (with_reducible exact LeO.none _)
      | (with_reducible refine LeO.ite ?_ ?_)
      | (with_reducible refine LeO.bind ?_ (fun _ => ?_))
      | exact ih0 _ _ _ _ _ _
      | exact ih1 _
      | exact ih2 _ _ _
      | exact ih3 _ _ _ _
      | exact ih4 _ _ _
      | exact ih5 _ _
      | exact ih6 _ _ _ _ _ _ _ _
      | exact ih7 _ _ _
      | exact ih8 _ _ _
      | exact impl_FibonacciOf.mono _ _
      | exact impl_SumsOf.mono _ _
      | exact impl_TakeFibonacci.mono _ _
      | exact laws_sameInts.mono _ _ _
      | exact spec_DrawTakeFibonacci.mono _ _
      | exact spec_FibonacciOf.mono _ _
      | exact spec_SumsOf.mono _ _
      | exact spec_TakeFibonacci.mono _ _
      | exact LeO.none _
      | refine LeO.ite ?_ ?_
      | refine LeO.bind ?_ (fun _ => ?_)
    · intro y0 y1 y2
      unfold laws_FnZeckendorf.l2
      repeat' first
      | (with_reducible exact ih0 _ _ _ _ _ _)
      | (with_reducible exact ih1 _)
      | (with_reducible exact ih2 _ _ _)
      | (with_reducible exact ih3 _ _ _ _)
      | (with_reducible exact ih4 _ _ _)
      | (with_reducible exact ih5 _ _)
      | (with_reducible exact ih6 _ _ _ _ _ _ _ _)
      | (with_reducible exact ih7 _ _ _)
      | (with_reducible exact ih8 _ _ _)
      | (with_reducible exact impl_FibonacciOf.mono _ _)
      | (with_reducible exact impl_SumsOf.mono _ _)
      | (with_reducible exact impl_TakeFibonacci.mono _ _)
      | (with_reducible exact laws_sameInts.mono _ _ _)
      | (with_reducible exact spec_DrawTakeFibonacci.mono _ _)
      | (with_reducible exact spec_FibonacciOf.mono _ _)
      | (with_reducible exact spec_SumsOf.mono _ _)
      | (with_reducible exact spec_TakeFibonacci.mono _ _)
      | (with_reducible exact LeO.refl _)
      | (with_reducible exact LeO.none _)
      | (with_reducible refine LeO.ite ?_ ?_)
      | (with_reducible refine LeO.bind ?_ (fun _ => ?_))
      | exact ih0 _ _ _ _ _ _
      | exact ih1 _
      | exact ih2 _ _ _
      | exact ih3 _ _ _ _
      | exact ih4 _ _ _
      | exact ih5 _ _
      | exact ih6 _ _ _ _ _ _ _ _
      | exact ih7 _ _ _
      | exact ih8 _ _ _
      | exact impl_FibonacciOf.mono _ _
      | exact impl_SumsOf.mono _ _
      | exact impl_TakeFibonacci.mono _ _
      | exact laws_sameInts.mono _ _ _
      | exact spec_DrawTakeFibonacci.mono _ _
      | exact spec_FibonacciOf.mono _ _
      | exact spec_SumsOf.mono _ _
      | exact spec_TakeFibonacci.mono _ _
      | exact LeO.none _
      | refine LeO.ite ?_ ?_
      | refine LeO.bind ?_ (fun _ => ?_)
    · intro y0 y1 y2 y3
      unfold laws_FnZeckendorf.j6
      repeat' first
      | (with_reducible exact ih0 _ _ _ _ _ _)
      | (with_reducible exact ih1 _)
      | (with_reducible exact ih2 _ _ _)
      | (with_reducible exact ih3 _ _ _ _)
      | (with_reducible exact ih4 _ _ _)
      | (with_reducible exact ih5 _ _)
      | (with_reducible exact ih6 _ _ _ _ _ _ _ _)
      | (with_reducible exact ih7 _ _ _)
      | (with_reducible exact ih8 _ _ _)
      | (with_reducible exact impl_FibonacciOf.mono _ _)
      | (with_reducible exact impl_SumsOf.mono _ _)
      | (with_reducible exact impl_TakeFibonacci.mono _ _)
      | (with_reducible exact laws_sameInts.mono _ _ _)
      | (with_reducible exact spec_DrawTakeFibonacci.mono _ _)
      | (with_reducible exact spec_FibonacciOf.mono _ _)
      | (with_reducible exact spec_SumsOf.mono _ _)
      | (with_reducible exact spec_TakeFibonacci.mono _ _)
      | (with_reducible exact LeO.refl _)
      | (with_reducible exact LeO.none _)
      | (with_reducible refine LeO.ite ?_ ?_)
      | (with_reducible refine LeO.bind ?_ (fun _ => ?_))
      | exact ih0 _ _ _ _ _ _
      | exact ih1 _
      | exact ih2 _ _ _
      | exact ih3 _ _ _ _
      | exact ih4 _ _ _
      | exact ih5 _ _
      | exact ih6 _ _ _ _ _ _ _ _
      | exact ih7 _ _ _
      | exact ih8 _ _ _
      | exact impl_FibonacciOf.mono _ _
      | exact impl_SumsOf.mono _ _
      | exact impl_TakeFibonacci.mono _ _
      | exact laws_sameInts.mono _ _ _
      | exact spec_DrawTakeFibonacci.mono _ _
      | exact spec_FibonacciOf.mono _ _
      | exact spec_SumsOf.mono _ _
      | exact spec_TakeFibonacci.mono _ _
      | exact LeO.none _
      | refine LeO.ite ?_ ?_
      | refine LeO.bind ?_ (fun _ => ?_)
    · intro y0 y1 y2
      unfold laws_FnZeckendorf.j7
      repeat' first
      | (with_reducible exact ih0 _ _ _ _ _ _)
      | (with_reducible exact ih1 _)
      | (with_reducible exact ih2 _ _ _)
      | (with_reducible exact ih3 _ _ _ _)
      | (with_reducible exact ih4 _ _ _)
      | (with_reducible exact ih5 _ _)
      | (with_reducible exact ih6 _ _ _ _ _ _ _ _)
      | (with_reducible exact ih7 _ _ _)
      | (with_reducible exact ih8 _ _ _)
      | (with_reducible exact impl_FibonacciOf.mono _ _)
      | (with_reducible exact impl_SumsOf.mono _ _)
      | (with_reducible exact impl_TakeFibonacci.mono _ _)
      | (with_reducible exact laws_sameInts.mono _ _ _)
      | (with_reducible exact spec_DrawTakeFibonacci.mono _ _)
      | (with_reducible exact spec_FibonacciOf.mono _ _)
      | (with_reducible exact spec_SumsOf.mono _ _)
      | (with_reducible exact spec_TakeFibonacci.mono _ _)
      | (with_reducible exact LeO.refl _)
      | (with_reducible exact LeO.none _)
      | (with_reducible refine LeO.ite ?_ ?_)
      | (with_reducible refine LeO.bind ?_ (fun _ => ?_))
      | exact ih0 _ _ _ _ _ _
      | exact ih1 _
      | exact ih2 _ _ _
      | exact ih3 _ _ _ _
      | exact ih4 _ _ _
      | exact ih5 _ _
      | exact ih6 _ _ _ _ _ _ _ _
      | exact ih7 _ _ _
      | exact ih8 _ _ _
      | exact impl_FibonacciOf.mono _ _
      | exact impl_SumsOf.mono _ _
      | exact impl_TakeFibonacci.mono _ _
      | exact laws_sameInts.mono _ _ _
      | exact spec_DrawTakeFibonacci.mono _ _
      | exact spec_FibonacciOf.mono _ _
      | exact spec_SumsOf.mono _ _
      | exact spec_TakeFibonacci.mono _ _
      | exact LeO.none _
      | refine LeO.ite ?_ ?_
      | refine LeO.bind ?_ (fun _ => ?_)
    · intro y0 y1
      unfold laws_FnZeckendorf.j8
      repeat' first
      | (with_reducible exact ih0 _ _ _ _ _ _)
      | (with_reducible exact ih1 _)
      | (with_reducible exact ih2 _ _ _)
      | (with_reducible exact ih3 _ _ _ _)
      | (with_reducible exact ih4 _ _ _)
      | (with_reducible exact ih5 _ _)
      | (with_reducible exact ih6 _ _ _ _ _ _ _ _)
      | (with_reducible exact ih7 _ _ _)
      | (with_reducible exact ih8 _ _ _)
      | (with_reducible exact impl_FibonacciOf.mono _ _)
      | (with_reducible exact impl_SumsOf.mono _ _)
      | (with_reducible exact impl_TakeFibonacci.mono _ _)
      | (with_reducible exact laws_sameInts.mono _ _ _)
      | (with_reducible exact spec_DrawTakeFibonacci.mono _ _)
      | (with_reducible exact spec_FibonacciOf.mono _ _)
      | (with_reducible exact spec_SumsOf.mono _ _)
      | (with_reducible exact spec_TakeFibonacci.mono _ _)
      | (with_reducible exact LeO.refl _)
      | (with_reducible exact LeO.none _)
      | (with_reducible refine LeO.ite ?_ ?_)
      | (with_reducible refine LeO.bind ?_ (fun _ => ?_))
      | exact ih0 _ _ _ _ _ _
      | exact ih1 _
      | exact ih2 _ _ _
      | exact ih3 _ _ _ _
      | exact ih4 _ _ _
      | exact ih5 _ _
      | exact ih6 _ _ _ _ _ _ _ _
      | exact ih7 _ _ _
      | exact ih8 _ _ _
      | exact impl_FibonacciOf.mono _ _
      | exact impl_SumsOf.mono _ _
      | exact impl_TakeFibonacci.mono _ _
      | exact laws_sameInts.mono _ _ _
      | exact spec_DrawTakeFibonacci.mono _ _
      | exact spec_FibonacciOf.mono _ _
      | exact spec_SumsOf.mono _ _
      | exact spec_TakeFibonacci.mono _ _
      | exact LeO.none _
      | refine LeO.ite ?_ ?_
      | refine LeO.bind ?_ (fun _ => ?_)
    · intro y0 y1 y2 y3 y4 y5 y6 y7
      unfold laws_FnZeckendorf.l0
      repeat' first
      | (with_reducible exact ih0 _ _ _ _ _ _)
      | (with_reducible exact ih1 _)
      | (with_reducible exact ih2 _ _ _)
      | (with_reducible exact ih3 _ _ _ _)
      | (with_reducible exact ih4 _ _ _)
      | (with_reducible exact ih5 _ _)
      | (with_reducible exact ih6 _ _ _ _ _ _ _ _)
      | (with_reducible exact ih7 _ _ _)
      | (with_reducible exact ih8 _ _ _)
      | (with_reducible exact impl_FibonacciOf.mono _ _)
      | (with_reducible exact impl_SumsOf.mono _ _)
      | (with_reducible exact impl_TakeFibonacci.mono _ _)
      | (with_reducible exact laws_sameInts.mono _ _ _)
      | (with_reducible exact spec_DrawTakeFibonacci.mono _ _)
      | (with_reducible exact spec_FibonacciOf.mono _ _)
      | (with_reducible exact spec_SumsOf.mono _ _)
      | (with_reducible exact spec_TakeFibonacci.mono _ _)
      | (with_reducible exact LeO.refl _)
      | (with_reducible exact LeO.none _)
      | (with_reducible refine LeO.ite ?_ ?_)
      | (with_reducible refine LeO.bind ?_ (fun _ => ?_))
      | exact ih0 _ _ _ _ _ _
      | exact ih1 _
      | exact ih2 _ _ _
      | exact ih3 _ _ _ _
      | exact ih4 _ _ _
      | exact ih5 _ _
      | exact ih6 _ _ _ _ _ _ _ _
      | exact ih7 _ _ _
      | exact ih8 _ _ _
      | exact impl_FibonacciOf.mono _ _
      | exact impl_SumsOf.mono _ _
      | exact impl_TakeFibonacci.mono _ _
      | exact laws_sameInts.mono _ _ _
      | exact spec_DrawTakeFibonacci.mono _ _
      | exact spec_FibonacciOf.mono _ _
      | exact spec_SumsOf.mono _ _
      | exact spec_TakeFibonacci.mono _ _
      | exact LeO.none _
      | refine LeO.ite ?_ ?_
      | refine LeO.bind ?_ (fun _ => ?_)
    · intro y0 y1 y2
      unfold laws_FnZeckendorf.j2
      repeat' first
      | (with_reducible exact ih0 _ _ _ _ _ _)
      | (with_reducible exact ih1 _)
      | (with_reducible exact ih2 _ _ _)
      | (with_reducible exact ih3 _ _ _ _)
      | (with_reducible exact ih4 _ _ _)
      | (with_reducible exact ih5 _ _)
      | (with_reducible exact ih6 _ _ _ _ _ _ _ _)
      | (with_reducible exact ih7 _ _ _)
      | (with_reducible exact ih8 _ _ _)
      | (with_reducible exact impl_FibonacciOf.mono _ _)
      | (with_reducible exact impl_SumsOf.mono _ _)
      | (with_reducible exact impl_TakeFibonacci.mono _ _)
      | (with_reducible exact laws_sameInts.mono _ _ _)
      | (with_reducible exact spec_DrawTakeFibonacci.mono _ _)
      | (with_reducible exact spec_FibonacciOf.mono _ _)
      | (with_reducible exact spec_SumsOf.mono _ _)
      | (with_reducible exact spec_TakeFibonacci.mono _ _)
      | (with_reducible exact LeO.refl _)
      | (with_reducible exact LeO.none _)
      | (with_reducible refine LeO.ite ?_ ?_)
      | (with_reducible refine LeO.bind ?_ (fun _ => ?_))
      | exact ih0 _ _ _ _ _ _
      | exact ih1 _
      | exact ih2 _ _ _
      | exact ih3 _ _ _ _
      | exact ih4 _ _ _
      | exact ih5 _ _
      | exact ih6 _ _ _ _ _ _ _ _
      | exact ih7 _ _ _
      | exact ih8 _ _ _
      | exact impl_FibonacciOf.mono _ _
      | exact impl_SumsOf.mono _ _
      | exact impl_TakeFibonacci.mono _ _
      | exact laws_sameInts.mono _ _ _
      | exact spec_DrawTakeFibonacci.mono _ _
      | exact spec_FibonacciOf.mono _ _
      | exact spec_SumsOf.mono _ _
      | exact spec_TakeFibonacci.mono _ _
      | exact LeO.none _
      | refine LeO.ite ?_ ?_
      | refine LeO.bind ?_ (fun _ => ?_)
    · intro y0 y1 y2
      unfold laws_FnZeckendorf.l1
      repeat' first
      | (with_reducible exact ih0 _ _ _ _ _ _)
      | (with_reducible exact ih1 _)
      | (with_reducible exact ih2 _ _ _)
      | (with_reducible exact ih3 _ _ _ _)
      | (with_reducible exact ih4 _ _ _)
      | (with_reducible exact ih5 _ _)
      | (with_reducible exact ih6 _ _ _ _ _ _ _ _)
      | (with_reducible exact ih7 _ _ _)
      | (with_reducible exact ih8 _ _ _)
      | (with_reducible exact impl_FibonacciOf.mono _ _)
      | (with_reducible exact impl_SumsOf.mono _ _)
      | (with_reducible exact impl_TakeFibonacci.mono _ _)
      | (with_reducible exact laws_sameInts.mono _ _ _)
      | (with_reducible exact spec_DrawTakeFibonacci.mono _ _)
      | (with_reducible exact spec_FibonacciOf.mono _ _)
      | (with_reducible exact spec_SumsOf.mono _ _)
      | (with_reducible exact spec_TakeFibonacci.mono _ _)
      | (with_reducible exact LeO.refl _)
      | (with_reducible exact LeO.none _)
      | (with_reducible refine LeO.ite ?_ ?_)
      | (with_reducible refine LeO.bind ?_ (fun _ => ?_))
      | exact ih0 _ _ _ _ _ _
      | exact ih1 _
      | exact ih2 _ _ _
      | exact ih3 _ _ _ _
      | exact ih4 _ _ _
      | exact ih5 _ _
      | exact ih6 _ _ _ _ _ _ _ _
      | exact ih7 _ _ _
      | exact ih8 _ _ _
      | exact impl_FibonacciOf.mono _ _
      | exact impl_SumsOf.mono _ _
      | exact impl_TakeFibonacci.mono _ _
      | exact laws_sameInts.mono _ _ _
      | exact spec_DrawTakeFibonacci.mono _ _
      | exact spec_FibonacciOf.mono _ _
      | exact spec_SumsOf.mono _ _
      | exact spec_TakeFibonacci.mono _ _
      | exact LeO.none _
      | refine LeO.ite ?_ ?_
      | refine LeO.bind ?_ (fun _ => ?_)
theorem laws_FnZeckendorf.mono : ∀ a0 a1 k, LeO (laws_FnZeckendorf.f k a0 a1) (laws_FnZeckendorf.f (k + 1) a0 a1) := by
  intro a0 a1 k
  obtain ⟨ih0, ih1, ih2, ih3, ih4, ih5, ih6, ih7, ih8⟩ := laws_FnZeckendorf.mono_l k
  unfold laws_FnZeckendorf.f
  repeat' first
      | (with_reducible exact ih0 _ _ _ _ _ _)
      | (with_reducible exact ih1 _)
      | (with_reducible exact ih2 _ _ _)
      | (with_reducible exact ih3 _ _ _ _)
      | (with_reducible exact ih4 _ _ _)
      | (with_reducible exact ih5 _ _)
      | (with_reducible exact ih6 _ _ _ _ _ _ _ _)
      | (with_reducible exact ih7 _ _ _)
      | (with_reducible exact ih8 _ _ _)
      | (with_reducible exact impl_FibonacciOf.mono _ _)
      | (with_reducible exact impl_SumsOf.mono _ _)
      | (with_reducible exact impl_TakeFibonacci.mono _ _)
      | (with_reducible exact laws_sameInts.mono _ _ _)
      | (with_reducible exact spec_DrawTakeFibonacci.mono _ _)
      | (with_reducible exact spec_FibonacciOf.mono _ _)
      | (with_reducible exact spec_SumsOf.mono _ _)
      | (with_reducible exact spec_TakeFibonacci.mono _ _)
      | (with_reducible exact LeO.refl _)
      | (with_reducible exact LeO.none _)
      | (with_reducible refine LeO.ite ?_ ?_)
      | (with_reducible refine LeO.bind ?_ (fun _ => ?_))
      | exact ih0 _ _ _ _ _ _
      | exact ih1 _
      | exact ih2 _ _ _
      | exact ih3 _ _ _ _
      | exact ih4 _ _ _
      | exact ih5 _ _
      | exact ih6 _ _ _ _ _ _ _ _
      | exact ih7 _ _ _
      | exact ih8 _ _ _
      | exact impl_FibonacciOf.mono _ _
      | exact impl_SumsOf.mono _ _
      | exact impl_TakeFibonacci.mono _ _
      | exact laws_sameInts.mono _ _ _
      | exact spec_DrawTakeFibonacci.mono _ _
      | exact spec_FibonacciOf.mono _ _
      | exact spec_SumsOf.mono _ _
      | exact spec_TakeFibonacci.mono _ _
      | exact LeO.none _
      | refine LeO.ite ?_ ?_
      | refine LeO.bind ?_ (fun _ => ?_)
set_option maxHeartbeats 8000000 in
set_option maxRecDepth 100000 in
theorem laws_FnZeckendorf.calls (k : Nat) (A0 : Option Addr) (c0 : Nat) (l0 : List Int) (A1 : Option Addr) (c1 : Nat) (l1 : List Int) (r : Bool) (w : World) (hr0 : Kd.C (Kd.int .u8) w A0 l0.length l0) (hc0 : l0.length ≤ c0) (hr1 : Kd.C (Kd.int .u8) w A1 l1.length l1) (hc1 : l1.length ≤ c1) (hG : GInt w) (h : laws_FnZeckendorf.f k l0 l1 = some r) :
    Calls Try.prog 5 #[.slice A0 l0.length c0, .slice A1 l1.length c1] w fun e w' => e = .returned (.bool r) ∧ Below w.heap.size w w' := by
  have HG := Aside0.mk hG
  clear hG
  have HR0 := Aside0.mk hr0
  have HC0 := Aside0.mk hc0
  clear hr0 hc0
  have HR1 := Aside0.mk hr1
  have HC1 := Aside0.mk hc1
  clear hr1 hc1
  have HB := Aside0.mk (Below.refl w.heap.size w)
  have H : (if (wrap64 ((l0.length : Int) + (l1.length : Int))) > 1048576 then (some true) else ((spec_DrawSumsOf.f l0).bind fun t299 => ((impl_SumsOf.f k t299).bind fun bt300 => ((spec_SumsOf.f k t299).bind fun bt304 => ((impl_FibonacciOf.f k t299).bind fun bt308 => ((spec_FibonacciOf.f k t299).bind fun bt310 => (if (bt300.2 != bt304.2) = true then (laws_FnZeckendorf.j0 k l1 t299 bt300.1 bt300.2 bt308.1 true) else ((laws_sameInts.f k bt300.1 bt304.1).bind fun t312 => (if t312 = true then (if (bt308.2 != bt310.2) = true then (laws_FnZeckendorf.j0 k l1 t299 bt300.1 bt300.2 bt308.1 true) else (laws_FnZeckendorf.j0 k l1 t299 bt300.1 bt300.2 bt308.1 (bt308.1.toList != bt310.1.toList))) else (laws_FnZeckendorf.j0 k l1 t299 bt300.1 bt300.2 bt308.1 true)))))))))) = some r := h
  clear h
  by_cases c3 : (wrap64 ((l0.length : Int) + (l1.length : Int))) > 1048576
  · rw [if_pos c3] at H
    have c3b0 : decide (1048576 < (wrap64 ((l0.length : Int) + (l1.length : Int)))) = true := decide_eq_true c3
    clear c3
    obtain rfl := Option.some.inj H
    go_enter Try.func5, Try.ntmps5
    go_wp2
    go_ret
    exact ⟨by first | rfl | (simp [errW_none, errW_some] <;> rfl) | (simp [*, errW_none, errW_some] <;> rfl), by repeat (first | (with_reducible first | exact HB.out | apply below_alloc | apply pw_below_drewN | apply below_drew1) | exact HB.out)⟩
  · rw [if_neg c3] at H
    have c3b0 : decide (1048576 < (wrap64 ((l0.length : Int) + (l1.length : Int)))) = false := decide_eq_false c3
    clear c3
    replace H := Option.bind_eq_some_iff.mp H
    obtain ⟨t299, A40, H⟩ := H
    replace H : ((impl_SumsOf.f k t299).bind fun bt300 => ((spec_SumsOf.f k t299).bind fun bt304 => ((impl_FibonacciOf.f k t299).bind fun bt308 => ((spec_FibonacciOf.f k t299).bind fun bt310 => (if (bt300.2 != bt304.2) = true then (laws_FnZeckendorf.j0 k l1 t299 bt300.1 bt300.2 bt308.1 true) else ((laws_sameInts.f k bt300.1 bt304.1).bind fun t312 => (if t312 = true then (if (bt308.2 != bt310.2) = true then (laws_FnZeckendorf.j0 k l1 t299 bt300.1 bt300.2 bt308.1 true) else (laws_FnZeckendorf.j0 k l1 t299 bt300.1 bt300.2 bt308.1 (bt308.1.toList != bt310.1.toList))) else (laws_FnZeckendorf.j0 k l1 t299 bt300.1 bt300.2 bt308.1 true)))))))) = some r := H
    have A4 := Aside0.mk A40
    clear A40
    replace H := Option.bind_eq_some_iff.mp H
    obtain ⟨⟨t300, t301⟩, A50, H⟩ := H
    replace H : ((spec_SumsOf.f k t299).bind fun bt304 => ((impl_FibonacciOf.f k t299).bind fun bt308 => ((spec_FibonacciOf.f k t299).bind fun bt310 => (if (t301 != bt304.2) = true then (laws_FnZeckendorf.j0 k l1 t299 t300 t301 bt308.1 true) else ((laws_sameInts.f k t300 bt304.1).bind fun t312 => (if t312 = true then (if (bt308.2 != bt310.2) = true then (laws_FnZeckendorf.j0 k l1 t299 t300 t301 bt308.1 true) else (laws_FnZeckendorf.j0 k l1 t299 t300 t301 bt308.1 (bt308.1.toList != bt310.1.toList))) else (laws_FnZeckendorf.j0 k l1 t299 t300 t301 bt308.1 true))))))) = some r := H
    have A5 := Aside0.mk A50
    clear A50
    replace H := Option.bind_eq_some_iff.mp H
    obtain ⟨⟨t304, t305⟩, A60, H⟩ := H
    replace H : ((impl_FibonacciOf.f k t299).bind fun bt308 => ((spec_FibonacciOf.f k t299).bind fun bt310 => (if (t301 != t305) = true then (laws_FnZeckendorf.j0 k l1 t299 t300 t301 bt308.1 true) else ((laws_sameInts.f k t300 t304).bind fun t312 => (if t312 = true then (if (bt308.2 != bt310.2) = true then (laws_FnZeckendorf.j0 k l1 t299 t300 t301 bt308.1 true) else (laws_FnZeckendorf.j0 k l1 t299 t300 t301 bt308.1 (bt308.1.toList != bt310.1.toList))) else (laws_FnZeckendorf.j0 k l1 t299 t300 t301 bt308.1 true)))))) = some r := H
    have A6 := Aside0.mk A60
    clear A60
    replace H := Option.bind_eq_some_iff.mp H
    obtain ⟨⟨t308, t309⟩, A70, H⟩ := H
    replace H : ((spec_FibonacciOf.f k t299).bind fun bt310 => (if (t301 != t305) = true then (laws_FnZeckendorf.j0 k l1 t299 t300 t301 t308 true) else ((laws_sameInts.f k t300 t304).bind fun t312 => (if t312 = true then (if (t309 != bt310.2) = true then (laws_FnZeckendorf.j0 k l1 t299 t300 t301 t308 true) else (laws_FnZeckendorf.j0 k l1 t299 t300 t301 t308 (t308.toList != bt310.1.toList))) else (laws_FnZeckendorf.j0 k l1 t299 t300 t301 t308 true))))) = some r := H
    have A7 := Aside0.mk A70
    clear A70
    replace H := Option.bind_eq_some_iff.mp H
    obtain ⟨⟨t310, t311⟩, A80, H⟩ := H
    replace H : (if (t301 != t305) = true then (laws_FnZeckendorf.j0 k l1 t299 t300 t301 t308 true) else ((laws_sameInts.f k t300 t304).bind fun t312 => (if t312 = true then (if (t309 != t311) = true then (laws_FnZeckendorf.j0 k l1 t299 t300 t301 t308 true) else (laws_FnZeckendorf.j0 k l1 t299 t300 t301 t308 (t308.toList != t310.toList))) else (laws_FnZeckendorf.j0 k l1 t299 t300 t301 t308 true)))) = some r := H
    have A8 := Aside0.mk A80
    clear A80
    have HC9 := Aside0.mk H
    clear H
    go_enter Try.func5, Try.ntmps5
    go_upto_region 8 with (first | ((with_reducible refine gate_callee (f := 36) rfl ?_); refine goesL_ (some 42) rfl rfl Try.func36 (by kernel_rfl) rfl #[.slice A0 l0.length c0] rfl (by (try simp only [List.map_toArray, List.map_cons, List.map_nil]); first | done | rfl | (simp only [List.length_drop, List.length_take]; rfl)) ?_; (with_reducible refine (spec_DrawSumsOf.calls _ _ l0 t299 _ ?side1 ?side2 A4.out).mono ?_); (case side1 => repeat (first | exact HR0.out | (with_reducible refine Kd.C_alloc ?_ _) | (with_reducible refine Kd.C_drewN ?_ _) | (with_reducible refine Kd.C_drew ?_))); (case side2 => exact HC0.out); rintro e w10 ⟨rfl, hb⟩; refine ⟨_, rfl, ?_⟩; have n0_ := Aside0.mk (below_step (by repeat (first | (with_reducible first | exact HB.out | apply below_alloc | apply pw_below_drewN | apply below_drew1) | exact HB.out)) hb); clear HB; have HB := n0_; clear n0_; (try clear hb); (try clear hb2); (try clear hk); (try clear hi)) | ((with_reducible refine gate_callee (f := 37) rfl ?_); refine goesL_ (some 45) rfl rfl Try.func37 (by kernel_rfl) rfl #[.int .i64 t299] rfl (by (try simp only [List.map_toArray, List.map_cons, List.map_nil]); first | done | rfl | (simp only [List.length_drop, List.length_take]; rfl)) ?_; (with_reducible refine (impl_SumsOf.calls k t299 t300 t301 _ A5.out).mono ?_); rintro e w11 ⟨v302, rfl, ho0, hb⟩; refine ⟨_, rfl, ?_⟩; have n0_ := Aside0.mk (Kd.R_lower ho0 (below_size (by repeat (first | (with_reducible first | exact HB.out | apply below_alloc | apply pw_below_drewN | apply below_drew1) | exact HB.out)))); have n1_ := Aside0.mk (below_step (by repeat (first | (with_reducible first | exact HB.out | apply below_alloc | apply pw_below_drewN | apply below_drew1) | exact HB.out)) hb); clear HB; have HO303 := n0_; have HB := n1_; clear n0_ n1_; (try clear hb); (try clear hb2); (try clear hk); (try clear hi); (try clear ho0)) | ((with_reducible refine gate_callee (f := 38) rfl ?_); refine goesL_ (some 50) rfl rfl Try.func38 (by kernel_rfl) rfl #[.int .i64 t299] rfl (by (try simp only [List.map_toArray, List.map_cons, List.map_nil]); first | done | rfl | (simp only [List.length_drop, List.length_take]; rfl)) ?_; (with_reducible refine (spec_SumsOf.calls k t299 t304 t305 _ A6.out).mono ?_); rintro e w12 ⟨v306, rfl, ho0, hb⟩; refine ⟨_, rfl, ?_⟩; have n0_ := Aside0.mk (Kd.R_elder' (by (with_reducible repeat (first | apply Kd.R_alloc | apply Kd.R_drewN | apply Kd.R_drew)); exact HO303.out) (Kd.R_base ho0) hb); have n1_ := Aside0.mk (Kd.R_lower (Kd.R_new' ho0 (Kd.R_lt (by (with_reducible repeat (first | apply Kd.R_alloc | apply Kd.R_drewN | apply Kd.R_drew)); exact HO303.out))) (below_size (by repeat (first | (with_reducible first | exact HB.out | apply below_alloc | apply pw_below_drewN | apply below_drew1) | exact HB.out)))); have n2_ := Aside0.mk (below_step (by repeat (first | (with_reducible first | exact HB.out | apply below_alloc | apply pw_below_drewN | apply below_drew1) | exact HB.out)) hb); clear HO303; clear HB; have HO303 := n0_; have HO307 := n1_; have HB := n2_; clear n0_ n1_ n2_; (try clear hb); (try clear hb2); (try clear hk); (try clear hi); (try clear ho0)) | ((with_reducible refine gate_callee (f := 39) rfl ?_); refine goesL_ (some 55) rfl rfl Try.func39 (by kernel_rfl) rfl #[.int .i64 t299] rfl (by (try simp only [List.map_toArray, List.map_cons, List.map_nil]); first | done | rfl | (simp only [List.length_drop, List.length_take]; rfl)) ?_; (with_reducible refine (impl_FibonacciOf.calls k t299 t308 t309 _ A7.out).mono ?_); rintro e w13 ⟨rfl, hb⟩; refine ⟨_, rfl, ?_⟩; have n0_ := Aside0.mk (Kd.R_below (by (with_reducible repeat (first | apply Kd.R_alloc | apply Kd.R_drewN | apply Kd.R_drew)); exact HO303.out) hb); have n1_ := Aside0.mk (Kd.R_below (by (with_reducible repeat (first | apply Kd.R_alloc | apply Kd.R_drewN | apply Kd.R_drew)); exact HO307.out) hb); have n2_ := Aside0.mk (below_step (by repeat (first | (with_reducible first | exact HB.out | apply below_alloc | apply pw_below_drewN | apply below_drew1) | exact HB.out)) hb); clear HO303; clear HO307; clear HB; have HO303 := n0_; have HO307 := n1_; have HB := n2_; clear n0_ n1_ n2_; (try clear hb); (try clear hb2); (try clear hk); (try clear hi)) | ((with_reducible refine gate_callee (f := 40) rfl ?_); refine goesL_ (some 60) rfl rfl Try.func40 (by kernel_rfl) rfl #[.int .i64 t299] rfl (by (try simp only [List.map_toArray, List.map_cons, List.map_nil]); first | done | rfl | (simp only [List.length_drop, List.length_take]; rfl)) ?_; (with_reducible refine (spec_FibonacciOf.calls k t299 t310 t311 _ A8.out).mono ?_); rintro e w14 ⟨rfl, hb⟩; refine ⟨_, rfl, ?_⟩; have n0_ := Aside0.mk (Kd.R_below (by (with_reducible repeat (first | apply Kd.R_alloc | apply Kd.R_drewN | apply Kd.R_drew)); exact HO303.out) hb); have n1_ := Aside0.mk (Kd.R_below (by (with_reducible repeat (first | apply Kd.R_alloc | apply Kd.R_drewN | apply Kd.R_drew)); exact HO307.out) hb); have n2_ := Aside0.mk (below_step (by repeat (first | (with_reducible first | exact HB.out | apply below_alloc | apply pw_below_drewN | apply below_drew1) | exact HB.out)) hb); clear HO303; clear HO307; clear HB; have HO303 := n0_; have HO307 := n1_; have HB := n2_; clear n0_ n1_ n2_; (try clear hb); (try clear hb2); (try clear hk); (try clear hi)))
    (try simp only [Act.put, List.setIfInBounds_toArray, List.set_cons_zero, List.set_cons_succ])
    go_cut [81] (fun v81 wc => ∃ (kq : Nat) (x81_8 : Bool), v81 = .bool x81_8 ∧ Aside0 (laws_FnZeckendorf.j0 kq l1 t299 t300 t301 t308 x81_8 = some r) ∧ Aside0 (kq ≤ k) ∧ Aside0 (Kd.R (Kd.int .i64) 3 wc w.heap.size (fun _ => True) v302 t300) ∧ Aside0 (Below w.heap.size w wc))
    case first =>
      have H := HC9.out
      clear HC9
      by_cases c15 : (t301 != t305) = true
      · rw [if_pos c15] at H
        have c15b0 : (t301 != t305) = true := c15
        (try (have c15b1 : decide (t301 = t305) = false := by simpa using c15))
        (try (have c15b2 : (t301 == t305) = false := by simpa using c15))
        (try (have c15b3 : ¬ (t301 = t305) := by simpa using c15))
        clear c15
        (first | rw [c15b0] | (simp only [i64_w, i32_w]; rw [c15b0]) | skip)
        have H' := Aside0.mk H
        clear H
        go_wp2
        go_meet
        case rel => exact ⟨_, (true), (by first | rfl | (simp; done) | (simp [*]; done)), H', ⟨by first | omega | exact Nat.le_refl _⟩, ⟨by (with_reducible repeat (first | apply Kd.R_alloc | apply Kd.R_drewN | apply Kd.R_drew)); exact Kd.R_mono HO303.out (fun _ hk => trivial)⟩, ⟨by repeat (first | (with_reducible first | exact HB.out | apply below_alloc | apply pw_below_drewN | apply below_drew1) | exact HB.out)⟩⟩
      · rw [if_neg c15] at H
        have c15b0 : (t301 != t305) = false := by simpa using c15
        (try (have c15b1 : decide (t301 = t305) = true := by simpa using c15))
        (try (have c15b2 : (t301 == t305) = true := by simpa using c15))
        clear c15
        (first | rw [c15b0] | (simp only [i64_w, i32_w]; rw [c15b0]) | skip)
        replace H := Option.bind_eq_some_iff.mp H
        obtain ⟨t312, A160, H⟩ := H
        replace H : (if t312 = true then (if (t309 != t311) = true then (laws_FnZeckendorf.j0 k l1 t299 t300 t301 t308 true) else (laws_FnZeckendorf.j0 k l1 t299 t300 t301 t308 (t308.toList != t310.toList))) else (laws_FnZeckendorf.j0 k l1 t299 t300 t301 t308 true)) = some r := H
        have A16 := Aside0.mk A160
        clear A160
        by_cases c17 : t312 = true
        · subst c17
          have H1 : (if (t309 != t311) = true then (laws_FnZeckendorf.j0 k l1 t299 t300 t301 t308 true) else (laws_FnZeckendorf.j0 k l1 t299 t300 t301 t308 (t308.toList != t310.toList))) = some r := by rw [if_pos rfl] at H; exact H
          clear H
          have H := H1
          clear H1
          by_cases c18 : (t309 != t311) = true
          · rw [if_pos c18] at H
            have c18b0 : (t309 != t311) = true := c18
            (try (have c18b1 : decide (t309 = t311) = false := by simpa using c18))
            (try (have c18b2 : (t309 == t311) = false := by simpa using c18))
            (try (have c18b3 : ¬ (t309 = t311) := by simpa using c18))
            clear c18
            have H' := Aside0.mk H
            clear H
            obtain ⟨Ao19, co19, eo19⟩ := Kd.R_slice HO303.out
            subst eo19
            obtain ⟨Ao20, co20, eo20⟩ := Kd.R_slice HO307.out
            subst eo20
            go_wp2_with (first | (go_at_call 41; (with_reducible refine (laws_sameInts.calls k _ _ t300 _ _ t304 true _ ?side1 ?side2 ?side3 ?side4 A16.out).mono ?_); (case side1 => repeat (first | exact (Kd.R_reads' HO303.out).2.2 | (with_reducible refine Kd.C_alloc ?_ _) | (with_reducible refine Kd.C_drewN ?_ _) | (with_reducible refine Kd.C_drew ?_))); (case side2 => exact (Kd.R_reads' HO303.out).2.1); (case side3 => repeat (first | exact (Kd.R_reads' HO307.out).2.2 | (with_reducible refine Kd.C_alloc ?_ _) | (with_reducible refine Kd.C_drewN ?_ _) | (with_reducible refine Kd.C_drew ?_))); (case side4 => exact (Kd.R_reads' HO307.out).2.1); rintro e w' ⟨rfl, ⟨nd, rfl⟩⟩))
            go_meet
            case rel => exact ⟨_, (true), (by first | rfl | (simp; done) | (simp [*]; done)), H', ⟨by first | omega | exact Nat.le_refl _⟩, ⟨by (with_reducible repeat (first | apply Kd.R_alloc | apply Kd.R_drewN | apply Kd.R_drew)); exact Kd.R_mono HO303.out (fun _ hk => trivial)⟩, ⟨by repeat (first | (with_reducible first | exact HB.out | apply below_alloc | apply pw_below_drewN | apply below_drew1) | exact HB.out)⟩⟩
          · rw [if_neg c18] at H
            have c18b0 : (t309 != t311) = false := by simpa using c18
            (try (have c18b1 : decide (t309 = t311) = true := by simpa using c18))
            (try (have c18b2 : (t309 == t311) = true := by simpa using c18))
            clear c18
            have H' := Aside0.mk H
            clear H
            obtain ⟨Ao21, co21, eo21⟩ := Kd.R_slice HO303.out
            subst eo21
            obtain ⟨Ao22, co22, eo22⟩ := Kd.R_slice HO307.out
            subst eo22
            go_wp2_with (first | (go_at_call 41; (with_reducible refine (laws_sameInts.calls k _ _ t300 _ _ t304 true _ ?side1 ?side2 ?side3 ?side4 A16.out).mono ?_); (case side1 => repeat (first | exact (Kd.R_reads' HO303.out).2.2 | (with_reducible refine Kd.C_alloc ?_ _) | (with_reducible refine Kd.C_drewN ?_ _) | (with_reducible refine Kd.C_drew ?_))); (case side2 => exact (Kd.R_reads' HO303.out).2.1); (case side3 => repeat (first | exact (Kd.R_reads' HO307.out).2.2 | (with_reducible refine Kd.C_alloc ?_ _) | (with_reducible refine Kd.C_drewN ?_ _) | (with_reducible refine Kd.C_drew ?_))); (case side4 => exact (Kd.R_reads' HO307.out).2.1); rintro e w' ⟨rfl, ⟨nd, rfl⟩⟩))
            go_meet
            case rel => exact ⟨_, ((t308.toList != t310.toList)), (by first | rfl | (simp; done) | (simp [*]; done)), H', ⟨by first | omega | exact Nat.le_refl _⟩, ⟨by (with_reducible repeat (first | apply Kd.R_alloc | apply Kd.R_drewN | apply Kd.R_drew)); exact Kd.R_mono HO303.out (fun _ hk => trivial)⟩, ⟨by repeat (first | (with_reducible first | exact HB.out | apply below_alloc | apply pw_below_drewN | apply below_drew1) | exact HB.out)⟩⟩
        · replace c17 := Bool.eq_false_iff.mpr c17
          subst c17
          have H1 : (laws_FnZeckendorf.j0 k l1 t299 t300 t301 t308 true) = some r := by rw [if_neg (show ¬ (false = true) by decide)] at H; exact H
          clear H
          have H := H1
          clear H1
          have H' := Aside0.mk H
          clear H
          obtain ⟨Ao23, co23, eo23⟩ := Kd.R_slice HO303.out
          subst eo23
          obtain ⟨Ao24, co24, eo24⟩ := Kd.R_slice HO307.out
          subst eo24
          go_wp2_with (first | (go_at_call 41; (with_reducible refine (laws_sameInts.calls k _ _ t300 _ _ t304 false _ ?side1 ?side2 ?side3 ?side4 A16.out).mono ?_); (case side1 => repeat (first | exact (Kd.R_reads' HO303.out).2.2 | (with_reducible refine Kd.C_alloc ?_ _) | (with_reducible refine Kd.C_drewN ?_ _) | (with_reducible refine Kd.C_drew ?_))); (case side2 => exact (Kd.R_reads' HO303.out).2.1); (case side3 => repeat (first | exact (Kd.R_reads' HO307.out).2.2 | (with_reducible refine Kd.C_alloc ?_ _) | (with_reducible refine Kd.C_drewN ?_ _) | (with_reducible refine Kd.C_drew ?_))); (case side4 => exact (Kd.R_reads' HO307.out).2.1); rintro e w' ⟨rfl, ⟨nd, rfl⟩⟩))
          go_meet
          case rel => exact ⟨_, (true), (by first | rfl | (simp; done) | (simp [*]; done)), H', ⟨by first | omega | exact Nat.le_refl _⟩, ⟨by (with_reducible repeat (first | apply Kd.R_alloc | apply Kd.R_drewN | apply Kd.R_drew)); exact Kd.R_mono HO303.out (fun _ hk => trivial)⟩, ⟨by repeat (first | (with_reducible first | exact HB.out | apply below_alloc | apply pw_below_drewN | apply below_drew1) | exact HB.out)⟩⟩
    case rest => as_aux_lemma =>
      clear HC9
      try clear c1
      try clear p2
      try clear c3
      try clear c3b0
      try clear c4
      try clear c5
      try clear p6
      try clear c15
      try clear c15b0
      try clear c15b1
      try clear c15b2
      try clear c17
      try clear c18
      try clear c18b0
      try clear c18b1
      try clear c18b2
      obtain ⟨kq, x81_8, rfl, HA, HJ8, HO_6, HB⟩ := hcut
      cases kq with
      | zero => exact absurd HA.out (by simp [laws_FnZeckendorf.j0])
      | succ kj8 =>
        have H := HA.out
        clear HA
        simp only [laws_FnZeckendorf.j0] at H
        by_cases c25 : x81_8 = true
        · subst c25
          have H1 : (some false) = some r := by rw [if_pos rfl] at H; exact H
          clear H
          have H := H1
          clear H1
          obtain rfl := Option.some.inj H
          go_wp2
          go_ret
          exact ⟨by first | rfl | (simp [errW_none, errW_some] <;> rfl) | (simp [*, errW_none, errW_some] <;> rfl), by repeat (first | (with_reducible first | exact HB.out | apply below_alloc | apply pw_below_drewN | apply below_drew1) | exact HB.out)⟩
        · replace c25 := Bool.eq_false_iff.mpr c25
          subst c25
          have H1 : (if t301 = true then (laws_FnZeckendorf.l0 kj8 l1 t299 t300 t308 0 t300 (t300.length : Int) 0) else (laws_FnZeckendorf.j4 kj8 l1)) = some r := by rw [if_neg (show ¬ (false = true) by decide)] at H; exact H
          clear H
          have H := H1
          clear H1
          have HC26 := Aside0.mk H
          clear H
          go_upto_if 82 with (fail)
          go_cut [] (fun wc => ∃ (kq : Nat), Aside0 (laws_FnZeckendorf.j4 kq l1 = some r) ∧ Aside0 (kq ≤ kj8) ∧ Aside0 (Below w.heap.size w wc))
          case first =>
            have H := HC26.out
            clear HC26
            by_cases c27 : t301 = true
            · subst c27
              have H1 : (laws_FnZeckendorf.l0 kj8 l1 t299 t300 t308 0 t300 (t300.length : Int) 0) = some r := by rw [if_pos rfl] at H; exact H
              clear H
              have H := H1
              clear H1
              have H' := Aside0.mk H
              clear H
              obtain ⟨Ao28, co28, eo28⟩ := Kd.R_slice HO_6.out
              subst eo28
              go_wp2
              go_loopg [14, 85] kj8 (fun kq v14 v85 w' => ∃ (x14_2 : Int) (x85_2 : Int), v14 = .int .i64 x14_2 ∧ v85 = .int .i64 x85_2 ∧ Aside0 (laws_FnZeckendorf.l0 kq l1 t299 t300 t308 x14_2 t300 (t300.length : Int) x85_2 = some r) ∧ Aside0 (kq ≤ kj8) ∧ Aside0 (Kd.R (Kd.int .i64) 3 w' w.heap.size (fun _ => True) (.slice Ao28 t300.length co28) t300) ∧ Aside0 (Kd.R (Kd.int .i64) 3 w' w.heap.size (fun _ => True) (.slice Ao28 t300.length co28) t300) ∧ Aside0 (Below w.heap.size w w'))
              case atStart => exact ⟨(0), (0), (by first | rfl | (simp; done) | (simp [*]; done)), (by first | rfl | (simp; done) | (simp [*]; done)), H', ⟨Nat.le_refl _⟩, ⟨by (with_reducible repeat (first | apply Kd.R_alloc | apply Kd.R_drewN | apply Kd.R_drew)); exact HO_6.out⟩, ⟨by (with_reducible repeat (first | apply Kd.R_alloc | apply Kd.R_drewN | apply Kd.R_drew)); exact HO_6.out⟩, ⟨by repeat (first | (with_reducible first | exact HB.out | apply below_alloc | apply pw_below_drewN | apply below_drew1) | exact HB.out)⟩⟩
              case round =>
                clear H'
                try clear c1
                try clear c2
                try clear p2
                try clear c3
                try clear c3b0
                try clear c4
                try clear c5
                try clear p6
                try clear c15
                try clear c15b0
                try clear c15b1
                try clear c15b2
                try clear c17
                try clear c18
                try clear c18b0
                try clear c18b1
                try clear c18b2
                try clear c25
                try clear c27
                try clear p2
                try clear p6
                obtain ⟨x14_2, x85_2, rfl, rfl, HA, HK2, HO_6, HO_83, HB⟩ := hrel
                cases gk with
                | zero => exact absurd HA.out (by simp [laws_FnZeckendorf.l0])
                | succ k2 =>
                  have H := HA.out
                  clear HA
                  simp only [laws_FnZeckendorf.l0] at H
                  by_cases c29 : x85_2 < (t300.length : Int)
                  · rw [if_pos c29] at H
                    have c29b0 : decide (x85_2 < (t300.length : Int)) = true := decide_eq_true c29
                    clear c29
                    (first | rw [c29b0] | (simp only [i64_w, i32_w]; rw [c29b0]) | skip)
                    by_cases c30 : 0 ≤ x85_2
                    · rw [if_pos c30] at H
                      have c30b0 : decide (0 ≤ x85_2) = true := decide_eq_true c30
                      clear c30
                      by_cases c31 : x85_2 < (t300.length : Int)
                      · rw [if_pos c31] at H
                        have c31b0 : decide (x85_2 < (t300.length : Int)) = true := decide_eq_true c31
                        clear c31
                        by_cases c32 : x85_2 > 0
                        · rw [if_pos c32] at H
                          have c32b0 : decide (0 < x85_2) = true := decide_eq_true c32
                          clear c32
                          obtain ⟨ji33, hji33⟩ : ∃ j_ : Int, (wrap64 (x85_2 - 1)) = j_ := ⟨_, rfl⟩
                          replace H : (if 0 ≤ (ji33) then (if (ji33) < (t300.length : Int) then (if (rd t300 x85_2) < (wrap64 (2 * (rd t300 (ji33)))) then (some false) else (laws_FnZeckendorf.l0 k2 l1 t299 t300 t308 (wrap64 (x14_2 + (rd t300 x85_2))) t300 (t300.length : Int) (wrap64 (x85_2 + 1)))) else (none)) else (none)) = some r := by first | (rw [hji33] at H; exact H) | (simp only [hji33] at H ⊢; exact H)
                          have hji33w : (IntKind.i64.wrap (x85_2 - 1)) = ji33 := (i64_w _).trans hji33
                          by_cases c34 : 0 ≤ (ji33)
                          · rw [if_pos c34] at H
                            have c34b0 : decide (0 ≤ (ji33)) = true := decide_eq_true c34
                            clear c34
                            by_cases c35 : (ji33) < (t300.length : Int)
                            · rw [if_pos c35] at H
                              have c35b0 : decide ((ji33) < (t300.length : Int)) = true := decide_eq_true c35
                              clear c35
                              by_cases c36 : (rd t300 x85_2) < (wrap64 (2 * (rd t300 (ji33))))
                              · rw [if_pos c36] at H
                                have c36b0 : decide ((rd t300 x85_2) < (wrap64 (2 * (rd t300 (ji33))))) = true := decide_eq_true c36
                                clear c36
                                obtain rfl := Option.some.inj H
                                have p313 : 0 ≤ (x85_2 : Int) := of_decide_eq_true (by first | (with_reducible assumption) | assumption)
                                have q313 : x85_2 < (t300.length : Int) := of_decide_eq_true (by first | (with_reducible assumption) | assumption)
                                obtain ⟨ad313, e313, hx313_0⟩ := Kd.at_int (Kd.R_reads' HO_83.out).2.2 x85_2 p313 q313
                                cases e313
                                replace p313 := eq_true p313
                                replace q313 := eq_true q313
                                have p314 : 0 ≤ ((ji33) : Int) := of_decide_eq_true (by first | (with_reducible assumption) | assumption)
                                have q314 : (ji33) < (t300.length : Int) := of_decide_eq_true (by first | (with_reducible assumption) | assumption)
                                obtain ⟨ad314, e314, hx314_0⟩ := Kd.at_int (Kd.R_reads' HO_6.out).2.2 (ji33) p314 q314
                                obtain rfl : ad313 = ad314 := (by injection e314)
                                replace p314 := eq_true p314
                                replace q314 := eq_true q314
                                go_wp2
                                go_ret
                                exact ⟨by first | rfl | (simp [errW_none, errW_some] <;> rfl) | (simp only [← hji33]; first | rfl | (simp [errW_none, errW_some] <;> rfl)) | (simp [*, errW_none, errW_some] <;> rfl), by repeat (first | (with_reducible first | exact HB.out | apply below_alloc | apply pw_below_drewN | apply below_drew1) | exact HB.out)⟩
                              · rw [if_neg c36] at H
                                have c36b0 : decide ((rd t300 x85_2) < (wrap64 (2 * (rd t300 (ji33))))) = false := decide_eq_false c36
                                clear c36
                                have H' := Aside0.mk H
                                clear H
                                have p313 : 0 ≤ (x85_2 : Int) := of_decide_eq_true (by first | (with_reducible assumption) | assumption)
                                have q313 : x85_2 < (t300.length : Int) := of_decide_eq_true (by first | (with_reducible assumption) | assumption)
                                obtain ⟨ad313, e313, hx313_0⟩ := Kd.at_int (Kd.R_reads' HO_83.out).2.2 x85_2 p313 q313
                                cases e313
                                replace p313 := eq_true p313
                                replace q313 := eq_true q313
                                have p314 : 0 ≤ ((ji33) : Int) := of_decide_eq_true (by first | (with_reducible assumption) | assumption)
                                have q314 : (ji33) < (t300.length : Int) := of_decide_eq_true (by first | (with_reducible assumption) | assumption)
                                obtain ⟨ad314, e314, hx314_0⟩ := Kd.at_int (Kd.R_reads' HO_6.out).2.2 (ji33) p314 q314
                                obtain rfl : ad313 = ad314 := (by injection e314)
                                replace p314 := eq_true p314
                                replace q314 := eq_true q314
                                go_wp2
                                go_roundg k2
                                case measure => have := HJ8.out; have := HK2.out; omega
                                case rel => exact ⟨(wrap64 (x14_2 + (rd t300 x85_2))), (wrap64 (x85_2 + 1)), (by first | rfl | (simp; done) | (simp [*]; done)), (by first | rfl | (simp; done) | (simp [*]; done)), H', ⟨by have := HJ8.out; have := HK2.out; omega⟩, ⟨by (with_reducible repeat (first | apply Kd.R_alloc | apply Kd.R_drewN | apply Kd.R_drew)); exact HO_6.out⟩, ⟨by (with_reducible repeat (first | apply Kd.R_alloc | apply Kd.R_drewN | apply Kd.R_drew)); exact HO_83.out⟩, ⟨by repeat (first | (with_reducible first | exact HB.out | apply below_alloc | apply pw_below_drewN | apply below_drew1) | exact HB.out)⟩⟩
                            · rw [if_neg c35] at H
                              exact absurd H (by simp)
                          · rw [if_neg c34] at H
                            exact absurd H (by simp)
                        · rw [if_neg c32] at H
                          have c32b0 : decide (0 < x85_2) = false := decide_eq_false c32
                          clear c32
                          have H' := Aside0.mk H
                          clear H
                          have p313 : 0 ≤ (x85_2 : Int) := of_decide_eq_true (by first | (with_reducible assumption) | assumption)
                          have q313 : x85_2 < (t300.length : Int) := of_decide_eq_true (by first | (with_reducible assumption) | assumption)
                          obtain ⟨ad313, e313, hx313_0⟩ := Kd.at_int (Kd.R_reads' HO_83.out).2.2 x85_2 p313 q313
                          cases e313
                          replace p313 := eq_true p313
                          replace q313 := eq_true q313
                          go_wp2
                          go_roundg k2
                          case measure => have := HJ8.out; have := HK2.out; omega
                          case rel => exact ⟨(wrap64 (x14_2 + (rd t300 x85_2))), (wrap64 (x85_2 + 1)), (by first | rfl | (simp; done) | (simp [*]; done)), (by first | rfl | (simp; done) | (simp [*]; done)), H', ⟨by have := HJ8.out; have := HK2.out; omega⟩, ⟨by (with_reducible repeat (first | apply Kd.R_alloc | apply Kd.R_drewN | apply Kd.R_drew)); exact HO_6.out⟩, ⟨by (with_reducible repeat (first | apply Kd.R_alloc | apply Kd.R_drewN | apply Kd.R_drew)); exact HO_83.out⟩, ⟨by repeat (first | (with_reducible first | exact HB.out | apply below_alloc | apply pw_below_drewN | apply below_drew1) | exact HB.out)⟩⟩
                      · rw [if_neg c31] at H
                        exact absurd H (by simp)
                    · rw [if_neg c30] at H
                      exact absurd H (by simp)
                  · rw [if_neg c29] at H
                    have c29b0 : decide (x85_2 < (t300.length : Int)) = false := decide_eq_false c29
                    clear c29
                    (first | rw [c29b0] | (simp only [i64_w, i32_w]; rw [c29b0]) | skip)
                    by_cases c37 : t308.size + 3 ≤ 9223372036854775807
                    · rw [if_pos c37] at H
                      have c37b0 := eq_true c37
                      have c37b1 : decide (t308.size + 3 ≤ 9223372036854775807) = true := decide_eq_true c37
                      try have c37b2 : (9223372036854775807 < t308.size + 3) = False := eq_false (Nat.not_lt.2 c37)
                      replace H := Option.bind_eq_some_iff.mp H
                      obtain ⟨⟨t315, t316, t317⟩, A380, H⟩ := H
                      replace H : (if x14_2 = t299 then (if t317 = true then (if t315 = t299 then (if t316 = (t308.size : Int) then (if (t308.size : Int) < 2 then (laws_FnZeckendorf.j2 k2 l1 t308 true) else (if 0 ≤ (wrap64 ((t308.size : Int) - 2)) then (if (wrap64 ((t308.size : Int) - 2)) ≤ (t308.size : Int) then (laws_FnZeckendorf.j2 k2 l1 t308 ((t308.extract ((wrap64 ((t308.size : Int) - 2)) : Int).toNat t308.size).toList != ([49, 49] : List UInt8))) else (none)) else (none))) else (laws_FnZeckendorf.j2 k2 l1 t308 true)) else (laws_FnZeckendorf.j2 k2 l1 t308 true)) else (laws_FnZeckendorf.j2 k2 l1 t308 true)) else (laws_FnZeckendorf.j2 k2 l1 t308 true)) = some r := H
                      have A38 := Aside0.mk A380
                      clear A380
                      have HC39 := Aside0.mk H
                      clear H
                      go_upto_region 20 with (first | ((with_reducible refine gate_callee (f := 42) rfl ?_); refine goesL_ (some 109) rfl rfl Try.func42 (by kernel_rfl) rfl #[.string (t308 ++ (⟨#[48, 49, 49]⟩ : ByteArray))] rfl (by (try simp only [List.map_toArray, List.map_cons, List.map_nil]); first | done | rfl | (simp only [List.length_drop, List.length_take]; rfl)) ?_; (with_reducible refine (impl_TakeFibonacci.calls k2 (t308 ++ (⟨#[48, 49, 49]⟩ : ByteArray)) t315 t316 t317 _ (HG.out.here (by repeat (first | (with_reducible first | exact HB.out | apply below_alloc | apply pw_below_drewN | apply below_drew1) | exact HB.out))) A38.out).mono ?_); rintro e w40 ⟨rfl, hb⟩; refine ⟨_, rfl, ?_⟩; have n0_ := Aside0.mk (Kd.R_below (by (with_reducible repeat (first | apply Kd.R_alloc | apply Kd.R_drewN | apply Kd.R_drew)); exact HO_6.out) hb); have n1_ := Aside0.mk (Kd.R_below (by (with_reducible repeat (first | apply Kd.R_alloc | apply Kd.R_drewN | apply Kd.R_drew)); exact HO_83.out) hb); have n2_ := Aside0.mk (below_step (by repeat (first | (with_reducible first | exact HB.out | apply below_alloc | apply pw_below_drewN | apply below_drew1) | exact HB.out)) hb); clear HO_6; clear HO_83; clear HB; have HO_6 := n0_; have HO_83 := n1_; have HB := n2_; clear n0_ n1_ n2_; (try clear hb); (try clear hb2); (try clear hk); (try clear hi)))
                      (try simp only [Act.put, List.setIfInBounds_toArray, List.set_cons_zero, List.set_cons_succ])
                      go_cut [143] (fun v143 wc => ∃ (kq : Nat) (x143_38 : Bool), v143 = .bool x143_38 ∧ Aside0 (laws_FnZeckendorf.j2 kq l1 t308 x143_38 = some r) ∧ Aside0 (kq ≤ k2) ∧ Aside0 (Below w.heap.size w wc))
                      case first =>
                        have H := HC39.out
                        clear HC39
                        by_cases c41 : x14_2 = t299
                        · rw [if_pos c41] at H
                          have c41b0 : (x14_2 == t299) = true := beq_iff_eq.mpr c41
                          have c41b1 : (x14_2 != t299) = false := bne_eq_false_iff_eq.mpr c41
                          clear c41
                          (first | rw [c41b0] | (simp only [i64_w, i32_w]; rw [c41b0]) | skip)
                          by_cases c42 : t317 = true
                          · subst c42
                            have H1 : (if t315 = t299 then (if t316 = (t308.size : Int) then (if (t308.size : Int) < 2 then (laws_FnZeckendorf.j2 k2 l1 t308 true) else (if 0 ≤ (wrap64 ((t308.size : Int) - 2)) then (if (wrap64 ((t308.size : Int) - 2)) ≤ (t308.size : Int) then (laws_FnZeckendorf.j2 k2 l1 t308 ((t308.extract ((wrap64 ((t308.size : Int) - 2)) : Int).toNat t308.size).toList != ([49, 49] : List UInt8))) else (none)) else (none))) else (laws_FnZeckendorf.j2 k2 l1 t308 true)) else (laws_FnZeckendorf.j2 k2 l1 t308 true)) = some r := by rw [if_pos rfl] at H; exact H
                            clear H
                            have H := H1
                            clear H1
                            by_cases c43 : t315 = t299
                            · rw [if_pos c43] at H
                              have c43b0 : (t315 == t299) = true := beq_iff_eq.mpr c43
                              have c43b1 : (t315 != t299) = false := bne_eq_false_iff_eq.mpr c43
                              clear c43
                              by_cases c44 : t316 = (t308.size : Int)
                              · rw [if_pos c44] at H
                                have c44b0 : (t316 == (t308.size : Int)) = true := beq_iff_eq.mpr c44
                                have c44b1 : (t316 != (t308.size : Int)) = false := bne_eq_false_iff_eq.mpr c44
                                clear c44
                                by_cases c45 : (t308.size : Int) < 2
                                · rw [if_pos c45] at H
                                  have c45b0 : decide ((t308.size : Int) < 2) = true := decide_eq_true c45
                                  have c45b1 : decide (t308.size < 2) = true := decide_eq_true (by omega)
                                  clear c45
                                  have H' := Aside0.mk H
                                  clear H
                                  go_wp2
                                  go_meet
                                  case rel => exact ⟨_, (true), (by first | rfl | (simp; done) | (simp [*]; done)), H', ⟨by have := HJ8.out; have := HK2.out; first | omega | exact Nat.le_refl _⟩, ⟨by repeat (first | (with_reducible first | exact HB.out | apply below_alloc | apply pw_below_drewN | apply below_drew1) | exact HB.out)⟩⟩
                                · rw [if_neg c45] at H
                                  have c45b0 : decide ((t308.size : Int) < 2) = false := decide_eq_false c45
                                  have c45b1 : decide (t308.size < 2) = false := decide_eq_false (by omega)
                                  clear c45
                                  obtain ⟨ji46, hji46⟩ : ∃ j_ : Int, (wrap64 ((t308.size : Int) - 2)) = j_ := ⟨_, rfl⟩
                                  replace H : (if 0 ≤ (ji46) then (if (ji46) ≤ (t308.size : Int) then (laws_FnZeckendorf.j2 k2 l1 t308 ((t308.extract ((ji46) : Int).toNat t308.size).toList != ([49, 49] : List UInt8))) else (none)) else (none)) = some r := by first | (rw [hji46] at H; exact H) | (simp only [hji46] at H ⊢; exact H)
                                  have hji46w : (IntKind.i64.wrap ((t308.size : Int) - 2)) = ji46 := (i64_w _).trans hji46
                                  by_cases c47 : 0 ≤ (ji46)
                                  · rw [if_pos c47] at H
                                    have c47b0 := eq_true c47
                                    have c47b1 : decide (0 ≤ (ji46)) = true := decide_eq_true c47
                                    clear c47
                                    by_cases c48 : (ji46) ≤ (t308.size : Int)
                                    · rw [if_pos c48] at H
                                      have c48b0 := eq_true c48
                                      have c48b1 : decide ((ji46) ≤ (t308.size : Int)) = true := decide_eq_true c48
                                      clear c48
                                      have H' := Aside0.mk H
                                      clear H
                                      go_wp2
                                      go_meet
                                      case rel => exact ⟨_, (((t308.extract ((ji46) : Int).toNat t308.size).toList != ([49, 49] : List UInt8))), (by first | rfl | (simp; done) | (simp only [← hji46] <;> (first | rfl | simp)) | (simp [*]; done)), H', ⟨by have := HJ8.out; have := HK2.out; first | omega | exact Nat.le_refl _⟩, ⟨by repeat (first | (with_reducible first | exact HB.out | apply below_alloc | apply pw_below_drewN | apply below_drew1) | exact HB.out)⟩⟩
                                    · rw [if_neg c48] at H
                                      exact absurd H (by simp)
                                  · rw [if_neg c47] at H
                                    exact absurd H (by simp)
                              · rw [if_neg c44] at H
                                have c44b0 : (t316 == (t308.size : Int)) = false := beq_eq_false_iff_ne.mpr c44
                                have c44b1 : (t316 != (t308.size : Int)) = true := bne_iff_ne.mpr c44
                                have H' := Aside0.mk H
                                clear H
                                go_wp2
                                go_meet
                                case rel => exact ⟨_, (true), (by first | rfl | (simp; done) | (simp [*]; done)), H', ⟨by have := HJ8.out; have := HK2.out; first | omega | exact Nat.le_refl _⟩, ⟨by repeat (first | (with_reducible first | exact HB.out | apply below_alloc | apply pw_below_drewN | apply below_drew1) | exact HB.out)⟩⟩
                            · rw [if_neg c43] at H
                              have c43b0 : (t315 == t299) = false := beq_eq_false_iff_ne.mpr c43
                              have c43b1 : (t315 != t299) = true := bne_iff_ne.mpr c43
                              have H' := Aside0.mk H
                              clear H
                              go_wp2
                              go_meet
                              case rel => exact ⟨_, (true), (by first | rfl | (simp; done) | (simp [*]; done)), H', ⟨by have := HJ8.out; have := HK2.out; first | omega | exact Nat.le_refl _⟩, ⟨by repeat (first | (with_reducible first | exact HB.out | apply below_alloc | apply pw_below_drewN | apply below_drew1) | exact HB.out)⟩⟩
                          · replace c42 := Bool.eq_false_iff.mpr c42
                            subst c42
                            have H1 : (laws_FnZeckendorf.j2 k2 l1 t308 true) = some r := by rw [if_neg (show ¬ (false = true) by decide)] at H; exact H
                            clear H
                            have H := H1
                            clear H1
                            have H' := Aside0.mk H
                            clear H
                            go_wp2
                            go_meet
                            case rel => exact ⟨_, (true), (by first | rfl | (simp; done) | (simp [*]; done)), H', ⟨by have := HJ8.out; have := HK2.out; first | omega | exact Nat.le_refl _⟩, ⟨by repeat (first | (with_reducible first | exact HB.out | apply below_alloc | apply pw_below_drewN | apply below_drew1) | exact HB.out)⟩⟩
                        · rw [if_neg c41] at H
                          have c41b0 : (x14_2 == t299) = false := beq_eq_false_iff_ne.mpr c41
                          have c41b1 : (x14_2 != t299) = true := bne_iff_ne.mpr c41
                          (first | rw [c41b0] | (simp only [i64_w, i32_w]; rw [c41b0]) | skip)
                          have H' := Aside0.mk H
                          clear H
                          go_wp2
                          go_meet
                          case rel => exact ⟨_, (true), (by first | rfl | (simp; done) | (simp [*]; done)), H', ⟨by have := HJ8.out; have := HK2.out; first | omega | exact Nat.le_refl _⟩, ⟨by repeat (first | (with_reducible first | exact HB.out | apply below_alloc | apply pw_below_drewN | apply below_drew1) | exact HB.out)⟩⟩
                      case rest => as_aux_lemma =>
                        clear HC39
                        try clear c1
                        try clear c2
                        try clear p2
                        try clear c3
                        try clear c3b0
                        try clear p3
                        try clear q3
                        try clear hx3
                        try clear c4
                        try clear c5
                        try clear p6
                        try clear c15
                        try clear c15b0
                        try clear c15b1
                        try clear c15b2
                        try clear c17
                        try clear c18
                        try clear c18b0
                        try clear c18b1
                        try clear c18b2
                        try clear c25
                        try clear c27
                        try clear c29
                        try clear c29b0
                        try clear c30
                        try clear c30b0
                        try clear c31
                        try clear c31b0
                        try clear p31
                        try clear q31
                        try clear hx31
                        try clear c32
                        try clear c32b0
                        try clear c34
                        try clear c34b0
                        try clear c35
                        try clear c35b0
                        try clear c36
                        try clear c36b0
                        try clear c37
                        try clear c37b0
                        try clear c37b1
                        try clear c37b2
                        try clear c38
                        try clear c39
                        try clear c40
                        try clear c41
                        try clear c41b0
                        try clear c41b1
                        try clear c42
                        try clear c43
                        try clear c43b0
                        try clear c43b1
                        try clear c44
                        try clear c44b0
                        try clear c44b1
                        try clear c45
                        try clear c45b0
                        try clear c45b1
                        try clear c47
                        try clear c47b0
                        try clear c47b1
                        try clear c48
                        try clear c48b0
                        try clear c48b1
                        try clear hx313_0
                        try clear hx314_0
                        try clear p2
                        try clear p313
                        try clear p314
                        try clear p6
                        try clear q313
                        try clear q314
                        obtain ⟨kq, x143_38, rfl, HA, HJ38, HB⟩ := hcut
                        cases kq with
                        | zero => exact absurd HA.out (by simp [laws_FnZeckendorf.j2])
                        | succ kj38 =>
                          have H := HA.out
                          clear HA
                          simp only [laws_FnZeckendorf.j2] at H
                          by_cases c49 : x143_38 = true
                          · subst c49
                            have H1 : (some false) = some r := by rw [if_pos rfl] at H; exact H
                            clear H
                            have H := H1
                            clear H1
                            obtain rfl := Option.some.inj H
                            go_wp2
                            go_ret
                            exact ⟨by first | rfl | (simp [errW_none, errW_some] <;> rfl) | (simp [*, errW_none, errW_some] <;> rfl), by repeat (first | (with_reducible first | exact HB.out | apply below_alloc | apply pw_below_drewN | apply below_drew1) | exact HB.out)⟩
                          · replace c49 := Bool.eq_false_iff.mpr c49
                            subst c49
                            have H1 : (laws_FnZeckendorf.l1 kj38 l1 t308 0) = some r := by rw [if_neg (show ¬ (false = true) by decide)] at H; exact H
                            clear H
                            have H := H1
                            clear H1
                            have H' := Aside0.mk H
                            clear H
                            go_wp2
                            go_loopg [20] kj38 (fun kq v20 w' => ∃ (x20_4 : Int), v20 = .int .i64 x20_4 ∧ Aside0 (laws_FnZeckendorf.l1 kq l1 t308 x20_4 = some r) ∧ Aside0 (kq ≤ kj38) ∧ Aside0 (Below w.heap.size w w'))
                            case atStart => exact ⟨(0), (by first | rfl | (simp; done) | (simp [*]; done)), H', ⟨Nat.le_refl _⟩, ⟨by repeat (first | (with_reducible first | exact HB.out | apply below_alloc | apply pw_below_drewN | apply below_drew1) | exact HB.out)⟩⟩
                            case round =>
                              clear H'
                              try clear c1
                              try clear c2
                              try clear p2
                              try clear c3
                              try clear c3b0
                              try clear p3
                              try clear q3
                              try clear hx3
                              try clear c4
                              try clear c5
                              try clear p6
                              try clear c15
                              try clear c15b0
                              try clear c15b1
                              try clear c15b2
                              try clear c17
                              try clear c18
                              try clear c18b0
                              try clear c18b1
                              try clear c18b2
                              try clear c25
                              try clear c27
                              try clear c29
                              try clear c29b0
                              try clear c30
                              try clear c30b0
                              try clear c31
                              try clear c31b0
                              try clear p31
                              try clear q31
                              try clear hx31
                              try clear c32
                              try clear c32b0
                              try clear c34
                              try clear c34b0
                              try clear c35
                              try clear c35b0
                              try clear c36
                              try clear c36b0
                              try clear c37
                              try clear c37b0
                              try clear c37b1
                              try clear c37b2
                              try clear c38
                              try clear c39
                              try clear c40
                              try clear c41
                              try clear c41b0
                              try clear c41b1
                              try clear c42
                              try clear c43
                              try clear c43b0
                              try clear c43b1
                              try clear c44
                              try clear c44b0
                              try clear c44b1
                              try clear c45
                              try clear c45b0
                              try clear c45b1
                              try clear c47
                              try clear c47b0
                              try clear c47b1
                              try clear c48
                              try clear c48b0
                              try clear c48b1
                              try clear c49
                              try clear hx313_0
                              try clear hx314_0
                              try clear p2
                              try clear p3
                              try clear p31
                              try clear p313
                              try clear p314
                              try clear p6
                              try clear q3
                              try clear q31
                              try clear q313
                              try clear q314
                              obtain ⟨x20_4, rfl, HA, HK4, HB⟩ := hrel
                              cases gk with
                              | zero => exact absurd HA.out (by simp [laws_FnZeckendorf.l1])
                              | succ k4 =>
                                have H := HA.out
                                clear HA
                                simp only [laws_FnZeckendorf.l1] at H
                                by_cases c50 : (wrap64 (x20_4 + 2)) < (t308.size : Int)
                                · rw [if_pos c50] at H
                                  have c50b0 : decide ((wrap64 (x20_4 + 2)) < (t308.size : Int)) = true := decide_eq_true c50
                                  clear c50
                                  by_cases c51 : 0 ≤ x20_4
                                  · rw [if_pos c51] at H
                                    have c51b0 : decide (0 ≤ x20_4) = true := decide_eq_true c51
                                    clear c51
                                    by_cases c52 : x20_4 < (t308.size : Int)
                                    · rw [if_pos c52] at H
                                      have c52b0 : decide (x20_4 < (t308.size : Int)) = true := decide_eq_true c52
                                      clear c52
                                      by_cases c54 : (bt t308 x20_4) = 49
                                      · rw [if_pos c54] at H
                                        have c54b0 : ((bt t308 x20_4) == 49) = true := beq_iff_eq.mpr c54
                                        have c54b1 : ((bt t308 x20_4) != 49) = false := bne_eq_false_iff_eq.mpr c54
                                        clear c54
                                        obtain ⟨ji55, hji55⟩ : ∃ j_ : Int, (wrap64 (x20_4 + 1)) = j_ := ⟨_, rfl⟩
                                        replace H : (if 0 ≤ (ji55) then (if (ji55) < (t308.size : Int) then (if (bt t308 (ji55)) = 49 then (some false) else (laws_FnZeckendorf.l1 k4 l1 t308 ji55)) else (none)) else (none)) = some r := by first | (rw [hji55] at H; exact H) | (simp only [hji55] at H ⊢; exact H)
                                        have hji55w : (IntKind.i64.wrap (x20_4 + 1)) = ji55 := (i64_w _).trans hji55
                                        by_cases c56 : 0 ≤ (ji55)
                                        · rw [if_pos c56] at H
                                          have c56b0 : decide (0 ≤ (ji55)) = true := decide_eq_true c56
                                          clear c56
                                          by_cases c57 : (ji55) < (t308.size : Int)
                                          · rw [if_pos c57] at H
                                            have c57b0 : decide ((ji55) < (t308.size : Int)) = true := decide_eq_true c57
                                            clear c57
                                            by_cases c59 : (bt t308 (ji55)) = 49
                                            · rw [if_pos c59] at H
                                              have c59b0 : ((bt t308 (ji55)) == 49) = true := beq_iff_eq.mpr c59
                                              have c59b1 : ((bt t308 (ji55)) != 49) = false := bne_eq_false_iff_eq.mpr c59
                                              clear c59
                                              obtain rfl := Option.some.inj H
                                              have p53 : 0 ≤ (x20_4 : Int) := of_decide_eq_true (by first | (with_reducible assumption) | assumption)
                                              have q53 : x20_4 < (t308.size : Int) := of_decide_eq_true (by first | (with_reducible assumption) | assumption)
                                              have hx53 := bt_at t308 x20_4
                                              replace p53 := eq_true p53
                                              replace q53 := eq_true q53
                                              have p58 : 0 ≤ ((ji55) : Int) := of_decide_eq_true (by first | (with_reducible assumption) | assumption)
                                              have q58 : (ji55) < (t308.size : Int) := of_decide_eq_true (by first | (with_reducible assumption) | assumption)
                                              have hx58 := bt_at t308 (ji55)
                                              replace p58 := eq_true p58
                                              replace q58 := eq_true q58
                                              go_wp2
                                              go_ret
                                              exact ⟨by first | rfl | (simp [errW_none, errW_some] <;> rfl) | (simp only [← hji55]; first | rfl | (simp [errW_none, errW_some] <;> rfl)) | (simp [*, errW_none, errW_some] <;> rfl), by repeat (first | (with_reducible first | exact HB.out | apply below_alloc | apply pw_below_drewN | apply below_drew1) | exact HB.out)⟩
                                            · rw [if_neg c59] at H
                                              have c59b0 : ((bt t308 (ji55)) == 49) = false := beq_eq_false_iff_ne.mpr c59
                                              have c59b1 : ((bt t308 (ji55)) != 49) = true := bne_iff_ne.mpr c59
                                              have H' := Aside0.mk H
                                              clear H
                                              have p53 : 0 ≤ (x20_4 : Int) := of_decide_eq_true (by first | (with_reducible assumption) | assumption)
                                              have q53 : x20_4 < (t308.size : Int) := of_decide_eq_true (by first | (with_reducible assumption) | assumption)
                                              have hx53 := bt_at t308 x20_4
                                              replace p53 := eq_true p53
                                              replace q53 := eq_true q53
                                              have p58 : 0 ≤ ((ji55) : Int) := of_decide_eq_true (by first | (with_reducible assumption) | assumption)
                                              have q58 : (ji55) < (t308.size : Int) := of_decide_eq_true (by first | (with_reducible assumption) | assumption)
                                              have hx58 := bt_at t308 (ji55)
                                              replace p58 := eq_true p58
                                              replace q58 := eq_true q58
                                              go_wp2
                                              go_roundg k4
                                              case measure => have := HJ8.out; have := HK2.out; have := HJ38.out; have := HK4.out; omega
                                              case rel => exact ⟨(ji55), (by first | rfl | (simp; done) | (simp only [← hji55] <;> (first | rfl | simp)) | (simp [*]; done)), H', ⟨by have := HJ8.out; have := HK2.out; have := HJ38.out; have := HK4.out; omega⟩, ⟨by repeat (first | (with_reducible first | exact HB.out | apply below_alloc | apply pw_below_drewN | apply below_drew1) | exact HB.out)⟩⟩
                                          · rw [if_neg c57] at H
                                            exact absurd H (by simp)
                                        · rw [if_neg c56] at H
                                          exact absurd H (by simp)
                                      · rw [if_neg c54] at H
                                        have c54b0 : ((bt t308 x20_4) == 49) = false := beq_eq_false_iff_ne.mpr c54
                                        have c54b1 : ((bt t308 x20_4) != 49) = true := bne_iff_ne.mpr c54
                                        have H' := Aside0.mk H
                                        clear H
                                        have p53 : 0 ≤ (x20_4 : Int) := of_decide_eq_true (by first | (with_reducible assumption) | assumption)
                                        have q53 : x20_4 < (t308.size : Int) := of_decide_eq_true (by first | (with_reducible assumption) | assumption)
                                        have hx53 := bt_at t308 x20_4
                                        replace p53 := eq_true p53
                                        replace q53 := eq_true q53
                                        go_wp2
                                        go_roundg k4
                                        case measure => have := HJ8.out; have := HK2.out; have := HJ38.out; have := HK4.out; omega
                                        case rel => exact ⟨(wrap64 (x20_4 + 1)), (by first | rfl | (simp; done) | (simp [*]; done)), H', ⟨by have := HJ8.out; have := HK2.out; have := HJ38.out; have := HK4.out; omega⟩, ⟨by repeat (first | (with_reducible first | exact HB.out | apply below_alloc | apply pw_below_drewN | apply below_drew1) | exact HB.out)⟩⟩
                                    · rw [if_neg c52] at H
                                      exact absurd H (by simp)
                                  · rw [if_neg c51] at H
                                    exact absurd H (by simp)
                                · rw [if_neg c50] at H
                                  have c50b0 : decide ((wrap64 (x20_4 + 2)) < (t308.size : Int)) = false := decide_eq_false c50
                                  clear c50
                                  have H' := Aside0.mk H
                                  clear H
                                  go_wp2
                                  go_meet
                                  case rel => exact ⟨_, H', ⟨by have := HJ8.out; have := HK2.out; have := HJ38.out; have := HK4.out; first | omega | exact Nat.le_refl _⟩, ⟨by repeat (first | (with_reducible first | exact HB.out | apply below_alloc | apply pw_below_drewN | apply below_drew1) | exact HB.out)⟩⟩
                    · rw [if_neg c37] at H
                      exact absurd H (by simp)
            · replace c27 := Bool.eq_false_iff.mpr c27
              subst c27
              have H1 : (laws_FnZeckendorf.j4 kj8 l1) = some r := by rw [if_neg (show ¬ (false = true) by decide)] at H; exact H
              clear H
              have H := H1
              clear H1
              have H' := Aside0.mk H
              clear H
              go_wp2
              go_meet
              case rel => exact ⟨_, H', ⟨by have := HJ8.out; first | omega | exact Nat.le_refl _⟩, ⟨by repeat (first | (with_reducible first | exact HB.out | apply below_alloc | apply pw_below_drewN | apply below_drew1) | exact HB.out)⟩⟩
          case rest => as_aux_lemma =>
            clear HC26
            try clear c1
            try clear c2
            try clear p2
            try clear c3
            try clear c3b0
            try clear p3
            try clear q3
            try clear hx3
            try clear c4
            try clear c5
            try clear p5
            try clear q5
            try clear hx5
            try clear p6
            try clear c15
            try clear c15b0
            try clear c15b1
            try clear c15b2
            try clear c17
            try clear c18
            try clear c18b0
            try clear c18b1
            try clear c18b2
            try clear c25
            try clear c27
            try clear c29
            try clear c29b0
            try clear c30
            try clear c30b0
            try clear c31
            try clear c31b0
            try clear p31
            try clear q31
            try clear hx31
            try clear c32
            try clear c32b0
            try clear c34
            try clear c34b0
            try clear c35
            try clear c35b0
            try clear c36
            try clear c36b0
            try clear c37
            try clear c37b0
            try clear c37b1
            try clear c37b2
            try clear c38
            try clear c39
            try clear c40
            try clear c41
            try clear c41b0
            try clear c41b1
            try clear c42
            try clear c43
            try clear c43b0
            try clear c43b1
            try clear c44
            try clear c44b0
            try clear c44b1
            try clear c45
            try clear c45b0
            try clear c45b1
            try clear c47
            try clear c47b0
            try clear c47b1
            try clear c48
            try clear c48b0
            try clear c48b1
            try clear c49
            try clear c50
            try clear c50b0
            try clear c51
            try clear c51b0
            try clear c52
            try clear c52b0
            try clear p53
            try clear q53
            try clear hx53
            try clear c54
            try clear c54b0
            try clear c54b1
            try clear c56
            try clear c56b0
            try clear c57
            try clear c57b0
            try clear p58
            try clear q58
            try clear hx58
            try clear c59
            try clear c59b0
            try clear c59b1
            try clear hx313_0
            try clear hx314_0
            try clear p2
            try clear p3
            try clear p31
            try clear p313
            try clear p314
            try clear p53
            try clear p58
            try clear p6
            try clear q3
            try clear q31
            try clear q313
            try clear q314
            try clear q53
            try clear q58
            obtain ⟨kq, HA, HJ25, HB⟩ := hcut
            cases kq with
            | zero => exact absurd HA.out (by simp [laws_FnZeckendorf.j4])
            | succ kj25 =>
              have H := HA.out
              clear HA
              simp only [laws_FnZeckendorf.j4] at H
              have H' := Aside0.mk H
              clear H
              go_wp2
              go_loopg [21, 22] kj25 (fun kq v21 v22 w' => ∃ (x21_3 : ByteArray) (x22_3 : Int), v21 = .string x21_3 ∧ v22 = .int .i64 x22_3 ∧ Aside0 (laws_FnZeckendorf.l2 kq l1 x21_3 x22_3 = some r) ∧ Aside0 (kq ≤ kj25) ∧ Aside0 (Below w.heap.size w w'))
              case atStart => exact ⟨((⟨#[]⟩ : ByteArray)), (0), (by first | rfl | (simp; done) | (simp [*]; done)), (by first | rfl | (simp; done) | (simp [*]; done)), H', ⟨Nat.le_refl _⟩, ⟨by repeat (first | (with_reducible first | exact HB.out | apply below_alloc | apply pw_below_drewN | apply below_drew1) | exact HB.out)⟩⟩
              case round =>
                clear H'
                try clear c1
                try clear c2
                try clear p2
                try clear c3
                try clear c3b0
                try clear p3
                try clear q3
                try clear hx3
                try clear c4
                try clear c5
                try clear p5
                try clear q5
                try clear hx5
                try clear p6
                try clear c15
                try clear c15b0
                try clear c15b1
                try clear c15b2
                try clear c17
                try clear c18
                try clear c18b0
                try clear c18b1
                try clear c18b2
                try clear c25
                try clear c27
                try clear c29
                try clear c29b0
                try clear c30
                try clear c30b0
                try clear c31
                try clear c31b0
                try clear p31
                try clear q31
                try clear hx31
                try clear c32
                try clear c32b0
                try clear c34
                try clear c34b0
                try clear c35
                try clear c35b0
                try clear c36
                try clear c36b0
                try clear c37
                try clear c37b0
                try clear c37b1
                try clear c37b2
                try clear c38
                try clear c39
                try clear c40
                try clear c41
                try clear c41b0
                try clear c41b1
                try clear c42
                try clear c43
                try clear c43b0
                try clear c43b1
                try clear c44
                try clear c44b0
                try clear c44b1
                try clear c45
                try clear c45b0
                try clear c45b1
                try clear c47
                try clear c47b0
                try clear c47b1
                try clear c48
                try clear c48b0
                try clear c48b1
                try clear c49
                try clear c50
                try clear c50b0
                try clear c51
                try clear c51b0
                try clear c52
                try clear c52b0
                try clear p53
                try clear q53
                try clear hx53
                try clear c54
                try clear c54b0
                try clear c54b1
                try clear c56
                try clear c56b0
                try clear c57
                try clear c57b0
                try clear p58
                try clear q58
                try clear hx58
                try clear c59
                try clear c59b0
                try clear c59b1
                try clear hx313_0
                try clear hx314_0
                try clear p2
                try clear p3
                try clear p31
                try clear p313
                try clear p314
                try clear p5
                try clear p53
                try clear p58
                try clear p6
                try clear q3
                try clear q31
                try clear q313
                try clear q314
                try clear q5
                try clear q53
                try clear q58
                obtain ⟨x21_3, x22_3, rfl, rfl, HA, HK3, HB⟩ := hrel
                cases gk with
                | zero => exact absurd HA.out (by simp [laws_FnZeckendorf.l2])
                | succ k3 =>
                  have H := HA.out
                  clear HA
                  simp only [laws_FnZeckendorf.l2] at H
                  have HC60 := Aside0.mk H
                  clear H
                  go_upto_region 29 with (fail)
                  go_cut [169] (fun v169 wc => ∃ (kq : Nat) (x169_59 : Bool), v169 = .bool x169_59 ∧ Aside0 (laws_FnZeckendorf.j6 kq l1 x21_3 x22_3 x169_59 = some r) ∧ Aside0 (kq ≤ k3) ∧ Aside0 (Below w.heap.size w wc))
                  case first =>
                    have H := HC60.out
                    clear HC60
                    by_cases c61 : x22_3 < (l1.length : Int)
                    · rw [if_pos c61] at H
                      have c61b0 : decide (x22_3 < (l1.length : Int)) = true := decide_eq_true c61
                      clear c61
                      (first | rw [c61b0] | (simp only [i64_w, i32_w]; rw [c61b0]) | skip)
                      have H' := Aside0.mk H
                      clear H
                      go_wp2
                      go_meet
                      case rel => exact ⟨_, (decide (x22_3 < 14)), (by first | rfl | (simp; done) | (simp [*]; done)), H', ⟨by have := HJ8.out; have := HJ25.out; have := HK3.out; first | omega | exact Nat.le_refl _⟩, ⟨by repeat (first | (with_reducible first | exact HB.out | apply below_alloc | apply pw_below_drewN | apply below_drew1) | exact HB.out)⟩⟩
                    · rw [if_neg c61] at H
                      have c61b0 : decide (x22_3 < (l1.length : Int)) = false := decide_eq_false c61
                      clear c61
                      (first | rw [c61b0] | (simp only [i64_w, i32_w]; rw [c61b0]) | skip)
                      have H' := Aside0.mk H
                      clear H
                      go_wp2
                      go_meet
                      case rel => exact ⟨_, (false), (by first | rfl | (simp; done) | (simp [*]; done)), H', ⟨by have := HJ8.out; have := HJ25.out; have := HK3.out; first | omega | exact Nat.le_refl _⟩, ⟨by repeat (first | (with_reducible first | exact HB.out | apply below_alloc | apply pw_below_drewN | apply below_drew1) | exact HB.out)⟩⟩
                  case rest => as_aux_lemma =>
                    clear HC60
                    try clear c1
                    try clear c2
                    try clear p2
                    try clear c3
                    try clear c3b0
                    try clear p3
                    try clear q3
                    try clear hx3
                    try clear c4
                    try clear c5
                    try clear p5
                    try clear q5
                    try clear hx5
                    try clear c6
                    try clear p6
                    try clear c15
                    try clear c15b0
                    try clear c15b1
                    try clear c15b2
                    try clear c17
                    try clear c18
                    try clear c18b0
                    try clear c18b1
                    try clear c18b2
                    try clear c25
                    try clear c27
                    try clear c29
                    try clear c29b0
                    try clear c30
                    try clear c30b0
                    try clear c31
                    try clear c31b0
                    try clear p31
                    try clear q31
                    try clear hx31
                    try clear c32
                    try clear c32b0
                    try clear c34
                    try clear c34b0
                    try clear c35
                    try clear c35b0
                    try clear c36
                    try clear c36b0
                    try clear c37
                    try clear c37b0
                    try clear c37b1
                    try clear c37b2
                    try clear c38
                    try clear c39
                    try clear c40
                    try clear c41
                    try clear c41b0
                    try clear c41b1
                    try clear c42
                    try clear c43
                    try clear c43b0
                    try clear c43b1
                    try clear c44
                    try clear c44b0
                    try clear c44b1
                    try clear c45
                    try clear c45b0
                    try clear c45b1
                    try clear c47
                    try clear c47b0
                    try clear c47b1
                    try clear c48
                    try clear c48b0
                    try clear c48b1
                    try clear c49
                    try clear c50
                    try clear c50b0
                    try clear c51
                    try clear c51b0
                    try clear c52
                    try clear c52b0
                    try clear p53
                    try clear q53
                    try clear hx53
                    try clear c54
                    try clear c54b0
                    try clear c54b1
                    try clear c56
                    try clear c56b0
                    try clear c57
                    try clear c57b0
                    try clear p58
                    try clear q58
                    try clear hx58
                    try clear c59
                    try clear c59b0
                    try clear c59b1
                    try clear c61
                    try clear c61b0
                    try clear hx313_0
                    try clear hx314_0
                    try clear p2
                    try clear p3
                    try clear p31
                    try clear p313
                    try clear p314
                    try clear p5
                    try clear p53
                    try clear p58
                    try clear p6
                    try clear q3
                    try clear q31
                    try clear q313
                    try clear q314
                    try clear q5
                    try clear q53
                    try clear q58
                    obtain ⟨kq, x169_59, rfl, HA, HJ59, HB⟩ := hcut
                    cases kq with
                    | zero => exact absurd HA.out (by simp [laws_FnZeckendorf.j6])
                    | succ kj59 =>
                      have H := HA.out
                      clear HA
                      simp only [laws_FnZeckendorf.j6] at H
                      by_cases c62 : x169_59 = true
                      · subst c62
                        have H1 : (if 0 ≤ x22_3 then (if x22_3 < (l1.length : Int) then (if (Int.tmod (rd l1 x22_3) 2) = 1 then (if x21_3.toList = ([] : List UInt8) then (if x21_3.size + 1 ≤ 9223372036854775807 then (laws_FnZeckendorf.l2 kj59 l1 (x21_3 ++ (⟨#[49]⟩ : ByteArray)) (wrap64 (x22_3 + 1))) else (none)) else (if 0 ≤ (wrap64 ((x21_3.size : Int) - 1)) then (if (wrap64 ((x21_3.size : Int) - 1)) < (x21_3.size : Int) then (if (bt x21_3 (wrap64 ((x21_3.size : Int) - 1))) = 48 then (if x21_3.size + 1 ≤ 9223372036854775807 then (laws_FnZeckendorf.l2 kj59 l1 (x21_3 ++ (⟨#[49]⟩ : ByteArray)) (wrap64 (x22_3 + 1))) else (none)) else (if x21_3.size + 1 ≤ 9223372036854775807 then (laws_FnZeckendorf.l2 kj59 l1 (x21_3 ++ (⟨#[48]⟩ : ByteArray)) (wrap64 (x22_3 + 1))) else (none))) else (none)) else (none))) else (if x21_3.size + 1 ≤ 9223372036854775807 then (laws_FnZeckendorf.l2 kj59 l1 (x21_3 ++ (⟨#[48]⟩ : ByteArray)) (wrap64 (x22_3 + 1))) else (none))) else (none)) else (none)) = some r := by rw [if_pos rfl] at H; exact H
                        clear H
                        have H := H1
                        clear H1
                        by_cases c63 : 0 ≤ x22_3
                        · rw [if_pos c63] at H
                          have c63b0 : decide (0 ≤ x22_3) = true := decide_eq_true c63
                          clear c63
                          by_cases c64 : x22_3 < (l1.length : Int)
                          · rw [if_pos c64] at H
                            have c64b0 : decide (x22_3 < (l1.length : Int)) = true := decide_eq_true c64
                            clear c64
                            by_cases c65 : (Int.tmod (rd l1 x22_3) 2) = 1
                            · rw [if_pos c65] at H
                              have c65b0 : ((Int.tmod (rd l1 x22_3) 2) == 1) = true := beq_iff_eq.mpr c65
                              have c65b1 : ((Int.tmod (rd l1 x22_3) 2) != 1) = false := bne_eq_false_iff_eq.mpr c65
                              clear c65
                              by_cases c66 : x21_3.toList = ([] : List UInt8)
                              · rw [if_pos c66] at H
                                have c66b0 : (x21_3.toList == ([] : List UInt8)) = true := beq_iff_eq.mpr c66
                                have c66b1 : (x21_3.toList != ([] : List UInt8)) = false := bne_eq_false_iff_eq.mpr c66
                                clear c66
                                by_cases c67 : x21_3.size + 1 ≤ 9223372036854775807
                                · rw [if_pos c67] at H
                                  have c67b0 := eq_true c67
                                  have c67b1 : decide (x21_3.size + 1 ≤ 9223372036854775807) = true := decide_eq_true c67
                                  try have c67b2 : (9223372036854775807 < x21_3.size + 1) = False := eq_false (Nat.not_lt.2 c67)
                                  have H' := Aside0.mk H
                                  clear H
                                  have p318 : 0 ≤ (x22_3 : Int) := of_decide_eq_true (by first | (with_reducible assumption) | assumption)
                                  have q318 : x22_3 < (l1.length : Int) := of_decide_eq_true (by first | (with_reducible assumption) | assumption)
                                  obtain ⟨ad318, e318, hx318_0⟩ := Kd.at_int HR1.out x22_3 p318 q318
                                  cases e318
                                  replace hx318_0 := (HB.out.cell (World.block_lt_of_cell? w _ hx318_0)).trans hx318_0
                                  replace p318 := eq_true p318
                                  replace q318 := eq_true q318
                                  go_wp2
                                  go_roundg kj59
                                  case measure => have := HJ8.out; have := HJ25.out; have := HK3.out; have := HJ59.out; omega
                                  case rel => exact ⟨(x21_3 ++ (⟨#[49]⟩ : ByteArray)), (wrap64 (x22_3 + 1)), (by first | rfl | (simp; done) | (simp [*]; done)), (by first | rfl | (simp; done) | (simp [*]; done)), H', ⟨by have := HJ8.out; have := HJ25.out; have := HK3.out; have := HJ59.out; omega⟩, ⟨by repeat (first | (with_reducible first | exact HB.out | apply below_alloc | apply pw_below_drewN | apply below_drew1) | exact HB.out)⟩⟩
                                · rw [if_neg c67] at H
                                  exact absurd H (by simp)
                              · rw [if_neg c66] at H
                                have c66b0 : (x21_3.toList == ([] : List UInt8)) = false := beq_eq_false_iff_ne.mpr c66
                                have c66b1 : (x21_3.toList != ([] : List UInt8)) = true := bne_iff_ne.mpr c66
                                obtain ⟨ji68, hji68⟩ : ∃ j_ : Int, (wrap64 ((x21_3.size : Int) - 1)) = j_ := ⟨_, rfl⟩
                                replace H : (if 0 ≤ (ji68) then (if (ji68) < (x21_3.size : Int) then (if (bt x21_3 (ji68)) = 48 then (if x21_3.size + 1 ≤ 9223372036854775807 then (laws_FnZeckendorf.l2 kj59 l1 (x21_3 ++ (⟨#[49]⟩ : ByteArray)) (wrap64 (x22_3 + 1))) else (none)) else (if x21_3.size + 1 ≤ 9223372036854775807 then (laws_FnZeckendorf.l2 kj59 l1 (x21_3 ++ (⟨#[48]⟩ : ByteArray)) (wrap64 (x22_3 + 1))) else (none))) else (none)) else (none)) = some r := by first | (rw [hji68] at H; exact H) | (simp only [hji68] at H ⊢; exact H)
                                have hji68w : (IntKind.i64.wrap ((x21_3.size : Int) - 1)) = ji68 := (i64_w _).trans hji68
                                by_cases c69 : 0 ≤ (ji68)
                                · rw [if_pos c69] at H
                                  have c69b0 : decide (0 ≤ (ji68)) = true := decide_eq_true c69
                                  clear c69
                                  by_cases c70 : (ji68) < (x21_3.size : Int)
                                  · rw [if_pos c70] at H
                                    have c70b0 : decide ((ji68) < (x21_3.size : Int)) = true := decide_eq_true c70
                                    clear c70
                                    by_cases c72 : (bt x21_3 (ji68)) = 48
                                    · rw [if_pos c72] at H
                                      have c72b0 : ((bt x21_3 (ji68)) == 48) = true := beq_iff_eq.mpr c72
                                      have c72b1 : ((bt x21_3 (ji68)) != 48) = false := bne_eq_false_iff_eq.mpr c72
                                      clear c72
                                      by_cases c73 : x21_3.size + 1 ≤ 9223372036854775807
                                      · rw [if_pos c73] at H
                                        have c73b0 := eq_true c73
                                        have c73b1 : decide (x21_3.size + 1 ≤ 9223372036854775807) = true := decide_eq_true c73
                                        try have c73b2 : (9223372036854775807 < x21_3.size + 1) = False := eq_false (Nat.not_lt.2 c73)
                                        have H' := Aside0.mk H
                                        clear H
                                        have p318 : 0 ≤ (x22_3 : Int) := of_decide_eq_true (by first | (with_reducible assumption) | assumption)
                                        have q318 : x22_3 < (l1.length : Int) := of_decide_eq_true (by first | (with_reducible assumption) | assumption)
                                        obtain ⟨ad318, e318, hx318_0⟩ := Kd.at_int HR1.out x22_3 p318 q318
                                        cases e318
                                        replace hx318_0 := (HB.out.cell (World.block_lt_of_cell? w _ hx318_0)).trans hx318_0
                                        replace p318 := eq_true p318
                                        replace q318 := eq_true q318
                                        have p71 : 0 ≤ ((ji68) : Int) := of_decide_eq_true (by first | (with_reducible assumption) | assumption)
                                        have q71 : (ji68) < (x21_3.size : Int) := of_decide_eq_true (by first | (with_reducible assumption) | assumption)
                                        have hx71 := bt_at x21_3 (ji68)
                                        replace p71 := eq_true p71
                                        replace q71 := eq_true q71
                                        go_wp2
                                        go_roundg kj59
                                        case measure => have := HJ8.out; have := HJ25.out; have := HK3.out; have := HJ59.out; omega
                                        case rel => exact ⟨(x21_3 ++ (⟨#[49]⟩ : ByteArray)), (wrap64 (x22_3 + 1)), (by first | rfl | (simp; done) | (simp [*]; done)), (by first | rfl | (simp; done) | (simp [*]; done)), H', ⟨by have := HJ8.out; have := HJ25.out; have := HK3.out; have := HJ59.out; omega⟩, ⟨by repeat (first | (with_reducible first | exact HB.out | apply below_alloc | apply pw_below_drewN | apply below_drew1) | exact HB.out)⟩⟩
                                      · rw [if_neg c73] at H
                                        exact absurd H (by simp)
                                    · rw [if_neg c72] at H
                                      have c72b0 : ((bt x21_3 (ji68)) == 48) = false := beq_eq_false_iff_ne.mpr c72
                                      have c72b1 : ((bt x21_3 (ji68)) != 48) = true := bne_iff_ne.mpr c72
                                      by_cases c74 : x21_3.size + 1 ≤ 9223372036854775807
                                      · rw [if_pos c74] at H
                                        have c74b0 := eq_true c74
                                        have c74b1 : decide (x21_3.size + 1 ≤ 9223372036854775807) = true := decide_eq_true c74
                                        try have c74b2 : (9223372036854775807 < x21_3.size + 1) = False := eq_false (Nat.not_lt.2 c74)
                                        have H' := Aside0.mk H
                                        clear H
                                        have p318 : 0 ≤ (x22_3 : Int) := of_decide_eq_true (by first | (with_reducible assumption) | assumption)
                                        have q318 : x22_3 < (l1.length : Int) := of_decide_eq_true (by first | (with_reducible assumption) | assumption)
                                        obtain ⟨ad318, e318, hx318_0⟩ := Kd.at_int HR1.out x22_3 p318 q318
                                        cases e318
                                        replace hx318_0 := (HB.out.cell (World.block_lt_of_cell? w _ hx318_0)).trans hx318_0
                                        replace p318 := eq_true p318
                                        replace q318 := eq_true q318
                                        have p71 : 0 ≤ ((ji68) : Int) := of_decide_eq_true (by first | (with_reducible assumption) | assumption)
                                        have q71 : (ji68) < (x21_3.size : Int) := of_decide_eq_true (by first | (with_reducible assumption) | assumption)
                                        have hx71 := bt_at x21_3 (ji68)
                                        replace p71 := eq_true p71
                                        replace q71 := eq_true q71
                                        go_wp2
                                        go_roundg kj59
                                        case measure => have := HJ8.out; have := HJ25.out; have := HK3.out; have := HJ59.out; omega
                                        case rel => exact ⟨(x21_3 ++ (⟨#[48]⟩ : ByteArray)), (wrap64 (x22_3 + 1)), (by first | rfl | (simp; done) | (simp [*]; done)), (by first | rfl | (simp; done) | (simp [*]; done)), H', ⟨by have := HJ8.out; have := HJ25.out; have := HK3.out; have := HJ59.out; omega⟩, ⟨by repeat (first | (with_reducible first | exact HB.out | apply below_alloc | apply pw_below_drewN | apply below_drew1) | exact HB.out)⟩⟩
                                      · rw [if_neg c74] at H
                                        exact absurd H (by simp)
                                  · rw [if_neg c70] at H
                                    exact absurd H (by simp)
                                · rw [if_neg c69] at H
                                  exact absurd H (by simp)
                            · rw [if_neg c65] at H
                              have c65b0 : ((Int.tmod (rd l1 x22_3) 2) == 1) = false := beq_eq_false_iff_ne.mpr c65
                              have c65b1 : ((Int.tmod (rd l1 x22_3) 2) != 1) = true := bne_iff_ne.mpr c65
                              by_cases c75 : x21_3.size + 1 ≤ 9223372036854775807
                              · rw [if_pos c75] at H
                                have c75b0 := eq_true c75
                                have c75b1 : decide (x21_3.size + 1 ≤ 9223372036854775807) = true := decide_eq_true c75
                                try have c75b2 : (9223372036854775807 < x21_3.size + 1) = False := eq_false (Nat.not_lt.2 c75)
                                have H' := Aside0.mk H
                                clear H
                                have p318 : 0 ≤ (x22_3 : Int) := of_decide_eq_true (by first | (with_reducible assumption) | assumption)
                                have q318 : x22_3 < (l1.length : Int) := of_decide_eq_true (by first | (with_reducible assumption) | assumption)
                                obtain ⟨ad318, e318, hx318_0⟩ := Kd.at_int HR1.out x22_3 p318 q318
                                cases e318
                                replace hx318_0 := (HB.out.cell (World.block_lt_of_cell? w _ hx318_0)).trans hx318_0
                                replace p318 := eq_true p318
                                replace q318 := eq_true q318
                                go_wp2
                                go_roundg kj59
                                case measure => have := HJ8.out; have := HJ25.out; have := HK3.out; have := HJ59.out; omega
                                case rel => exact ⟨(x21_3 ++ (⟨#[48]⟩ : ByteArray)), (wrap64 (x22_3 + 1)), (by first | rfl | (simp; done) | (simp [*]; done)), (by first | rfl | (simp; done) | (simp [*]; done)), H', ⟨by have := HJ8.out; have := HJ25.out; have := HK3.out; have := HJ59.out; omega⟩, ⟨by repeat (first | (with_reducible first | exact HB.out | apply below_alloc | apply pw_below_drewN | apply below_drew1) | exact HB.out)⟩⟩
                              · rw [if_neg c75] at H
                                exact absurd H (by simp)
                          · rw [if_neg c64] at H
                            exact absurd H (by simp)
                        · rw [if_neg c63] at H
                          exact absurd H (by simp)
                      · replace c62 := Bool.eq_false_iff.mpr c62
                        subst c62
                        have H1 : (if x21_3.toList = ([] : List UInt8) then (laws_FnZeckendorf.j7 kj59 l1 x21_3 false) else (if 0 ≤ (wrap64 ((x21_3.size : Int) - 1)) then (if (wrap64 ((x21_3.size : Int) - 1)) < (x21_3.size : Int) then (laws_FnZeckendorf.j7 kj59 l1 x21_3 ((bt x21_3 (wrap64 ((x21_3.size : Int) - 1))) == 49)) else (none)) else (none))) = some r := by rw [if_neg (show ¬ (false = true) by decide)] at H; exact H
                        clear H
                        have H := H1
                        clear H1
                        have HC76 := Aside0.mk H
                        clear H
                        go_upto_region 34 with (fail)
                        go_cut [203] (fun v203 wc => ∃ (kq : Nat) (x203_75 : Bool), v203 = .bool x203_75 ∧ Aside0 (laws_FnZeckendorf.j7 kq l1 x21_3 x203_75 = some r) ∧ Aside0 (kq ≤ kj59) ∧ Aside0 (Below w.heap.size w wc))
                        case first =>
                          have H := HC76.out
                          clear HC76
                          by_cases c77 : x21_3.toList = ([] : List UInt8)
                          · rw [if_pos c77] at H
                            have c77b0 : (x21_3.toList == ([] : List UInt8)) = true := beq_iff_eq.mpr c77
                            have c77b1 : (x21_3.toList != ([] : List UInt8)) = false := bne_eq_false_iff_eq.mpr c77
                            clear c77
                            (first | rw [c77b0] | (simp only [i64_w, i32_w]; rw [c77b0]) | skip)
                            have H' := Aside0.mk H
                            clear H
                            go_wp2
                            go_meet
                            case rel => exact ⟨_, (false), (by first | rfl | (simp; done) | (simp [*]; done)), H', ⟨by have := HJ8.out; have := HJ25.out; have := HK3.out; have := HJ59.out; first | omega | exact Nat.le_refl _⟩, ⟨by repeat (first | (with_reducible first | exact HB.out | apply below_alloc | apply pw_below_drewN | apply below_drew1) | exact HB.out)⟩⟩
                          · rw [if_neg c77] at H
                            have c77b0 : (x21_3.toList == ([] : List UInt8)) = false := beq_eq_false_iff_ne.mpr c77
                            have c77b1 : (x21_3.toList != ([] : List UInt8)) = true := bne_iff_ne.mpr c77
                            (first | rw [c77b0] | (simp only [i64_w, i32_w]; rw [c77b0]) | skip)
                            obtain ⟨ji78, hji78⟩ : ∃ j_ : Int, (wrap64 ((x21_3.size : Int) - 1)) = j_ := ⟨_, rfl⟩
                            replace H : (if 0 ≤ (ji78) then (if (ji78) < (x21_3.size : Int) then (laws_FnZeckendorf.j7 kj59 l1 x21_3 ((bt x21_3 (ji78)) == 49)) else (none)) else (none)) = some r := by first | (rw [hji78] at H; exact H) | (simp only [hji78] at H ⊢; exact H)
                            have hji78w : (IntKind.i64.wrap ((x21_3.size : Int) - 1)) = ji78 := (i64_w _).trans hji78
                            by_cases c79 : 0 ≤ (ji78)
                            · rw [if_pos c79] at H
                              have c79b0 : decide (0 ≤ (ji78)) = true := decide_eq_true c79
                              clear c79
                              by_cases c80 : (ji78) < (x21_3.size : Int)
                              · rw [if_pos c80] at H
                                have c80b0 : decide ((ji78) < (x21_3.size : Int)) = true := decide_eq_true c80
                                clear c80
                                have H' := Aside0.mk H
                                clear H
                                have p81 : 0 ≤ ((ji78) : Int) := of_decide_eq_true (by first | (with_reducible assumption) | assumption)
                                have q81 : (ji78) < (x21_3.size : Int) := of_decide_eq_true (by first | (with_reducible assumption) | assumption)
                                have hx81 := bt_at x21_3 (ji78)
                                replace p81 := eq_true p81
                                replace q81 := eq_true q81
                                go_wp2
                                go_meet
                                case rel => exact ⟨_, (((bt x21_3 (ji78)) == 49)), (by first | rfl | (simp; done) | (simp only [← hji78] <;> (first | rfl | simp)) | (simp [*]; done)), H', ⟨by have := HJ8.out; have := HJ25.out; have := HK3.out; have := HJ59.out; first | omega | exact Nat.le_refl _⟩, ⟨by repeat (first | (with_reducible first | exact HB.out | apply below_alloc | apply pw_below_drewN | apply below_drew1) | exact HB.out)⟩⟩
                              · rw [if_neg c80] at H
                                exact absurd H (by simp)
                            · rw [if_neg c79] at H
                              exact absurd H (by simp)
                        case rest => as_aux_lemma =>
                          clear HC76
                          try clear c1
                          try clear c2
                          try clear p2
                          try clear c3
                          try clear c3b0
                          try clear p3
                          try clear q3
                          try clear hx3
                          try clear c4
                          try clear c5
                          try clear p5
                          try clear q5
                          try clear hx5
                          try clear c6
                          try clear p6
                          try clear c7
                          try clear p7
                          try clear q7
                          try clear hx7
                          try clear c8
                          try clear p8
                          try clear q8
                          try clear hx8
                          try clear c15
                          try clear c15b0
                          try clear c15b1
                          try clear c15b2
                          try clear c17
                          try clear c18
                          try clear c18b0
                          try clear c18b1
                          try clear c18b2
                          try clear c25
                          try clear c27
                          try clear c29
                          try clear c29b0
                          try clear c30
                          try clear c30b0
                          try clear c31
                          try clear c31b0
                          try clear p31
                          try clear q31
                          try clear hx31
                          try clear c32
                          try clear c32b0
                          try clear c34
                          try clear c34b0
                          try clear c35
                          try clear c35b0
                          try clear c36
                          try clear c36b0
                          try clear c37
                          try clear c37b0
                          try clear c37b1
                          try clear c37b2
                          try clear c38
                          try clear c39
                          try clear c40
                          try clear c41
                          try clear c41b0
                          try clear c41b1
                          try clear c42
                          try clear c43
                          try clear c43b0
                          try clear c43b1
                          try clear c44
                          try clear c44b0
                          try clear c44b1
                          try clear c45
                          try clear c45b0
                          try clear c45b1
                          try clear c47
                          try clear c47b0
                          try clear c47b1
                          try clear c48
                          try clear c48b0
                          try clear c48b1
                          try clear c49
                          try clear c50
                          try clear c50b0
                          try clear c51
                          try clear c51b0
                          try clear c52
                          try clear c52b0
                          try clear p53
                          try clear q53
                          try clear hx53
                          try clear c54
                          try clear c54b0
                          try clear c54b1
                          try clear c56
                          try clear c56b0
                          try clear c57
                          try clear c57b0
                          try clear p58
                          try clear q58
                          try clear hx58
                          try clear c59
                          try clear c59b0
                          try clear c59b1
                          try clear c61
                          try clear c61b0
                          try clear c62
                          try clear c63
                          try clear c63b0
                          try clear c64
                          try clear c64b0
                          try clear p64
                          try clear c65
                          try clear c65b0
                          try clear c65b1
                          try clear c66
                          try clear c66b0
                          try clear c66b1
                          try clear c67
                          try clear c67b0
                          try clear c67b1
                          try clear c67b2
                          try clear c69
                          try clear c69b0
                          try clear c70
                          try clear c70b0
                          try clear p71
                          try clear q71
                          try clear hx71
                          try clear c72
                          try clear c72b0
                          try clear c72b1
                          try clear c73
                          try clear c73b0
                          try clear c73b1
                          try clear c73b2
                          try clear c74
                          try clear c74b0
                          try clear c74b1
                          try clear c74b2
                          try clear c75
                          try clear c75b0
                          try clear c75b1
                          try clear c75b2
                          try clear c77
                          try clear c77b0
                          try clear c77b1
                          try clear c79
                          try clear c79b0
                          try clear c80
                          try clear c80b0
                          try clear p81
                          try clear q81
                          try clear hx81
                          try clear hx313_0
                          try clear hx314_0
                          try clear hx318_0
                          try clear p2
                          try clear p3
                          try clear p31
                          try clear p313
                          try clear p314
                          try clear p318
                          try clear p5
                          try clear p53
                          try clear p58
                          try clear p6
                          try clear p71
                          try clear p81
                          try clear q3
                          try clear q31
                          try clear q313
                          try clear q314
                          try clear q318
                          try clear q5
                          try clear q53
                          try clear q58
                          try clear q71
                          try clear q81
                          obtain ⟨kq, x203_75, rfl, HA, HJ75, HB⟩ := hcut
                          cases kq with
                          | zero => exact absurd HA.out (by simp [laws_FnZeckendorf.j7])
                          | succ kj75 =>
                            have H := HA.out
                            clear HA
                            simp only [laws_FnZeckendorf.j7] at H
                            by_cases c82 : x203_75 = true
                            · subst c82
                              have H1 : (if x21_3.size + 1 ≤ 9223372036854775807 then ((impl_TakeFibonacci.f kj75 (x21_3 ++ (⟨#[49]⟩ : ByteArray))).bind fun bt319 => ((impl_FibonacciOf.f kj75 bt319.1).bind fun bt322 => (if bt319.2.2 = true then (if bt319.2.1 = ((x21_3 ++ (⟨#[49]⟩ : ByteArray)).size : Int) then (if bt322.2 = true then (laws_FnZeckendorf.j8 kj75 l1 (bt322.1.toList != (x21_3 ++ (⟨#[49]⟩ : ByteArray)).toList)) else (laws_FnZeckendorf.j8 kj75 l1 true)) else (laws_FnZeckendorf.j8 kj75 l1 true)) else (laws_FnZeckendorf.j8 kj75 l1 true)))) else (none)) = some r := by rw [if_pos rfl] at H; exact H
                              clear H
                              have H := H1
                              clear H1
                              by_cases c83 : x21_3.size + 1 ≤ 9223372036854775807
                              · rw [if_pos c83] at H
                                have c83b0 := eq_true c83
                                have c83b1 : decide (x21_3.size + 1 ≤ 9223372036854775807) = true := decide_eq_true c83
                                try have c83b2 : (9223372036854775807 < x21_3.size + 1) = False := eq_false (Nat.not_lt.2 c83)
                                replace H := Option.bind_eq_some_iff.mp H
                                obtain ⟨⟨t319, t320, t321⟩, A840, H⟩ := H
                                replace H : ((impl_FibonacciOf.f kj75 t319).bind fun bt322 => (if t321 = true then (if t320 = ((x21_3 ++ (⟨#[49]⟩ : ByteArray)).size : Int) then (if bt322.2 = true then (laws_FnZeckendorf.j8 kj75 l1 (bt322.1.toList != (x21_3 ++ (⟨#[49]⟩ : ByteArray)).toList)) else (laws_FnZeckendorf.j8 kj75 l1 true)) else (laws_FnZeckendorf.j8 kj75 l1 true)) else (laws_FnZeckendorf.j8 kj75 l1 true))) = some r := H
                                have A84 := Aside0.mk A840
                                clear A840
                                replace H := Option.bind_eq_some_iff.mp H
                                obtain ⟨⟨t322, t323⟩, A850, H⟩ := H
                                replace H : (if t321 = true then (if t320 = ((x21_3 ++ (⟨#[49]⟩ : ByteArray)).size : Int) then (if t323 = true then (laws_FnZeckendorf.j8 kj75 l1 (t322.toList != (x21_3 ++ (⟨#[49]⟩ : ByteArray)).toList)) else (laws_FnZeckendorf.j8 kj75 l1 true)) else (laws_FnZeckendorf.j8 kj75 l1 true)) else (laws_FnZeckendorf.j8 kj75 l1 true)) = some r := H
                                have A85 := Aside0.mk A850
                                clear A850
                                have HC86 := Aside0.mk H
                                clear H
                                go_upto_region 38 with (first | ((with_reducible refine gate_callee (f := 42) rfl ?_); refine goesL_ (some 208) rfl rfl Try.func42 (by kernel_rfl) rfl #[.string (x21_3 ++ (⟨#[49]⟩ : ByteArray))] rfl (by (try simp only [List.map_toArray, List.map_cons, List.map_nil]); first | done | rfl | (simp only [List.length_drop, List.length_take]; rfl)) ?_; (with_reducible refine (impl_TakeFibonacci.calls kj75 (x21_3 ++ (⟨#[49]⟩ : ByteArray)) t319 t320 t321 _ (HG.out.here (by repeat (first | (with_reducible first | exact HB.out | apply below_alloc | apply pw_below_drewN | apply below_drew1) | exact HB.out))) A84.out).mono ?_); rintro e w87 ⟨rfl, hb⟩; refine ⟨_, rfl, ?_⟩; have n0_ := Aside0.mk (below_step (by repeat (first | (with_reducible first | exact HB.out | apply below_alloc | apply pw_below_drewN | apply below_drew1) | exact HB.out)) hb); clear HB; have HB := n0_; clear n0_; (try clear hb); (try clear hb2); (try clear hk); (try clear hi)) | ((with_reducible refine gate_callee (f := 39) rfl ?_); refine goesL_ (some 214) rfl rfl Try.func39 (by kernel_rfl) rfl #[.int .i64 t319] rfl (by (try simp only [List.map_toArray, List.map_cons, List.map_nil]); first | done | rfl | (simp only [List.length_drop, List.length_take]; rfl)) ?_; (with_reducible refine (impl_FibonacciOf.calls kj75 t319 t322 t323 _ A85.out).mono ?_); rintro e w88 ⟨rfl, hb⟩; refine ⟨_, rfl, ?_⟩; have n0_ := Aside0.mk (below_step (by repeat (first | (with_reducible first | exact HB.out | apply below_alloc | apply pw_below_drewN | apply below_drew1) | exact HB.out)) hb); clear HB; have HB := n0_; clear n0_; (try clear hb); (try clear hb2); (try clear hk); (try clear hi)))
                                (try simp only [Act.put, List.setIfInBounds_toArray, List.set_cons_zero, List.set_cons_succ])
                                go_cut [233] (fun v233 wc => ∃ (kq : Nat) (x233_85 : Bool), v233 = .bool x233_85 ∧ Aside0 (laws_FnZeckendorf.j8 kq l1 x233_85 = some r) ∧ Aside0 (kq ≤ kj75) ∧ Aside0 (Below w.heap.size w wc))
                                case first =>
                                  have H := HC86.out
                                  clear HC86
                                  by_cases c89 : t321 = true
                                  · subst c89
                                    have H1 : (if t320 = ((x21_3 ++ (⟨#[49]⟩ : ByteArray)).size : Int) then (if t323 = true then (laws_FnZeckendorf.j8 kj75 l1 (t322.toList != (x21_3 ++ (⟨#[49]⟩ : ByteArray)).toList)) else (laws_FnZeckendorf.j8 kj75 l1 true)) else (laws_FnZeckendorf.j8 kj75 l1 true)) = some r := by rw [if_pos rfl] at H; exact H
                                    clear H
                                    have H := H1
                                    clear H1
                                    by_cases c90 : t320 = ((x21_3 ++ (⟨#[49]⟩ : ByteArray)).size : Int)
                                    · rw [if_pos c90] at H
                                      have c90b0 : (t320 == ((x21_3 ++ (⟨#[49]⟩ : ByteArray)).size : Int)) = true := beq_iff_eq.mpr c90
                                      have c90b1 : (t320 != ((x21_3 ++ (⟨#[49]⟩ : ByteArray)).size : Int)) = false := bne_eq_false_iff_eq.mpr c90
                                      clear c90
                                      have c90q : (t320 == ((x21_3.size : Int) + 1)) = true := by have h_ := beq_iff_eq.mp c90b0; have h2_ : (x21_3 ++ (⟨#[49]⟩ : ByteArray)).size = x21_3.size + 1 := (by rw [ByteArray.size_append]; rfl); exact beq_iff_eq.mpr (by omega)
                                      have c90r : (t320 != ((x21_3.size : Int) + 1)) = false := by rw [bne, c90q]; rfl
                                      (first | rw [c90r] | rw [c90q] | skip)
                                      by_cases c91 : t323 = true
                                      · subst c91
                                        have H1 : (laws_FnZeckendorf.j8 kj75 l1 (t322.toList != (x21_3 ++ (⟨#[49]⟩ : ByteArray)).toList)) = some r := by rw [if_pos rfl] at H; exact H
                                        clear H
                                        have H := H1
                                        clear H1
                                        have H' := Aside0.mk H
                                        clear H
                                        go_wp2
                                        go_meet
                                        case rel => exact ⟨_, ((t322.toList != (x21_3 ++ (⟨#[49]⟩ : ByteArray)).toList)), (by first | rfl | (simp; done) | (simp [*]; done)), H', ⟨by have := HJ8.out; have := HJ25.out; have := HK3.out; have := HJ59.out; have := HJ75.out; first | omega | exact Nat.le_refl _⟩, ⟨by repeat (first | (with_reducible first | exact HB.out | apply below_alloc | apply pw_below_drewN | apply below_drew1) | exact HB.out)⟩⟩
                                      · replace c91 := Bool.eq_false_iff.mpr c91
                                        subst c91
                                        have H1 : (laws_FnZeckendorf.j8 kj75 l1 true) = some r := by rw [if_neg (show ¬ (false = true) by decide)] at H; exact H
                                        clear H
                                        have H := H1
                                        clear H1
                                        have H' := Aside0.mk H
                                        clear H
                                        go_wp2
                                        go_meet
                                        case rel => exact ⟨_, (true), (by first | rfl | (simp; done) | (simp [*]; done)), H', ⟨by have := HJ8.out; have := HJ25.out; have := HK3.out; have := HJ59.out; have := HJ75.out; first | omega | exact Nat.le_refl _⟩, ⟨by repeat (first | (with_reducible first | exact HB.out | apply below_alloc | apply pw_below_drewN | apply below_drew1) | exact HB.out)⟩⟩
                                    · rw [if_neg c90] at H
                                      have c90b0 : (t320 == ((x21_3 ++ (⟨#[49]⟩ : ByteArray)).size : Int)) = false := beq_eq_false_iff_ne.mpr c90
                                      have c90b1 : (t320 != ((x21_3 ++ (⟨#[49]⟩ : ByteArray)).size : Int)) = true := bne_iff_ne.mpr c90
                                      have c90q : (t320 == ((x21_3.size : Int) + 1)) = false := by have h_ := beq_eq_false_iff_ne.mp c90b0; have h2_ : (x21_3 ++ (⟨#[49]⟩ : ByteArray)).size = x21_3.size + 1 := (by rw [ByteArray.size_append]; rfl); exact beq_eq_false_iff_ne.mpr (by omega)
                                      have c90r : (t320 != ((x21_3.size : Int) + 1)) = true := by rw [bne, c90q]; rfl
                                      (first | rw [c90r] | rw [c90q] | skip)
                                      have H' := Aside0.mk H
                                      clear H
                                      go_wp2
                                      go_meet
                                      case rel => exact ⟨_, (true), (by first | rfl | (simp; done) | (simp [*]; done)), H', ⟨by have := HJ8.out; have := HJ25.out; have := HK3.out; have := HJ59.out; have := HJ75.out; first | omega | exact Nat.le_refl _⟩, ⟨by repeat (first | (with_reducible first | exact HB.out | apply below_alloc | apply pw_below_drewN | apply below_drew1) | exact HB.out)⟩⟩
                                  · replace c89 := Bool.eq_false_iff.mpr c89
                                    subst c89
                                    have H1 : (laws_FnZeckendorf.j8 kj75 l1 true) = some r := by rw [if_neg (show ¬ (false = true) by decide)] at H; exact H
                                    clear H
                                    have H := H1
                                    clear H1
                                    have H' := Aside0.mk H
                                    clear H
                                    go_wp2
                                    go_meet
                                    case rel => exact ⟨_, (true), (by first | rfl | (simp; done) | (simp [*]; done)), H', ⟨by have := HJ8.out; have := HJ25.out; have := HK3.out; have := HJ59.out; have := HJ75.out; first | omega | exact Nat.le_refl _⟩, ⟨by repeat (first | (with_reducible first | exact HB.out | apply below_alloc | apply pw_below_drewN | apply below_drew1) | exact HB.out)⟩⟩
                                case rest => as_aux_lemma =>
                                  clear HC86
                                  try clear c1
                                  try clear c2
                                  try clear p2
                                  try clear c3
                                  try clear c3b0
                                  try clear p3
                                  try clear q3
                                  try clear hx3
                                  try clear c4
                                  try clear c5
                                  try clear p5
                                  try clear q5
                                  try clear hx5
                                  try clear c6
                                  try clear p6
                                  try clear c7
                                  try clear p7
                                  try clear q7
                                  try clear hx7
                                  try clear c8
                                  try clear p8
                                  try clear q8
                                  try clear hx8
                                  try clear c9
                                  try clear c15
                                  try clear c15b0
                                  try clear c15b1
                                  try clear c15b2
                                  try clear c17
                                  try clear c18
                                  try clear c18b0
                                  try clear c18b1
                                  try clear c18b2
                                  try clear c25
                                  try clear c27
                                  try clear c29
                                  try clear c29b0
                                  try clear c30
                                  try clear c30b0
                                  try clear c31
                                  try clear c31b0
                                  try clear p31
                                  try clear q31
                                  try clear hx31
                                  try clear c32
                                  try clear c32b0
                                  try clear c34
                                  try clear c34b0
                                  try clear c35
                                  try clear c35b0
                                  try clear c36
                                  try clear c36b0
                                  try clear c37
                                  try clear c37b0
                                  try clear c37b1
                                  try clear c37b2
                                  try clear c38
                                  try clear c39
                                  try clear c40
                                  try clear c41
                                  try clear c41b0
                                  try clear c41b1
                                  try clear c42
                                  try clear c43
                                  try clear c43b0
                                  try clear c43b1
                                  try clear c44
                                  try clear c44b0
                                  try clear c44b1
                                  try clear c45
                                  try clear c45b0
                                  try clear c45b1
                                  try clear c47
                                  try clear c47b0
                                  try clear c47b1
                                  try clear c48
                                  try clear c48b0
                                  try clear c48b1
                                  try clear c49
                                  try clear c50
                                  try clear c50b0
                                  try clear c51
                                  try clear c51b0
                                  try clear c52
                                  try clear c52b0
                                  try clear p53
                                  try clear q53
                                  try clear hx53
                                  try clear c54
                                  try clear c54b0
                                  try clear c54b1
                                  try clear c56
                                  try clear c56b0
                                  try clear c57
                                  try clear c57b0
                                  try clear p58
                                  try clear q58
                                  try clear hx58
                                  try clear c59
                                  try clear c59b0
                                  try clear c59b1
                                  try clear c61
                                  try clear c61b0
                                  try clear c62
                                  try clear c63
                                  try clear c63b0
                                  try clear c64
                                  try clear c64b0
                                  try clear p64
                                  try clear c65
                                  try clear c65b0
                                  try clear c65b1
                                  try clear c66
                                  try clear c66b0
                                  try clear c66b1
                                  try clear c67
                                  try clear c67b0
                                  try clear c67b1
                                  try clear c67b2
                                  try clear c69
                                  try clear c69b0
                                  try clear c70
                                  try clear c70b0
                                  try clear p71
                                  try clear q71
                                  try clear hx71
                                  try clear c72
                                  try clear c72b0
                                  try clear c72b1
                                  try clear c73
                                  try clear c73b0
                                  try clear c73b1
                                  try clear c73b2
                                  try clear c74
                                  try clear c74b0
                                  try clear c74b1
                                  try clear c74b2
                                  try clear c75
                                  try clear c75b0
                                  try clear c75b1
                                  try clear c75b2
                                  try clear c77
                                  try clear c77b0
                                  try clear c77b1
                                  try clear c79
                                  try clear c79b0
                                  try clear c80
                                  try clear c80b0
                                  try clear p81
                                  try clear q81
                                  try clear hx81
                                  try clear c82
                                  try clear c83
                                  try clear c83b0
                                  try clear c83b1
                                  try clear c83b2
                                  try clear c89
                                  try clear c90
                                  try clear c90b0
                                  try clear c90b1
                                  try clear c91
                                  try clear hx313_0
                                  try clear hx314_0
                                  try clear hx318_0
                                  try clear p2
                                  try clear p3
                                  try clear p31
                                  try clear p313
                                  try clear p314
                                  try clear p318
                                  try clear p5
                                  try clear p53
                                  try clear p58
                                  try clear p6
                                  try clear p64
                                  try clear p7
                                  try clear p71
                                  try clear p8
                                  try clear p81
                                  try clear q3
                                  try clear q31
                                  try clear q313
                                  try clear q314
                                  try clear q318
                                  try clear q5
                                  try clear q53
                                  try clear q58
                                  try clear q7
                                  try clear q71
                                  try clear q8
                                  try clear q81
                                  obtain ⟨kq, x233_85, rfl, HA, HJ85, HB⟩ := hcut
                                  cases kq with
                                  | zero => exact absurd HA.out (by simp [laws_FnZeckendorf.j8])
                                  | succ kj85 =>
                                    have H := HA.out
                                    clear HA
                                    simp only [laws_FnZeckendorf.j8] at H
                                    by_cases c92 : x233_85 = true
                                    · subst c92
                                      have H1 : (some false) = some r := by rw [if_pos rfl] at H; exact H
                                      clear H
                                      have H := H1
                                      clear H1
                                      obtain rfl := Option.some.inj H
                                      go_wp2
                                      go_ret
                                      exact ⟨by first | rfl | (simp [errW_none, errW_some] <;> rfl) | (simp [*, errW_none, errW_some] <;> rfl), by repeat (first | (with_reducible first | exact HB.out | apply below_alloc | apply pw_below_drewN | apply below_drew1) | exact HB.out)⟩
                                    · replace c92 := Bool.eq_false_iff.mpr c92
                                      subst c92
                                      have H1 : ((spec_DrawTakeFibonacci.f kj85 l1).bind fun t324 => ((impl_TakeFibonacci.f kj85 t324).bind fun bt325 => ((spec_TakeFibonacci.f kj85 t324).bind fun bt328 => (if (bt325.2.2 == bt328.2.2) = true then (if bt325.1 = bt328.1 then (some (bt325.2.1 == bt328.2.1)) else (some false)) else (some false))))) = some r := by rw [if_neg (show ¬ (false = true) by decide)] at H; exact H
                                      clear H
                                      have H := H1
                                      clear H1
                                      replace H := Option.bind_eq_some_iff.mp H
                                      obtain ⟨t324, A930, H⟩ := H
                                      replace H : ((impl_TakeFibonacci.f kj85 t324).bind fun bt325 => ((spec_TakeFibonacci.f kj85 t324).bind fun bt328 => (if (bt325.2.2 == bt328.2.2) = true then (if bt325.1 = bt328.1 then (some (bt325.2.1 == bt328.2.1)) else (some false)) else (some false)))) = some r := H
                                      have A93 := Aside0.mk A930
                                      clear A930
                                      replace H := Option.bind_eq_some_iff.mp H
                                      obtain ⟨⟨t325, t326, t327⟩, A940, H⟩ := H
                                      replace H : ((spec_TakeFibonacci.f kj85 t324).bind fun bt328 => (if (t327 == bt328.2.2) = true then (if t325 = bt328.1 then (some (t326 == bt328.2.1)) else (some false)) else (some false))) = some r := H
                                      have A94 := Aside0.mk A940
                                      clear A940
                                      replace H := Option.bind_eq_some_iff.mp H
                                      obtain ⟨⟨t328, t329, t330⟩, A950, H⟩ := H
                                      replace H : (if (t327 == t330) = true then (if t325 = t328 then (some (t326 == t329)) else (some false)) else (some false)) = some r := H
                                      have A95 := Aside0.mk A950
                                      clear A950
                                      by_cases c96 : (t327 == t330) = true
                                      · rw [if_pos c96] at H
                                        have c96b0 : (t327 == t330) = true := c96
                                        (try (have c96b1 : decide (t327 = t330) = true := by simpa using c96))
                                        (try (have c96b2 : (t327 == t330) = true := by simpa using c96))
                                        clear c96
                                        by_cases c97 : t325 = t328
                                        · rw [if_pos c97] at H
                                          have c97b0 : (t325 == t328) = true := beq_iff_eq.mpr c97
                                          have c97b1 : (t325 != t328) = false := bne_eq_false_iff_eq.mpr c97
                                          clear c97
                                          obtain rfl := Option.some.inj H
                                          go_wp2_with (first | ((with_reducible refine gate_callee (f := 43) rfl ?_); refine goesL_ (some 235) rfl rfl Try.func43 (by kernel_rfl) rfl #[.slice A1 l1.length c1] rfl (by (try simp only [List.map_toArray, List.map_cons, List.map_nil]); first | done | rfl | (simp only [List.length_drop, List.length_take]; rfl)) ?_; (with_reducible refine (spec_DrawTakeFibonacci.calls kj85 _ _ l1 t324 _ ?side1 ?side2 A93.out).mono ?_); (case side1 => repeat (first | exact (Kd.C_below HR1.out HB.out) | (with_reducible refine Kd.C_alloc ?_ _) | (with_reducible refine Kd.C_drewN ?_ _) | (with_reducible refine Kd.C_drew ?_))); (case side2 => exact HC1.out); rintro e w98 ⟨rfl, hb⟩; refine ⟨_, rfl, ?_⟩; have n0_ := Aside0.mk (below_step (by repeat (first | (with_reducible first | exact HB.out | apply below_alloc | apply pw_below_drewN | apply below_drew1) | exact HB.out)) hb); clear HB; have HB := n0_; clear n0_; (try clear hb); (try clear hb2); (try clear hk); (try clear hi)) | ((with_reducible refine gate_callee (f := 42) rfl ?_); refine goesL_ (some 238) rfl rfl Try.func42 (by kernel_rfl) rfl #[.string t324] rfl (by (try simp only [List.map_toArray, List.map_cons, List.map_nil]); first | done | rfl | (simp only [List.length_drop, List.length_take]; rfl)) ?_; (with_reducible refine (impl_TakeFibonacci.calls kj85 t324 t325 t326 t327 _ (HG.out.here (by repeat (first | (with_reducible first | exact HB.out | apply below_alloc | apply pw_below_drewN | apply below_drew1) | exact HB.out))) A94.out).mono ?_); rintro e w99 ⟨rfl, hb⟩; refine ⟨_, rfl, ?_⟩; have n0_ := Aside0.mk (below_step (by repeat (first | (with_reducible first | exact HB.out | apply below_alloc | apply pw_below_drewN | apply below_drew1) | exact HB.out)) hb); clear HB; have HB := n0_; clear n0_; (try clear hb); (try clear hb2); (try clear hk); (try clear hi)) | ((with_reducible refine gate_callee (f := 44) rfl ?_); refine goesL_ (some 244) rfl rfl Try.func44 (by kernel_rfl) rfl #[.string t324] rfl (by (try simp only [List.map_toArray, List.map_cons, List.map_nil]); first | done | rfl | (simp only [List.length_drop, List.length_take]; rfl)) ?_; (with_reducible refine (spec_TakeFibonacci.calls kj85 t324 t328 t329 t330 _ A95.out).mono ?_); rintro e w100 ⟨rfl, hb⟩; refine ⟨_, rfl, ?_⟩; have n0_ := Aside0.mk (below_step (by repeat (first | (with_reducible first | exact HB.out | apply below_alloc | apply pw_below_drewN | apply below_drew1) | exact HB.out)) hb); clear HB; have HB := n0_; clear n0_; (try clear hb); (try clear hb2); (try clear hk); (try clear hi)))
                                          go_ret
                                          exact ⟨by first | rfl | (simp [errW_none, errW_some] <;> rfl) | (simp [*, errW_none, errW_some] <;> rfl), by repeat (first | (with_reducible first | exact HB.out | apply below_alloc | apply pw_below_drewN | apply below_drew1) | exact HB.out)⟩
                                        · rw [if_neg c97] at H
                                          have c97b0 : (t325 == t328) = false := beq_eq_false_iff_ne.mpr c97
                                          have c97b1 : (t325 != t328) = true := bne_iff_ne.mpr c97
                                          obtain rfl := Option.some.inj H
                                          go_wp2_with (first | ((with_reducible refine gate_callee (f := 43) rfl ?_); refine goesL_ (some 235) rfl rfl Try.func43 (by kernel_rfl) rfl #[.slice A1 l1.length c1] rfl (by (try simp only [List.map_toArray, List.map_cons, List.map_nil]); first | done | rfl | (simp only [List.length_drop, List.length_take]; rfl)) ?_; (with_reducible refine (spec_DrawTakeFibonacci.calls kj85 _ _ l1 t324 _ ?side1 ?side2 A93.out).mono ?_); (case side1 => repeat (first | exact (Kd.C_below HR1.out HB.out) | (with_reducible refine Kd.C_alloc ?_ _) | (with_reducible refine Kd.C_drewN ?_ _) | (with_reducible refine Kd.C_drew ?_))); (case side2 => exact HC1.out); rintro e w101 ⟨rfl, hb⟩; refine ⟨_, rfl, ?_⟩; have n0_ := Aside0.mk (below_step (by repeat (first | (with_reducible first | exact HB.out | apply below_alloc | apply pw_below_drewN | apply below_drew1) | exact HB.out)) hb); clear HB; have HB := n0_; clear n0_; (try clear hb); (try clear hb2); (try clear hk); (try clear hi)) | ((with_reducible refine gate_callee (f := 42) rfl ?_); refine goesL_ (some 238) rfl rfl Try.func42 (by kernel_rfl) rfl #[.string t324] rfl (by (try simp only [List.map_toArray, List.map_cons, List.map_nil]); first | done | rfl | (simp only [List.length_drop, List.length_take]; rfl)) ?_; (with_reducible refine (impl_TakeFibonacci.calls kj85 t324 t325 t326 t327 _ (HG.out.here (by repeat (first | (with_reducible first | exact HB.out | apply below_alloc | apply pw_below_drewN | apply below_drew1) | exact HB.out))) A94.out).mono ?_); rintro e w102 ⟨rfl, hb⟩; refine ⟨_, rfl, ?_⟩; have n0_ := Aside0.mk (below_step (by repeat (first | (with_reducible first | exact HB.out | apply below_alloc | apply pw_below_drewN | apply below_drew1) | exact HB.out)) hb); clear HB; have HB := n0_; clear n0_; (try clear hb); (try clear hb2); (try clear hk); (try clear hi)) | ((with_reducible refine gate_callee (f := 44) rfl ?_); refine goesL_ (some 244) rfl rfl Try.func44 (by kernel_rfl) rfl #[.string t324] rfl (by (try simp only [List.map_toArray, List.map_cons, List.map_nil]); first | done | rfl | (simp only [List.length_drop, List.length_take]; rfl)) ?_; (with_reducible refine (spec_TakeFibonacci.calls kj85 t324 t328 t329 t330 _ A95.out).mono ?_); rintro e w103 ⟨rfl, hb⟩; refine ⟨_, rfl, ?_⟩; have n0_ := Aside0.mk (below_step (by repeat (first | (with_reducible first | exact HB.out | apply below_alloc | apply pw_below_drewN | apply below_drew1) | exact HB.out)) hb); clear HB; have HB := n0_; clear n0_; (try clear hb); (try clear hb2); (try clear hk); (try clear hi)))
                                          go_ret
                                          exact ⟨by first | rfl | (simp [errW_none, errW_some] <;> rfl) | (simp [*, errW_none, errW_some] <;> rfl), by repeat (first | (with_reducible first | exact HB.out | apply below_alloc | apply pw_below_drewN | apply below_drew1) | exact HB.out)⟩
                                      · rw [if_neg c96] at H
                                        have c96b0 : (t327 == t330) = false := by simpa using c96
                                        (try (have c96b1 : decide (t327 = t330) = false := by simpa using c96))
                                        (try (have c96b2 : (t327 == t330) = false := by simpa using c96))
                                        (try (have c96b3 : ¬ (t327 = t330) := by simpa using c96))
                                        clear c96
                                        obtain rfl := Option.some.inj H
                                        go_wp2_with (first | ((with_reducible refine gate_callee (f := 43) rfl ?_); refine goesL_ (some 235) rfl rfl Try.func43 (by kernel_rfl) rfl #[.slice A1 l1.length c1] rfl (by (try simp only [List.map_toArray, List.map_cons, List.map_nil]); first | done | rfl | (simp only [List.length_drop, List.length_take]; rfl)) ?_; (with_reducible refine (spec_DrawTakeFibonacci.calls kj85 _ _ l1 t324 _ ?side1 ?side2 A93.out).mono ?_); (case side1 => repeat (first | exact (Kd.C_below HR1.out HB.out) | (with_reducible refine Kd.C_alloc ?_ _) | (with_reducible refine Kd.C_drewN ?_ _) | (with_reducible refine Kd.C_drew ?_))); (case side2 => exact HC1.out); rintro e w104 ⟨rfl, hb⟩; refine ⟨_, rfl, ?_⟩; have n0_ := Aside0.mk (below_step (by repeat (first | (with_reducible first | exact HB.out | apply below_alloc | apply pw_below_drewN | apply below_drew1) | exact HB.out)) hb); clear HB; have HB := n0_; clear n0_; (try clear hb); (try clear hb2); (try clear hk); (try clear hi)) | ((with_reducible refine gate_callee (f := 42) rfl ?_); refine goesL_ (some 238) rfl rfl Try.func42 (by kernel_rfl) rfl #[.string t324] rfl (by (try simp only [List.map_toArray, List.map_cons, List.map_nil]); first | done | rfl | (simp only [List.length_drop, List.length_take]; rfl)) ?_; (with_reducible refine (impl_TakeFibonacci.calls kj85 t324 t325 t326 t327 _ (HG.out.here (by repeat (first | (with_reducible first | exact HB.out | apply below_alloc | apply pw_below_drewN | apply below_drew1) | exact HB.out))) A94.out).mono ?_); rintro e w105 ⟨rfl, hb⟩; refine ⟨_, rfl, ?_⟩; have n0_ := Aside0.mk (below_step (by repeat (first | (with_reducible first | exact HB.out | apply below_alloc | apply pw_below_drewN | apply below_drew1) | exact HB.out)) hb); clear HB; have HB := n0_; clear n0_; (try clear hb); (try clear hb2); (try clear hk); (try clear hi)) | ((with_reducible refine gate_callee (f := 44) rfl ?_); refine goesL_ (some 244) rfl rfl Try.func44 (by kernel_rfl) rfl #[.string t324] rfl (by (try simp only [List.map_toArray, List.map_cons, List.map_nil]); first | done | rfl | (simp only [List.length_drop, List.length_take]; rfl)) ?_; (with_reducible refine (spec_TakeFibonacci.calls kj85 t324 t328 t329 t330 _ A95.out).mono ?_); rintro e w106 ⟨rfl, hb⟩; refine ⟨_, rfl, ?_⟩; have n0_ := Aside0.mk (below_step (by repeat (first | (with_reducible first | exact HB.out | apply below_alloc | apply pw_below_drewN | apply below_drew1) | exact HB.out)) hb); clear HB; have HB := n0_; clear n0_; (try clear hb); (try clear hb2); (try clear hk); (try clear hi)))
                                        go_ret
                                        exact ⟨by first | rfl | (simp [errW_none, errW_some] <;> rfl) | (simp [*, errW_none, errW_some] <;> rfl), by repeat (first | (with_reducible first | exact HB.out | apply below_alloc | apply pw_below_drewN | apply below_drew1) | exact HB.out)⟩
                              · rw [if_neg c83] at H
                                exact absurd H (by simp)
                            · replace c82 := Bool.eq_false_iff.mpr c82
                              subst c82
                              have H1 : ((spec_DrawTakeFibonacci.f kj75 l1).bind fun t331 => ((impl_TakeFibonacci.f kj75 t331).bind fun bt332 => ((spec_TakeFibonacci.f kj75 t331).bind fun bt335 => (if (bt332.2.2 == bt335.2.2) = true then (if bt332.1 = bt335.1 then (some (bt332.2.1 == bt335.2.1)) else (some false)) else (some false))))) = some r := by rw [if_neg (show ¬ (false = true) by decide)] at H; exact H
                              clear H
                              have H := H1
                              clear H1
                              replace H := Option.bind_eq_some_iff.mp H
                              obtain ⟨t331, A1070, H⟩ := H
                              replace H : ((impl_TakeFibonacci.f kj75 t331).bind fun bt332 => ((spec_TakeFibonacci.f kj75 t331).bind fun bt335 => (if (bt332.2.2 == bt335.2.2) = true then (if bt332.1 = bt335.1 then (some (bt332.2.1 == bt335.2.1)) else (some false)) else (some false)))) = some r := H
                              have A107 := Aside0.mk A1070
                              clear A1070
                              replace H := Option.bind_eq_some_iff.mp H
                              obtain ⟨⟨t332, t333, t334⟩, A1080, H⟩ := H
                              replace H : ((spec_TakeFibonacci.f kj75 t331).bind fun bt335 => (if (t334 == bt335.2.2) = true then (if t332 = bt335.1 then (some (t333 == bt335.2.1)) else (some false)) else (some false))) = some r := H
                              have A108 := Aside0.mk A1080
                              clear A1080
                              replace H := Option.bind_eq_some_iff.mp H
                              obtain ⟨⟨t335, t336, t337⟩, A1090, H⟩ := H
                              replace H : (if (t334 == t337) = true then (if t332 = t335 then (some (t333 == t336)) else (some false)) else (some false)) = some r := H
                              have A109 := Aside0.mk A1090
                              clear A1090
                              by_cases c110 : (t334 == t337) = true
                              · rw [if_pos c110] at H
                                have c110b0 : (t334 == t337) = true := c110
                                (try (have c110b1 : decide (t334 = t337) = true := by simpa using c110))
                                (try (have c110b2 : (t334 == t337) = true := by simpa using c110))
                                clear c110
                                by_cases c111 : t332 = t335
                                · rw [if_pos c111] at H
                                  have c111b0 : (t332 == t335) = true := beq_iff_eq.mpr c111
                                  have c111b1 : (t332 != t335) = false := bne_eq_false_iff_eq.mpr c111
                                  clear c111
                                  obtain rfl := Option.some.inj H
                                  go_wp2_with (first | ((with_reducible refine gate_callee (f := 43) rfl ?_); refine goesL_ (some 235) rfl rfl Try.func43 (by kernel_rfl) rfl #[.slice A1 l1.length c1] rfl (by (try simp only [List.map_toArray, List.map_cons, List.map_nil]); first | done | rfl | (simp only [List.length_drop, List.length_take]; rfl)) ?_; (with_reducible refine (spec_DrawTakeFibonacci.calls kj75 _ _ l1 t331 _ ?side1 ?side2 A107.out).mono ?_); (case side1 => repeat (first | exact (Kd.C_below HR1.out HB.out) | (with_reducible refine Kd.C_alloc ?_ _) | (with_reducible refine Kd.C_drewN ?_ _) | (with_reducible refine Kd.C_drew ?_))); (case side2 => exact HC1.out); rintro e w112 ⟨rfl, hb⟩; refine ⟨_, rfl, ?_⟩; have n0_ := Aside0.mk (below_step (by repeat (first | (with_reducible first | exact HB.out | apply below_alloc | apply pw_below_drewN | apply below_drew1) | exact HB.out)) hb); clear HB; have HB := n0_; clear n0_; (try clear hb); (try clear hb2); (try clear hk); (try clear hi)) | ((with_reducible refine gate_callee (f := 42) rfl ?_); refine goesL_ (some 238) rfl rfl Try.func42 (by kernel_rfl) rfl #[.string t331] rfl (by (try simp only [List.map_toArray, List.map_cons, List.map_nil]); first | done | rfl | (simp only [List.length_drop, List.length_take]; rfl)) ?_; (with_reducible refine (impl_TakeFibonacci.calls kj75 t331 t332 t333 t334 _ (HG.out.here (by repeat (first | (with_reducible first | exact HB.out | apply below_alloc | apply pw_below_drewN | apply below_drew1) | exact HB.out))) A108.out).mono ?_); rintro e w113 ⟨rfl, hb⟩; refine ⟨_, rfl, ?_⟩; have n0_ := Aside0.mk (below_step (by repeat (first | (with_reducible first | exact HB.out | apply below_alloc | apply pw_below_drewN | apply below_drew1) | exact HB.out)) hb); clear HB; have HB := n0_; clear n0_; (try clear hb); (try clear hb2); (try clear hk); (try clear hi)) | ((with_reducible refine gate_callee (f := 44) rfl ?_); refine goesL_ (some 244) rfl rfl Try.func44 (by kernel_rfl) rfl #[.string t331] rfl (by (try simp only [List.map_toArray, List.map_cons, List.map_nil]); first | done | rfl | (simp only [List.length_drop, List.length_take]; rfl)) ?_; (with_reducible refine (spec_TakeFibonacci.calls kj75 t331 t335 t336 t337 _ A109.out).mono ?_); rintro e w114 ⟨rfl, hb⟩; refine ⟨_, rfl, ?_⟩; have n0_ := Aside0.mk (below_step (by repeat (first | (with_reducible first | exact HB.out | apply below_alloc | apply pw_below_drewN | apply below_drew1) | exact HB.out)) hb); clear HB; have HB := n0_; clear n0_; (try clear hb); (try clear hb2); (try clear hk); (try clear hi)))
                                  go_ret
                                  exact ⟨by first | rfl | (simp [errW_none, errW_some] <;> rfl) | (simp [*, errW_none, errW_some] <;> rfl), by repeat (first | (with_reducible first | exact HB.out | apply below_alloc | apply pw_below_drewN | apply below_drew1) | exact HB.out)⟩
                                · rw [if_neg c111] at H
                                  have c111b0 : (t332 == t335) = false := beq_eq_false_iff_ne.mpr c111
                                  have c111b1 : (t332 != t335) = true := bne_iff_ne.mpr c111
                                  obtain rfl := Option.some.inj H
                                  go_wp2_with (first | ((with_reducible refine gate_callee (f := 43) rfl ?_); refine goesL_ (some 235) rfl rfl Try.func43 (by kernel_rfl) rfl #[.slice A1 l1.length c1] rfl (by (try simp only [List.map_toArray, List.map_cons, List.map_nil]); first | done | rfl | (simp only [List.length_drop, List.length_take]; rfl)) ?_; (with_reducible refine (spec_DrawTakeFibonacci.calls kj75 _ _ l1 t331 _ ?side1 ?side2 A107.out).mono ?_); (case side1 => repeat (first | exact (Kd.C_below HR1.out HB.out) | (with_reducible refine Kd.C_alloc ?_ _) | (with_reducible refine Kd.C_drewN ?_ _) | (with_reducible refine Kd.C_drew ?_))); (case side2 => exact HC1.out); rintro e w115 ⟨rfl, hb⟩; refine ⟨_, rfl, ?_⟩; have n0_ := Aside0.mk (below_step (by repeat (first | (with_reducible first | exact HB.out | apply below_alloc | apply pw_below_drewN | apply below_drew1) | exact HB.out)) hb); clear HB; have HB := n0_; clear n0_; (try clear hb); (try clear hb2); (try clear hk); (try clear hi)) | ((with_reducible refine gate_callee (f := 42) rfl ?_); refine goesL_ (some 238) rfl rfl Try.func42 (by kernel_rfl) rfl #[.string t331] rfl (by (try simp only [List.map_toArray, List.map_cons, List.map_nil]); first | done | rfl | (simp only [List.length_drop, List.length_take]; rfl)) ?_; (with_reducible refine (impl_TakeFibonacci.calls kj75 t331 t332 t333 t334 _ (HG.out.here (by repeat (first | (with_reducible first | exact HB.out | apply below_alloc | apply pw_below_drewN | apply below_drew1) | exact HB.out))) A108.out).mono ?_); rintro e w116 ⟨rfl, hb⟩; refine ⟨_, rfl, ?_⟩; have n0_ := Aside0.mk (below_step (by repeat (first | (with_reducible first | exact HB.out | apply below_alloc | apply pw_below_drewN | apply below_drew1) | exact HB.out)) hb); clear HB; have HB := n0_; clear n0_; (try clear hb); (try clear hb2); (try clear hk); (try clear hi)) | ((with_reducible refine gate_callee (f := 44) rfl ?_); refine goesL_ (some 244) rfl rfl Try.func44 (by kernel_rfl) rfl #[.string t331] rfl (by (try simp only [List.map_toArray, List.map_cons, List.map_nil]); first | done | rfl | (simp only [List.length_drop, List.length_take]; rfl)) ?_; (with_reducible refine (spec_TakeFibonacci.calls kj75 t331 t335 t336 t337 _ A109.out).mono ?_); rintro e w117 ⟨rfl, hb⟩; refine ⟨_, rfl, ?_⟩; have n0_ := Aside0.mk (below_step (by repeat (first | (with_reducible first | exact HB.out | apply below_alloc | apply pw_below_drewN | apply below_drew1) | exact HB.out)) hb); clear HB; have HB := n0_; clear n0_; (try clear hb); (try clear hb2); (try clear hk); (try clear hi)))
                                  go_ret
                                  exact ⟨by first | rfl | (simp [errW_none, errW_some] <;> rfl) | (simp [*, errW_none, errW_some] <;> rfl), by repeat (first | (with_reducible first | exact HB.out | apply below_alloc | apply pw_below_drewN | apply below_drew1) | exact HB.out)⟩
                              · rw [if_neg c110] at H
                                have c110b0 : (t334 == t337) = false := by simpa using c110
                                (try (have c110b1 : decide (t334 = t337) = false := by simpa using c110))
                                (try (have c110b2 : (t334 == t337) = false := by simpa using c110))
                                (try (have c110b3 : ¬ (t334 = t337) := by simpa using c110))
                                clear c110
                                obtain rfl := Option.some.inj H
                                go_wp2_with (first | ((with_reducible refine gate_callee (f := 43) rfl ?_); refine goesL_ (some 235) rfl rfl Try.func43 (by kernel_rfl) rfl #[.slice A1 l1.length c1] rfl (by (try simp only [List.map_toArray, List.map_cons, List.map_nil]); first | done | rfl | (simp only [List.length_drop, List.length_take]; rfl)) ?_; (with_reducible refine (spec_DrawTakeFibonacci.calls kj75 _ _ l1 t331 _ ?side1 ?side2 A107.out).mono ?_); (case side1 => repeat (first | exact (Kd.C_below HR1.out HB.out) | (with_reducible refine Kd.C_alloc ?_ _) | (with_reducible refine Kd.C_drewN ?_ _) | (with_reducible refine Kd.C_drew ?_))); (case side2 => exact HC1.out); rintro e w118 ⟨rfl, hb⟩; refine ⟨_, rfl, ?_⟩; have n0_ := Aside0.mk (below_step (by repeat (first | (with_reducible first | exact HB.out | apply below_alloc | apply pw_below_drewN | apply below_drew1) | exact HB.out)) hb); clear HB; have HB := n0_; clear n0_; (try clear hb); (try clear hb2); (try clear hk); (try clear hi)) | ((with_reducible refine gate_callee (f := 42) rfl ?_); refine goesL_ (some 238) rfl rfl Try.func42 (by kernel_rfl) rfl #[.string t331] rfl (by (try simp only [List.map_toArray, List.map_cons, List.map_nil]); first | done | rfl | (simp only [List.length_drop, List.length_take]; rfl)) ?_; (with_reducible refine (impl_TakeFibonacci.calls kj75 t331 t332 t333 t334 _ (HG.out.here (by repeat (first | (with_reducible first | exact HB.out | apply below_alloc | apply pw_below_drewN | apply below_drew1) | exact HB.out))) A108.out).mono ?_); rintro e w119 ⟨rfl, hb⟩; refine ⟨_, rfl, ?_⟩; have n0_ := Aside0.mk (below_step (by repeat (first | (with_reducible first | exact HB.out | apply below_alloc | apply pw_below_drewN | apply below_drew1) | exact HB.out)) hb); clear HB; have HB := n0_; clear n0_; (try clear hb); (try clear hb2); (try clear hk); (try clear hi)) | ((with_reducible refine gate_callee (f := 44) rfl ?_); refine goesL_ (some 244) rfl rfl Try.func44 (by kernel_rfl) rfl #[.string t331] rfl (by (try simp only [List.map_toArray, List.map_cons, List.map_nil]); first | done | rfl | (simp only [List.length_drop, List.length_take]; rfl)) ?_; (with_reducible refine (spec_TakeFibonacci.calls kj75 t331 t335 t336 t337 _ A109.out).mono ?_); rintro e w120 ⟨rfl, hb⟩; refine ⟨_, rfl, ?_⟩; have n0_ := Aside0.mk (below_step (by repeat (first | (with_reducible first | exact HB.out | apply below_alloc | apply pw_below_drewN | apply below_drew1) | exact HB.out)) hb); clear HB; have HB := n0_; clear n0_; (try clear hb); (try clear hb2); (try clear hk); (try clear hi)))
                                go_ret
                                exact ⟨by first | rfl | (simp [errW_none, errW_some] <;> rfl) | (simp [*, errW_none, errW_some] <;> rfl), by repeat (first | (with_reducible first | exact HB.out | apply below_alloc | apply pw_below_drewN | apply below_drew1) | exact HB.out)⟩

/-- THE ONE PURE STATEMENT of laws_FnZeckendorf: yours. -/
def laws_FnZeckendorf.Pure : Prop := ∀ (l0 : List Int) (l1 : List Int), l0.length ≤ maxLen → l0.length * 1 ≤ 140737488351232 → (∀ x ∈ l0, (Lit.int .u8 x).wf = true) → l1.length ≤ maxLen → l1.length * 1 ≤ 140737488351232 → (∀ x ∈ l1, (Lit.int .u8 x).wf = true) → ∃ k, laws_FnZeckendorf.f k l0 l1 = some true
theorem laws_FnZeckendorf.walk (P : laws_FnZeckendorf.Pure) (a0 : Option Addr) (len0 cap0 : Nat) (z0 : List Int) (a1 : Option Addr) (len1 cap1 : Nat) (z1 : List Int) (w : World) (w0 : (a0 = none ∧ len0 = 0 ∧ cap0 = 0 ∧ z0 = []) ∨ ∃ x, a0 = some x ∧ len0 ≤ cap0 ∧ cap0 ≤ maxLen ∧ z0.length = cap0 ∧ (∀ i, i < z0.length → w.cell? (x.add i) = some (.int .u8 (z0.getD i 0))) ∧ ∀ n ∈ z0, (Lit.int .u8 n).wf = true) (y0 : len0 * 1 ≤ 140737488351232) (w1 : (a1 = none ∧ len1 = 0 ∧ cap1 = 0 ∧ z1 = []) ∨ ∃ x, a1 = some x ∧ len1 ≤ cap1 ∧ cap1 ≤ maxLen ∧ z1.length = cap1 ∧ (∀ i, i < z1.length → w.cell? (x.add i) = some (.int .u8 (z1.getD i 0))) ∧ ∀ n ∈ z1, (Lit.int .u8 n).wf = true) (y1 : len1 * 1 ≤ 140737488351232) (hG : GInt w) :
    Calls Try.prog 5 #[.slice a0 len0 cap0, .slice a1 len1 cap1] w fun e w' => e = .returned (.bool true) ∧ Below w.heap.size w w' := by
  obtain ⟨l0, rfl, hr0, hm0, hw0, hc0⟩ := ReadsInt.ofRowC w0
  obtain ⟨l1, rfl, hr1, hm1, hw1, hc1⟩ := ReadsInt.ofRowC w1
  obtain ⟨k, h⟩ := P l0 l1 hm0 y0 hw0 hm1 y1 hw1
  refine (laws_FnZeckendorf.calls k _ _ l0 _ _ l1 true w (Kd.C_of_reads (d := (0 : Int)) (h1 := fun _ => rfl) hr0) hc0 (Kd.C_of_reads (d := (0 : Int)) (h1 := fun _ => rfl) hr1) hc1 hG h).mono ?_
  rintro e w' ⟨rfl, hd⟩
  exact ⟨rfl, hd⟩

end Go.Proofs.Ytgdjjghdjpaofaa.PFnZeckendorf

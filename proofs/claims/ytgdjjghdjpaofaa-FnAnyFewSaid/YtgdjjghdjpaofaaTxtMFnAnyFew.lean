/-
  Equal matrices, equal shards: the law's tests tell so. No conditions beyond those that each lemma names.
-/
import Derived.Test.YtgdjjghdjpaofaaTxtFnAnyFew
namespace Go.Proofs.Ytgdjjghdjpaofaa.PureFnAnyFew
open Go.RowKit Go.Proofs.Ytgdjjghdjpaofaa.PFnAnyFew Go.Proofs.YtgdjjghdjpaofaaW.PrintWords Go.Proofs.YtgdjjghdjpaofaaW.PrintLast Go.Proofs.YtgdjjghdjpaofaaW.PrintMore Go.Proofs.Ytgdjjghdjpaofaa.GF
set_option linter.unusedVariables false
set_option linter.unusedSimpArgs false

theorem sameMatrices_loop (R : List (List Int)) (hl : R.length ≤ 1000000) : ∀ (d i : Nat), d + i = R.length → Ev (fun k => laws_sameMatrices.l0 k (R.length : Int) (i : Int) R R) true
  | 0, i, h => Ev.step (f := fun _ => some true) (fun k => by simp only [laws_sameMatrices.l0]; rw [if_neg (by omega)]) (Ev.now _)
  | d + 1, i, h => by
    refine Ev.step (fun k => ?_) (sameMatrices_loop R hl d (i + 1) (by omega))
    simp only [laws_sameMatrices.l0]
    rw [if_pos (by omega), if_pos (by omega), if_pos (by omega), if_pos (by omega)]
    unfold laws_sameBytes.f
    rw [Option.bind_some, beq_self_eq_true, if_pos rfl, v64 (by omega) (by omega)]; rfl
theorem sameMatrices_ok (R : List (List Int)) (hl : R.length ≤ 1000000) : Ev (fun k => laws_sameMatrices.f k R R) true := by
  refine (sameMatrices_loop R hl R.length 0 (by omega)).congr fun k => ?_
  unfold laws_sameMatrices.f
  rw [if_pos rfl]; rfl
end Go.Proofs.Ytgdjjghdjpaofaa.PureFnAnyFew

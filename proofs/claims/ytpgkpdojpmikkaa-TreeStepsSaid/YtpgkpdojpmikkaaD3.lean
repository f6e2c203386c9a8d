/-
  The walk of TreeSteps, and its row: it answers true, whatever the lists and the act.
-/
import Derived.Test.YtpgkpdojpmikkaaD0
set_option linter.unusedVariables false
set_option linter.unusedSimpArgs false
set_option maxRecDepth 100000
namespace Go.Proofs.Ytpgkpdojpmikkaa.Eng
open Go Go.Proofs

set_option maxHeartbeats 4000000 in
theorem c3 (t u : List B) (x : Ac) : PureC Try.prog 3 [tl t, tl u, x.av] (.bool true) := by
  refine fun_ok Try.func3 a3_ok (by simp [a3]) ?_
  by_cases hl : (60 : Int) < t.length
  · simp [a3, Ac.row, hl]
    refine callP c12 (by simp) ?_
    simp
  · by_cases hu : (60 : Int) < u.length
    · simp [a3, Ac.row, hl, hu]
      refine callP c12 (by simp) ?_
      simp
    · have ht : t.length ≤ 1000000 := by omega
      have hu' : u.length ≤ 1000000 := by omega
      have hb : t.length * 32 ≤ 140737488355328 := by omega
      have hw0 : IntKind.i64.wrap 0 = 0 := by decide
      have hml : (modelS t x).1.length ≤ 1000000 := by
        have := modelS_len (t := t) (x := x) (by omega)
        omega
      by_cases hn : t = []
      · subst hn
        simp [a3, Ac.row, hu]
        refine callP (c13 [] x (by decide)) (by simp [Ac.row]) ?_
        simp [hw0]
        refine callP (c14 [] x (by decide)) (by simp [Ac.row]) ?_
        simp [hw0]
        refine callP (c15 (modelS [] x).1 (modelS [] x).1 hml) (by simp) ?_
        simp [hw0]
        refine callP (c17 [] (by decide)) (by simp) ?_
        simp [hw0]
        refine callP (c16 (if isT [] then 0 else 2)) (by simp) ?_
        simp [hw0]
        refine callP (c18 [] (by decide)) (by simp) ?_
        simp [hw0]
        refine callP (c19 [] u (by decide)) (by simp) ?_
        simp [hw0]
        refine callP (c15 [] u (by decide)) (by simp) ?_
        simp [hw0]
        refine callP (c15 [] [] (by decide)) (by simp) ?_
        simp [hw0]
        refine callP c12 (by simp) ?_
        simp [hw0]
      · cases hT : isT t with
        | false =>
          simp [a3, Ac.row, hl, hu, hb, hn]
          refine callP (c13 t x ht) (by simp [Ac.row]) ?_
          simp [hw0, hT]
          refine callP (c14 t x ht) (by simp [Ac.row]) ?_
          simp [hw0, hT]
          refine callP (c15 (modelS t x).1 (modelS t x).1 hml) (by simp) ?_
          simp [hw0, hT]
          refine callP (c17 t ht) (by simp) ?_
          simp [hw0, hT]
          refine callP (c16 2) (by simp) ?_
          simp [hw0, hT]
          refine callP (c18 t ht) (by simp) ?_
          simp [hw0, hT]
          refine callP (c19 t u ht) (by simp) ?_
          simp [hw0, hT]
          refine callP (c15 t u ht) (by simp) ?_
          simp [hw0, hT]
          refine callP (c15 t t ht) (by simp [fz]) ?_
          simp [hw0, hT]
          refine callP c12 (by simp) ?_
          simp [hw0, hT]
        | true =>
          simp [a3, Ac.row, hl, hu, hb, hn]
          refine callP (c13 t x ht) (by simp [Ac.row]) ?_
          simp [hw0, hT]
          refine callP (c14 t x ht) (by simp [Ac.row]) ?_
          simp [hw0, hT]
          refine callP (c15 (modelS t x).1 (modelS t x).1 hml) (by simp) ?_
          simp [hw0, hT]
          refine callP (c17 t ht) (by simp) ?_
          simp [hw0, hT]
          refine callP (c16 0) (by simp) ?_
          simp [hw0, hT]
          refine callP (c18 t ht) (by simp) ?_
          simp [hw0, hT]
          refine callP (c19 t u ht) (by simp) ?_
          simp [hw0, hT]
          refine callP (c15 t u ht) (by simp) ?_
          simp [hw0, hT]
          refine callP (c15 t t ht) (by simp [fz]) ?_
          simp [hw0, hT]
          refine callP c12 (by simp) ?_
          simp [hw0, hT]

end Go.Proofs.Ytpgkpdojpmikkaa.Eng
namespace Go.Proofs.Ytpgkpdojpmikkaa
open Go.ChangeShapes Go.WideShapes Go.ChangeAt Go.RowKit Go.Proofs.Ytpgkpdojpmikkaa.Eng

theorem TreeSteps_lifted (os : Os) (started : os.Started) (H : Type) (enc : TypeId × Value → H) :
    ReturnsInHanded {} Try.checked os 3 .any (Rows.treeStepsSpec.pre6 enc Try.prog Try.f3 Rows.treeStepsRow.domain false) (Rows.treeStepsSpec.post enc Try.prog Try.f3 false true false false) := by
  refine law_lifted (C := Try.checked) 8 4 ow started (by kernel_rfl) Try.func3 lo (by kernel_rfl) (by kernel_rfl) u4 rfl ?_
    (ChangeSpec.witness6 (enc := enc) (C := Try.checked) false ⟨#[], #[.slice none 0 0, .slice none 0 0, .agg #[.int .i64 0, .int .i64 0, .int .i64 0, .int .i64 0, .int .i64 0, .bool false]], []⟩ 8 (by kernel_rfl) (by kernel_rfl) (by kernel_rfl) (by kernel_rfl)) ?_
  · intro ds hd
    rw [show Try.f3.params.toList.length = 3 by kernel_rfl] at hd
    match ds, hd with
    | [d1, d2, d3], _ => rfl
  · intro l hl
    rw [show Try.f3.params.toList = [22, 22, 26] by kernel_rfl] at hl
    obtain ⟨x1, l, rfl, h1, hl⟩ := hl.cons
    obtain ⟨x2, l, rfl, h2, hl⟩ := hl.cons
    obtain ⟨x3, l, rfl, h3, hl⟩ := hl.cons
    obtain rfl := hl.nil
    obtain ⟨x1, rfl⟩ := sA22 h1
    obtain ⟨x2, rfl⟩ := sA22 h2
    obtain ⟨x3, rfl⟩ := sA26 h3
    exact c3 x1 x2 x3

/-- TreeSteps answers true, whatever it is given, and what it is given reads as before. -/
theorem TreeSteps_holds : Rows.TreeStepsSaid :=
  OpenClaim.holds_of_wide 3 Try.f3 rfl rfl rfl rfl rfl rfl rfl ⟨rfl, rfl, rfl, rfl, rfl⟩ rfl rfl rfl rfl rfl (by kernel_rfl) Try.func3 (by kernel_rfl)
    (of_decide_eq_true (by kernel_rfl)) (by unfold Func.isWrapper; rw [if_neg (by decide +kernel)]; exact ⟨rfl, rfl⟩)
    (fun os started H enc _ => TreeSteps_lifted os started H enc)
#print axioms TreeSteps_holds
end Go.Proofs.Ytpgkpdojpmikkaa

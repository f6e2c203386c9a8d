/-
  The walk of TreeTells: it answers true, whatever the list and the keys.
-/
import Derived.Test.YtpgkpdojpmikkaaD0
set_option linter.unusedVariables false
set_option linter.unusedSimpArgs false
set_option maxRecDepth 100000
namespace Go.Proofs.Ytpgkpdojpmikkaa.Eng
open Go Go.Proofs

set_option maxHeartbeats 4000000 in
theorem c4 (t : List B) (a b : K) : PureC Try.prog 4 [tl t, a.av, b.av] (.bool true) := by
  refine fun_ok Try.func4 a4_ok (by simp [a4]) ?_
  by_cases hl : (60 : Int) < t.length
  · simp [a4, K.row, hl]
    refine callP c12 (by simp) ?_
    simp
  · have ht : t.length ≤ 1000000 := by omega
    simp [a4, K.row, hl]
    refine callP (c20 t a ht) (by simp [K.row]) ?_
    simp
    refine callP (c21 t a ht) (by simp [K.row]) ?_
    simp
    refine callP (c22 t a ht) (by simp [K.row]) ?_
    simp [K.row]
    refine callP (c23 t a ht) (by simp [K.row]) ?_
    simp [K.row]
    refine callP (c25 t a ht) (by simp [K.row]) ?_
    simp [K.row]
    refine callP (c26 t a ht) (by simp [K.row]) ?_
    simp [K.row]
    refine callP (c24 (below t a) (below t a) (Nat.le_trans (below_len t a) ht)) (by simp [K.row]) ?_
    simp [K.row]
    refine callP (c27 t a b ht) (by simp [K.row]) ?_
    simp [K.row]
    refine callP (c28 t a b ht) (by simp [K.row]) ?_
    simp [K.row]
    refine callP c12 (by simp) ?_
    simp

end Go.Proofs.Ytpgkpdojpmikkaa.Eng
namespace Go.Proofs.Ytpgkpdojpmikkaa
open Go.ChangeShapes Go.WideShapes Go.ChangeAt Go.RowKit Go.Proofs.Ytpgkpdojpmikkaa.Eng

theorem TreeTells_lifted (os : Os) (started : os.Started) (H : Type) (enc : TypeId × Value → H) :
    ReturnsInHanded {} Try.checked os 4 .any (Rows.treeTellsSpec.pre6 enc Try.prog Try.f4 Rows.treeTellsRow.domain false) (Rows.treeTellsSpec.post enc Try.prog Try.f4 false true false false) := by
  refine law_lifted (C := Try.checked) 8 4 ow started (by kernel_rfl) Try.func4 lo (by kernel_rfl) (by kernel_rfl) u4 rfl ?_
    (ChangeSpec.witness6 (enc := enc) (C := Try.checked) false ⟨#[], #[.slice none 0 0, .agg #[.int .i64 0, .int .i64 0], .agg #[.int .i64 0, .int .i64 0]], []⟩ 8 (by kernel_rfl) (by kernel_rfl) (by kernel_rfl) (by kernel_rfl)) ?_
  · intro ds hd
    rw [show Try.f4.params.toList.length = 3 by kernel_rfl] at hd
    match ds, hd with
    | [d1, d2, d3], _ => rfl
  · intro l hl
    rw [show Try.f4.params.toList = [22, 24, 24] by kernel_rfl] at hl
    obtain ⟨x1, l, rfl, h1, hl⟩ := hl.cons
    obtain ⟨x2, l, rfl, h2, hl⟩ := hl.cons
    obtain ⟨x3, l, rfl, h3, hl⟩ := hl.cons
    obtain rfl := hl.nil
    obtain ⟨x1, rfl⟩ := sA22 h1
    obtain ⟨x2, rfl⟩ := sA24 h2
    obtain ⟨x3, rfl⟩ := sA24 h3
    exact c4 x1 x2 x3

/-- TreeTells answers true, whatever it is given, and what it is given reads as before. -/
theorem TreeTells_holds : Rows.TreeTellsSaid :=
  OpenClaim.holds_of_wide 4 Try.f4 rfl rfl rfl rfl rfl rfl rfl ⟨rfl, rfl, rfl, rfl, rfl⟩ rfl rfl rfl rfl rfl (by kernel_rfl) Try.func4 (by kernel_rfl)
    (of_decide_eq_true (by kernel_rfl)) (by unfold Func.isWrapper; rw [if_neg (by decide +kernel)]; exact ⟨rfl, rfl⟩)
    (fun os started H enc _ => TreeTells_lifted os started H enc)
#print axioms TreeTells_holds
end Go.Proofs.Ytpgkpdojpmikkaa

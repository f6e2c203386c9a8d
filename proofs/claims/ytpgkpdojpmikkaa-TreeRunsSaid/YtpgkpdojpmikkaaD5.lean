/-
  The walk of TreeRuns, and its row: it answers true, whatever the acts.
-/
import Derived.Test.YtpgkpdojpmikkaaD0
import Derived.Test.YtpgkpdojpmikkaaP1
set_option linter.unusedVariables false
set_option linter.unusedSimpArgs false
set_option maxRecDepth 100000
namespace Go.Proofs.Ytpgkpdojpmikkaa.Eng
open Go Go.Proofs

set_option maxHeartbeats 4000000 in
theorem c5 (l : List Ac) : PureC Try.prog 5 [al l] (.bool true) := by
  have hw0 : IntKind.i64.wrap 0 = 0 := by decide
  refine fun_ok Try.func5 a5_ok (by simp [a5]) ?_
  by_cases hl : (60 : Int) < l.length
  · simp [a5, hl]
    refine callP c12 (by simp) ?_
    simp
  · simp [a5, hl]
    refine awp_loop (fun n s => ∃ i, i ≤ l.length ∧ n = l.length - i ∧ s.e 0 = al l ∧ s.e 5 = iv i ∧ (∃ f, s.e 3 = .sl 4 f ((grownS (l.take i)).map B.row)) ∧ ∃ f, s.e 4 = .sl 4 f ((grownS (l.take i)).map B.row)) l.length ?_ ?_
    · refine ⟨0, ?_⟩
      simp [grownS]
    · rintro n ⟨e, m, nx⟩ ⟨i, hi, rfl, h0, h5, ⟨f, h3⟩, g, h4⟩
      simp only at h0 h5 h3 h4
      by_cases hlt : i < l.length
      · have hb := List.getElem?_eq_getElem hlt
        have hw := wrap64 (n := (i : Int) + 1) (by omega) (by omega)
        have hT := isT_grown (l.take (i + 1))
        have hn := grownS_len (l.take (i + 1))
        have hm := grownS_len (l.take i)
        have hT' := hT
        rw [grownS_succ hlt] at hT' hn
        simp [h0, h3, h4, h5, hlt, hb, Ac.row]
        refine callP (c13 (grownS (l.take i)) l[i] (by omega)) (by simp [Ac.row]) ?_
        simp [h0, h3, h4, h5, hlt, hb, Ac.row]
        refine callP (c14 (grownS (l.take i)) l[i] (by omega)) (by simp [Ac.row]) ?_
        simp [hw0]
        refine callP (c15 (modelS (grownS (l.take i)) l[i]).1 (modelS (grownS (l.take i)) l[i]).1 (by omega)) (by simp) ?_
        simp [hw0]
        refine callP (c17 (modelS (grownS (l.take i)) l[i]).1 (by omega)) (by simp) ?_
        simp [hw0, hT']
        refine callP (c16 0) (by simp) ?_
        simp [hw0, hw, h0, h5]
        refine ⟨l.length - (i + 1), by omega, i + 1, by omega, rfl, rfl, ?_⟩
        rw [grownS_succ hlt]
      · simp [h0, h3, h4, h5, hlt]
        refine callP c12 (by simp) ?_
        simp

end Go.Proofs.Ytpgkpdojpmikkaa.Eng
namespace Go.Proofs.Ytpgkpdojpmikkaa
open Go.ChangeShapes Go.WideShapes Go.ChangeAt Go.RowKit Go.Proofs.Ytpgkpdojpmikkaa.Eng

theorem TreeRuns_lifted (os : Os) (started : os.Started) (H : Type) (enc : TypeId × Value → H) :
    ReturnsInHanded {} Try.checked os 5 .any (Rows.treeRunsSpec.pre6 enc Try.prog Try.f5 Rows.treeRunsRow.domain false) (Rows.treeRunsSpec.post enc Try.prog Try.f5 false true false false) := by
  refine law_lifted (C := Try.checked) 8 4 ow started (by kernel_rfl) Try.func5 lo (by kernel_rfl) (by kernel_rfl) u4 rfl ?_
    (ChangeSpec.witness6 (enc := enc) (C := Try.checked) false ⟨#[], #[.slice none 0 0], []⟩ 8 (by kernel_rfl) (by kernel_rfl) (by kernel_rfl) (by kernel_rfl)) ?_
  · intro ds hd
    rw [show Try.f5.params.toList.length = 1 by kernel_rfl] at hd
    match ds, hd with
    | [d1], _ => rfl
  · intro l hl
    rw [show Try.f5.params.toList = [44] by kernel_rfl] at hl
    obtain ⟨x1, l, rfl, h1, hl⟩ := hl.cons
    obtain rfl := hl.nil
    obtain ⟨x1, rfl⟩ := sA44 h1
    exact c5 x1

/-- TreeRuns answers true, whatever it is given, and what it is given reads as before. -/
theorem TreeRuns_holds : Rows.TreeRunsSaid :=
  OpenClaim.holds_of_wide 5 Try.f5 rfl rfl rfl rfl rfl rfl rfl ⟨rfl, rfl, rfl, rfl, rfl⟩ rfl rfl rfl rfl rfl (by kernel_rfl) Try.func5 (by kernel_rfl)
    (of_decide_eq_true (by kernel_rfl)) (by unfold Func.isWrapper; rw [if_neg (by decide +kernel)]; exact ⟨rfl, rfl⟩)
    (fun os started H enc _ => TreeRuns_lifted os started H enc)
#print axioms TreeRuns_holds
end Go.Proofs.Ytpgkpdojpmikkaa

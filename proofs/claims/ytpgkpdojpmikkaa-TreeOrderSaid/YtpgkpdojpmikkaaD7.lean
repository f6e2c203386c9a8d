/-
  The walk of TreeOrder, and its row: it answers true, whatever the acts and the keys.
-/
import Derived.Test.YtpgkpdojpmikkaaD0
import Derived.Test.YtpgkpdojpmikkaaP2
set_option linter.unusedVariables false
set_option linter.unusedSimpArgs false
set_option maxRecDepth 100000
namespace Go.Proofs.Ytpgkpdojpmikkaa.Eng
open Go Go.Proofs

theorem K.bne {a b : K} (h : a ≠ b) : (!a.o == b.o || !a.s == b.s) = true := by
  rw [ne_eq, K.eq_iff] at h
  by_cases h1 : a.o = b.o
  · simp [h1]; exact fun h2 => h ⟨h1, h2⟩
  · simp [h1]
theorem c27T {t : List B} {a b : K} (ht : t.length ≤ 1000000) (h : a ∈ below t b) : PureC Try.prog 27 [tl t, a.av, b.av] (.bool true) := by
  have := c27 t a b ht
  rwa [decide_eq_true h] at this
theorem c27F {t : List B} {a b : K} (ht : t.length ≤ 1000000) (h : a ∉ below t b) : PureC Try.prog 27 [tl t, a.av, b.av] (.bool false) := by
  have := c27 t a b ht
  rwa [decide_eq_false h] at this
theorem c22S {t : List B} {a p : K} (ht : t.length ≤ 1000000) (h : par t a = some p) : PureC Try.prog 22 [tl t, a.av] (.tup [p.av, .bool true]) := by
  have := c22 t a ht
  rwa [h] at this
theorem c22N {t : List B} {a : K} (ht : t.length ≤ 1000000) (h : par t a = none) : PureC Try.prog 22 [tl t, a.av] (.tup [K.av ⟨0, 0⟩, .bool false]) := by
  have := c22 t a ht
  rwa [h] at this
theorem nd_grown (l : List Ac) : ((grownS l).map (·.k)).Nodup := (isT_iff.1 (isT_grown l)).2.1

set_option maxHeartbeats 4000000 in
theorem c7a (l : List Ac) (a b c : K) (hl : ¬ (60 : Int) < l.length) (t : List B) (he : grownS l = t) (ht : t.length ≤ 1000000) (hn : (t.map (·.k)).Nodup) : PureC Try.prog 7 [al l, a.av, b.av, c.av] (.bool true) := by
  refine fun_ok Try.func7 a7_ok (by simp [a7]) ?_
  have e0 : PureC Try.prog 29 [al l] (tl t) := he ▸ c29 l (by omega)
  have e1 : PureC Try.prog 27 [tl t, a.av, a.av] (.bool false) := c27F ht (order1 hn a)
  simp [a7, K.row, hl]
  refine callP e0 (by simp) ?_
  simp [K.row]
  refine callP e1 (by simp [K.row]) ?_
  simp [K.row]
  by_cases hab : a ∈ below t b
  · refine callP (c27T ht hab) (by simp [K.row]) ?_
    simp [K.row]
    refine callP (c27F ht (order2 hn hab)) (by simp [K.row]) ?_
    simp [K.row]
    obtain ⟨p, hp⟩ : ∃ p, par t a = some p := by
      cases hp : par t a with
      | none => exact absurd hab (order4 hn hp)
      | some p => exact ⟨p, rfl⟩
    have tail : ∀ (h : b = p ∨ p ∈ below t b), b = p ∨ (b ≠ p ∧ p ∈ below t b) := fun h => by
      by_cases hbp : b = p
      · exact .inl hbp
      · exact .inr ⟨hbp, h.resolve_left hbp⟩
    by_cases hbc : b ∈ below t c
    · refine callP (c27T ht hbc) (by simp [K.row]) ?_
      simp [K.row]
      refine callP (c27T ht (order3 hn hab hbc)) (by simp [K.row]) ?_
      simp [K.row]
      refine callP (c22S ht hp) (by simp [K.row]) ?_
      simp [K.row]
      refine callP (c27T ht (order5 hn hp)) (by simp [K.row]) ?_
      simp [K.row]
      refine callP (c27T ht hab) (by simp [K.row]) ?_
      simp [K.row]
      rcases tail (order6 hn hp hab) with rfl | ⟨hne, hpb⟩
      · simp [K.row]
        refine callP c12 (by simp) ?_
        simp
      · have hne' := hne
        rw [ne_eq, K.eq_iff] at hne'
        simp [K.row, hne', K.bne hne]
        refine callP (c27T ht hpb) (by simp [K.row]) ?_
        simp [K.row]
        refine callP c12 (by simp) ?_
        simp
    · refine callP (c27F ht hbc) (by simp [K.row]) ?_
      simp [K.row]
      refine callP (c22S ht hp) (by simp [K.row]) ?_
      simp [K.row]
      refine callP (c27T ht (order5 hn hp)) (by simp [K.row]) ?_
      simp [K.row]
      refine callP (c27T ht hab) (by simp [K.row]) ?_
      simp [K.row]
      rcases tail (order6 hn hp hab) with rfl | ⟨hne, hpb⟩
      · simp [K.row]
        refine callP c12 (by simp) ?_
        simp
      · have hne' := hne
        rw [ne_eq, K.eq_iff] at hne'
        simp [K.row, hne', K.bne hne]
        refine callP (c27T ht hpb) (by simp [K.row]) ?_
        simp [K.row]
        refine callP c12 (by simp) ?_
        simp
  · refine callP (c27F ht hab) (by simp [K.row]) ?_
    simp [K.row]
    cases hp : par t a with
    | none =>
      refine callP (c22N ht hp) (by simp [K.row]) ?_
      simp [K.row]
      refine callP (c27F ht hab) (by simp [K.row]) ?_
      simp [K.row]
      refine callP c12 (by simp) ?_
      simp
    | some p =>
      refine callP (c22S ht hp) (by simp [K.row]) ?_
      simp [K.row]
      refine callP (c27T ht (order5 hn hp)) (by simp [K.row]) ?_
      simp [K.row]
      refine callP (c27F ht hab) (by simp [K.row]) ?_
      simp [K.row]
      refine callP c12 (by simp) ?_
      simp

set_option maxHeartbeats 4000000 in
theorem c7 (l : List Ac) (a b c : K) : PureC Try.prog 7 [al l, a.av, b.av, c.av] (.bool true) := by
  by_cases hl : (60 : Int) < l.length
  · refine fun_ok Try.func7 a7_ok (by simp [a7]) ?_
    simp [a7, hl, K.row]
    refine callP c12 (by simp) ?_
    simp
  · exact c7a l a b c hl _ rfl (Nat.le_trans (grownS_len l) (by omega)) (nd_grown l)

end Go.Proofs.Ytpgkpdojpmikkaa.Eng
namespace Go.Proofs.Ytpgkpdojpmikkaa
open Go.ChangeShapes Go.WideShapes Go.ChangeAt Go.RowKit Go.Proofs.Ytpgkpdojpmikkaa.Eng

theorem TreeOrder_lifted (os : Os) (started : os.Started) (H : Type) (enc : TypeId × Value → H) :
    ReturnsInHanded {} Try.checked os 7 .any (Rows.treeOrderSpec.pre6 enc Try.prog Try.f7 Rows.treeOrderRow.domain false) (Rows.treeOrderSpec.post enc Try.prog Try.f7 false true false false) := by
  refine law_lifted (C := Try.checked) 8 4 ow started (by kernel_rfl) Try.func7 lo (by kernel_rfl) (by kernel_rfl) u4 rfl ?_
    (ChangeSpec.witness6 (enc := enc) (C := Try.checked) false ⟨#[], #[.slice none 0 0, .agg #[.int .i64 0, .int .i64 0], .agg #[.int .i64 0, .int .i64 0], .agg #[.int .i64 0, .int .i64 0]], []⟩ 8 (by kernel_rfl) (by kernel_rfl) (by kernel_rfl) (by kernel_rfl)) ?_
  · intro ds hd
    rw [show Try.f7.params.toList.length = 4 by kernel_rfl] at hd
    match ds, hd with
    | [d1, d2, d3, d4], _ => rfl
  · intro l hl
    rw [show Try.f7.params.toList = [44, 24, 24, 24] by kernel_rfl] at hl
    obtain ⟨x1, l, rfl, h1, hl⟩ := hl.cons
    obtain ⟨x2, l, rfl, h2, hl⟩ := hl.cons
    obtain ⟨x3, l, rfl, h3, hl⟩ := hl.cons
    obtain ⟨x4, l, rfl, h4, hl⟩ := hl.cons
    obtain rfl := hl.nil
    obtain ⟨x1, rfl⟩ := sA44 h1
    obtain ⟨x2, rfl⟩ := sA24 h2
    obtain ⟨x3, rfl⟩ := sA24 h3
    obtain ⟨x4, rfl⟩ := sA24 h4
    exact c7 x1 x2 x3 x4

/-- TreeOrder answers true, whatever it is given, and what it is given reads as before. -/
theorem TreeOrder_holds : Rows.TreeOrderSaid :=
  OpenClaim.holds_of_wide 7 Try.f7 rfl rfl rfl rfl rfl rfl rfl ⟨rfl, rfl, rfl, rfl, rfl⟩ rfl rfl rfl rfl rfl (by kernel_rfl) Try.func7 (by kernel_rfl)
    (of_decide_eq_true (by kernel_rfl)) (by unfold Func.isWrapper; rw [if_neg (by decide +kernel)]; exact ⟨rfl, rfl⟩)
    (fun os started H enc _ => TreeOrder_lifted os started H enc)
#print axioms TreeOrder_holds
end Go.Proofs.Ytpgkpdojpmikkaa

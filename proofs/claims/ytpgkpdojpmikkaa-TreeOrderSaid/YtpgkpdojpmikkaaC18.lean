/-
  Contracts: does, grown, live.
-/
import Derived.Test.YtpgkpdojpmikkaaC17
set_option linter.unusedVariables false
set_option linter.unusedSimpArgs false
set_option maxRecDepth 100000
namespace Go.Proofs.Ytpgkpdojpmikkaa.Eng
open Go Go.Proofs

set_option maxHeartbeats 4000000 in
theorem c13 (t : List B) (x : Ac) (ht : t.length ≤ 1000000) : PureC Try.prog 13 [tl t, x.av] (ans (modelS t x)) := by
  refine fun_ok Try.func13 a13_ok (by simp [a13]) ?_
  by_cases h0 : x.kind = 0
  · simp [a13, Ac.row, h0]
    refine callP (c34 h17 t x.a ht) (by simp [K.row]) ?_
    simp
    refine callP (c16 (rootS t x.a).2) (by simp) ?_
    simp [modelS, h0]
  · by_cases h1 : x.kind = 1
    · simp [a13, Ac.row, h1]
      refine callP (c30 h17 t x.a x.b ht) (by simp [K.row]) ?_
      simp
      refine callP (c16 (insS t x.a x.b).2) (by simp) ?_
      simp [modelS, h1]
    · by_cases h2 : x.kind = 2
      · simp [a13, Ac.row, h2]
        refine callP (c31 t x.a ht) (by simp [K.row]) ?_
        simp
        refine callP (c16 (remS t x.a).2) (by simp) ?_
        simp [modelS, h2]
      · by_cases h3 : x.kind = 3
        · simp [a13, Ac.row, h3]
          refine callP (c32 h17 t x.a x.b ht) (by simp [K.row]) ?_
          simp
          refine callP (c16 (movS t x.a x.b).2) (by simp) ?_
          simp [modelS, h3]
        · simp [a13, Ac.row, h0, h1, h2, h3]
          refine callP (c33 h17 t x.a x.on ht) (by simp [K.row]) ?_
          simp
          refine callP (c16 (markS t x.a x.on).2) (by simp) ?_
          simp [modelS, h0, h1, h2, h3]

theorem c40 (n : Int) : PureC Try.prog 40 [iv n] (K.av ⟨n, 0⟩) := by
  refine fun_ok Try.func40 a40_ok (by simp [a40]) ?_
  simp [a40, K.row]

theorem addS_len {t : List B} {i : Nat} {b : B} (h : t.length ≤ 512) : (addS t i b).1.length ≤ 512 := by
  unfold addS
  split
  · exact h
  · split
    · exact h
    · simp; omega
theorem modelS_len {t : List B} {x : Ac} (h : t.length ≤ 512) : (modelS t x).1.length ≤ 512 := by
  unfold modelS
  split
  · unfold rootS; split
    · exact addS_len h
    · exact h
  split
  · unfold insS; split
    · split
      · exact h
      · exact addS_len h
    · exact h
  split
  · unfold remS; split
    · split
      · exact h
      · split
        · exact h
        · simp; omega
    · exact h
  split
  · unfold movS
    repeat' split
    all_goals first | exact h | (simp; omega)
  · unfold markS
    repeat' split
    all_goals first | exact h | (simp; omega)

theorem Ac.row_length (x : Ac) : x.row.length = 6 := rfl
abbrev al (l : List Ac) : AV := .sl 6 false (l.map Ac.row)
@[simp] theorem rfR_al (l : List Ac) : rfR (l.map Ac.row) = true := rfR_map (fun x => by simp [Ac.row]) l

def grownS (l : List Ac) : List B := l.foldl (fun t x => (modelS t x).1) []
theorem grownS_succ {l : List Ac} {i : Nat} (hi : i < l.length) : grownS (l.take (i + 1)) = (modelS (grownS (l.take i)) l[i]).1 := by
  unfold grownS
  rw [List.take_add_one, List.getElem?_eq_getElem hi, List.foldl_append]; rfl
theorem grownS_len (l : List Ac) : (grownS l).length ≤ 512 := by
  have : ∀ (l : List Ac) (t : List B), t.length ≤ 512 → (l.foldl (fun t x => (modelS t x).1) t).length ≤ 512 := by
    intro l
    induction l with
    | nil => intro t h; exact h
    | cons x l ih => intro t h; exact ih _ (modelS_len h)
  exact this l [] (by simp)

set_option maxHeartbeats 4000000 in
theorem c29 (l : List Ac) (hl : l.length ≤ 1000000) : PureC Try.prog 29 [al l] (tl (grownS l)) := by
  refine fun_ok Try.func29 a29_ok (by simp [a29]) ?_
  simp [a29]
  refine awp_loop (fun n s => ∃ i, i ≤ l.length ∧ n = l.length - i ∧ s.e 0 = al l ∧ s.e 4 = iv i ∧ ∃ f, s.e 3 = .sl 4 f ((grownS (l.take i)).map B.row)) l.length ?_ ?_
  · refine ⟨0, ?_⟩
    simp [grownS]
  · rintro n ⟨e, m, nx⟩ ⟨i, hi, rfl, h0, h4, f, h3⟩
    simp only at h0 h4 h3
    by_cases hlt : i < l.length
    · have hb := List.getElem?_eq_getElem hlt
      have hw := wrap64 (n := (i : Int) + 1) (by omega) (by omega)
      simp [h0, h3, h4, hlt, hb, Ac.row]
      refine callP (c13 (grownS (l.take i)) l[i] (Nat.le_trans (grownS_len _) (by omega))) (by simp [Ac.row]) ?_
      simp [h0, h3, h4, hw]
      refine ⟨l.length - (i + 1), by omega, i + 1, by omega, rfl, rfl, ?_⟩
      rw [grownS_succ hlt]
    · have : l.take i = l := List.take_of_length_le (by omega)
      rw [this] at h3
      simp [h0, h3, h4, hlt]

end Go.Proofs.Ytpgkpdojpmikkaa.Eng

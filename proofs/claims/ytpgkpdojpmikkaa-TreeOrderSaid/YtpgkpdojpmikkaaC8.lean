/-
  Contracts: the document's Root, Insert, Remove, Move, Mark.
-/
import Derived.Test.YtpgkpdojpmikkaaC7
set_option linter.unusedVariables false
set_option linter.unusedSimpArgs false
set_option maxRecDepth 100000
namespace Go.Proofs.Ytpgkpdojpmikkaa.Eng
open Go Go.Proofs

/-- Root, as a function of lists. -/
def rootS (t : List B) (k : K) : List B × Int := if isT t && k.ok then addS t t.length ⟨k, 0, false⟩ else (t, 2)

theorem c41 (t : List B) (k : K) (ht : t.length ≤ 1000000) : PureC Try.prog 41 [tl t, k.av] (ans (rootS t k)) := by
  refine fun_ok Try.func41 a41_ok (by simp [a41]) ?_
  simp [a41, K.row]
  refine callP (c21 t k ht) (by simp [K.row]) ?_
  simp
  refine callP (c18 t ht) (by simp) ?_
  cases hT : isT t with
  | false => simp [rootS, hT]
  | true =>
    simp
    refine callP (c47' k) (by simp [K.row]) ?_
    cases hk : k.ok with
    | false => simp [rootS, hk]
    | true =>
      cases ha : at? t k with
      | some j => simp [rootS, addS, hT, hk, ha]
      | none =>
        by_cases hl : 512 ≤ t.length
        · have hl' : (512 : Int) ≤ t.length := by omega
          simp [rootS, addS, hT, hk, ha, hl, hl']
        · have hl' : ¬ (512 : Int) ≤ t.length := by omega
          simp [rootS, addS, hT, hk, ha, hl, hl']
          refine callP (c67 t t.length ⟨k, 0, false⟩ (Nat.le_refl _) ht) (by simp [B.row]) ?_
          simp [B.row, rootS, addS, hT, hk, ha, hl]

theorem chkT_d : ∀ (r : List B) (seen : List K) (most : Int), chkT seen most r = true → ∀ (j : Nat) (b : B), r[j]? = some b → 0 ≤ b.d ∧ b.d ≤ most + j
  | [], _, _, _, j, b, h => by simp at h
  | c :: r, seen, most, hc, j, b, h => by
    simp only [chkT, Bool.and_eq_true, decide_eq_true_eq] at hc
    obtain ⟨⟨⟨_, h0⟩, h1⟩, h2⟩ := hc
    cases j with
    | zero => simp at h; subst h; simp; omega
    | succ j =>
      have := chkT_d r _ _ h2 j b (by simpa using h)
      refine ⟨this.1, ?_⟩
      have := this.2
      simp; omega
theorem isT_d {t : List B} (h : isT t = true) {j : Nat} {b : B} (hb : t[j]? = some b) : 0 ≤ b.d ∧ b.d ≤ j := by
  simp only [isT, Bool.and_eq_true] at h
  have := chkT_d t _ _ h.2 j b hb
  omega

def insS (t : List B) (f k : K) : List B × Int := if isT t && (f.ok && k.ok) then match at? t f with
  | none => (t, 7)
  | some i => addS t (i + 1) ⟨k, (t[i]?.getD default).d + 1, false⟩
  else (t, 2)
def remS (t : List B) (k : K) : List B × Int := if isT t && k.ok then match at? t k with
  | none => (t, 7)
  | some i => if 0 < cnt t i then (t, 130) else (t.take i ++ t.drop (i + 1), 0)
  else (t, 2)

theorem c43 (t : List B) (k : K) (ht : t.length ≤ 1000000) : PureC Try.prog 43 [tl t, k.av] (ans (remS t k)) := by
  refine fun_ok Try.func43 a43_ok (by simp [a43]) ?_
  simp [a43, K.row]
  refine callP (c21 t k ht) (by simp [K.row]) ?_
  simp
  refine callP (c18 t ht) (by simp) ?_
  cases hT : isT t with
  | false => simp [remS, hT]
  | true =>
    simp
    refine callP (c47' k) (by simp [K.row]) ?_
    cases hk : k.ok with
    | false => simp [remS, hk]
    | true =>
      cases ha : at? t k with
      | none => simp [remS, hT, hk, ha]
      | some i =>
        have hi := at?_lt ha
        simp
        refine callP (c53 t i t[i] (List.getElem?_eq_getElem hi) ht) (by simp) ?_
        by_cases hc : 0 < cnt t i
        · simp [remS, hT, hk, ha, hc]
        · simp [remS, hT, hk, ha, hc]
          refine callP (c68 t i hi ht) (by simp) ?_
          simp [remS, hT, hk, ha, hc]

end Go.Proofs.Ytpgkpdojpmikkaa.Eng

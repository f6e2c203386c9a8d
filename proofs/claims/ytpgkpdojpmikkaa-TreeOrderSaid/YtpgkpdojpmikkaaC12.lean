/-
  Contracts: the program's right, Root (given Check's contract).
-/
import Derived.Test.YtpgkpdojpmikkaaC11
set_option linter.unusedVariables false
set_option linter.unusedSimpArgs false
set_option maxRecDepth 100000
namespace Go.Proofs.Ytpgkpdojpmikkaa.Eng
open Go Go.Proofs

/-- Check's contract. -/
def H17 : Prop := ∀ t : List B, t.length ≤ 1000000 → PureC Try.prog 17 [tl t] (iv (if isT t then 0 else 2))

theorem c56 (h17 : H17) (t : List B) (l : List K) (ht : t.length ≤ 1000000) (hl : l.length ≤ 1000000) : PureC Try.prog 56 [tl t, kl l] (.bool (isT t && l.all K.ok)) := by
  refine fun_ok Try.func56 a56_ok (by simp [a56]) ?_
  simp [a56]
  refine callP (h17 t ht) (by simp) ?_
  cases hT : isT t with
  | false => simp
  | true =>
    simp
    refine callP (c72 l hl) (by simp) ?_
    simp

theorem c34 (h17 : H17) (t : List B) (k : K) (ht : t.length ≤ 1000000) : PureC Try.prog 34 [tl t, k.av] (ans (rootS t k)) := by
  refine fun_ok Try.func34 a34_ok (by simp [a34]) ?_
  simp [a34, K.row]
  refine callP (c56 h17 t [k] ht (by simp)) (by simp [K.row]) ?_
  cases hok : (isT t && k.ok) with
  | false => simp [rootS, hok]
  | true =>
    simp [hok]
    refine callP (c57 t t.length ⟨k, 0, false⟩ (Nat.le_refl _) ht) (by simp [B.row]) ?_
    simp [rootS, hok]

end Go.Proofs.Ytpgkpdojpmikkaa.Eng

/-
  Contracts: the program's Move (given Check's contract).
-/
import Derived.Test.YtpgkpdojpmikkaaC13
set_option linter.unusedVariables false
set_option linter.unusedSimpArgs false
set_option maxRecDepth 100000
namespace Go.Proofs.Ytpgkpdojpmikkaa.Eng
open Go Go.Proofs

set_option maxHeartbeats 4000000 in
theorem c32 (h17 : H17) (t : List B) (f k : K) (ht : t.length ≤ 1000000) : PureC Try.prog 32 [tl t, f.av, k.av] (ans (movS t f k)) := by
  refine fun_ok Try.func32 a32_ok (by simp [a32]) ?_
  simp [a32, K.row]
  refine callP (c56 h17 t [f, k] ht (by simp)) (by simp [K.row]) ?_
  cases hok : (isT t && (f.ok && k.ok)) with
  | false => simp [movS, hok]
  | true =>
    simp [hok]
    refine callP (c20 t f ht) (by simp [K.row]) ?_
    cases haf : at? t f with
    | none => simp [movS, hok, haf]
    | some i =>
      have hi := at?_lt haf
      simp
      refine callP (c20 t k ht) (by simp [K.row]) ?_
      cases ha : at? t k with
      | some j => simp [movS, hok, haf, ha]
      | none =>
        simp [hi, B.row]
        refine callP (c58 t i ⟨k, t[i].d, t[i].m⟩ hi ht) (by simp [B.row]) ?_
        simp [movS, hok, haf, ha, hi]

end Go.Proofs.Ytpgkpdojpmikkaa.Eng

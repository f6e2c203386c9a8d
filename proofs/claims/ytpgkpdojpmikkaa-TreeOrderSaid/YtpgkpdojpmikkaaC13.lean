/-
  Contracts: the program's Insert, Mark, Move (given Check's contract).
-/
import Derived.Test.YtpgkpdojpmikkaaC12
set_option linter.unusedVariables false
set_option linter.unusedSimpArgs false
set_option maxRecDepth 100000
namespace Go.Proofs.Ytpgkpdojpmikkaa.Eng
open Go Go.Proofs

set_option maxHeartbeats 4000000 in
theorem c33 (h17 : H17) (t : List B) (k : K) (on : Bool) (ht : t.length ≤ 1000000) : PureC Try.prog 33 [tl t, k.av, .bool on] (ans (markS t k on)) := by
  refine fun_ok Try.func33 a33_ok (by simp [a33]) ?_
  simp [a33, K.row]
  refine callP (c56 h17 t [k] ht (by simp)) (by simp [K.row]) ?_
  cases hok : (isT t && k.ok) with
  | false => simp [markS, hok]
  | true =>
    simp [hok]
    refine callP (c20 t k ht) (by simp [K.row]) ?_
    cases ha : at? t k with
    | none => simp [markS, hok, ha]
    | some i =>
      have hi := at?_lt ha
      simp [hi, B.row]
      refine callP (c58 t i ⟨t[i].k, t[i].d, on⟩ hi ht) (by simp [B.row]) ?_
      simp [markS, hok, ha, hi]

set_option maxHeartbeats 4000000 in
theorem c30 (h17 : H17) (t : List B) (f k : K) (ht : t.length ≤ 1000000) : PureC Try.prog 30 [tl t, f.av, k.av] (ans (insS t f k)) := by
  refine fun_ok Try.func30 a30_ok (by simp [a30]) ?_
  simp [a30, K.row]
  refine callP (c56 h17 t [f, k] ht (by simp)) (by simp [K.row]) ?_
  cases hok : (isT t && (f.ok && k.ok)) with
  | false => simp [insS, hok]
  | true =>
    simp [hok]
    refine callP (c20 t f ht) (by simp [K.row]) ?_
    cases haf : at? t f with
    | none => simp [insS, hok, haf]
    | some i =>
      have hi := at?_lt haf
      have hT : isT t = true := by cases h : isT t <;> simp [h] at hok ⊢
      have hd := isT_d hT (List.getElem?_eq_getElem hi)
      have hw1 := wrap64 (n := (i : Int) + 1) (by omega) (by omega)
      have hw2 := wrap64 (n := t[i].d + 1) (by omega) (by omega)
      simp [hi, hw1, hw2, B.row]
      refine callP (c57 t (i + 1) ⟨k, t[i].d + 1, false⟩ (by omega) ht) (by simp [B.row]) ?_
      simp [insS, hok, haf, hi]

end Go.Proofs.Ytpgkpdojpmikkaa.Eng

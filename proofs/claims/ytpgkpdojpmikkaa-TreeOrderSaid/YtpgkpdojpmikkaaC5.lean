/-
  Contracts: put and out.
-/
import Derived.Test.YtpgkpdojpmikkaaC4
set_option linter.unusedVariables false
set_option linter.unusedSimpArgs false
set_option maxRecDepth 100000
namespace Go.Proofs.Ytpgkpdojpmikkaa.Eng
open Go Go.Proofs

theorem rfR_append : ∀ (a b : List (List AV)), rfR (a ++ b) = (rfR a && rfR b)
  | [], b => rfl
  | r :: a, b => by simp only [List.cons_append, rfR, rfR_append a b, Bool.and_assoc]
@[simp] theorem rfR_app (a b : List (List AV)) : rfR (a ++ b) = (rfR a && rfR b) := rfR_append a b
@[simp] theorem rfR_take_B (l : List B) (i : Nat) : rfR ((l.map B.row).take i) = true := by rw [← List.map_take]; exact rfR_tl _
@[simp] theorem rfR_drop_B (l : List B) (i : Nat) : rfR ((l.map B.row).drop i) = true := by rw [← List.map_drop]; exact rfR_tl _
theorem take_all (t : List B) : (t.map B.row).take t.length = t.map B.row := List.take_of_length_le (by simp)
theorem wrap1 : IntKind.i64.wrap 1 = 1 := wrap64 (by omega) (by omega)

theorem c67 (t : List B) (i : Nat) (b : B) (hi : i ≤ t.length) (ht : t.length ≤ 1000000) : PureC Try.prog 67 [tl t, iv i, b.av] (tl (t.take i ++ b :: t.drop i)) := by
  refine fun_ok Try.func67 a67_ok (by simp [a67]) ?_
  have hm : min i t.length = i := by omega
  have hb1 : (i + 1) * 32 ≤ 140737488355328 := by omega
  have hb2 : i * 32 ≤ 140737488355328 := by omega
  have hb3 : (i + 1 + (t.length - i)) * 32 ≤ 140737488355328 := by omega
  have hb4 : (1 + (t.length - i)) * 32 ≤ 140737488355328 := by omega
  by_cases h0 : i = 0
  · subst h0
    by_cases hn : t = []
    · subst hn
      simp [a67, B.row, K.row]
    · have hb5 : (1 + t.length) * 32 ≤ 140737488355328 := by omega
      simp [a67, B.row, K.row, hn, hb5, take_all]
      omega
  · have hne : ¬ t = [] := by rintro rfl; simp at hi; exact h0 hi
    by_cases hn : i = t.length
    · subst hn
      simp [a67, B.row, K.row, h0, hne, hb1, hb2, take_all]
    · have hd : ¬ t.length ≤ i := by omega
      simp [a67, B.row, K.row, hi, h0, hne, hm, hb1, hb2, hb3, hd, take_all]
      omega
  
theorem c68 (t : List B) (i : Nat) (hi : i < t.length) (ht : t.length ≤ 1000000) : PureC Try.prog 68 [tl t, iv i] (tl (t.take i ++ t.drop (i + 1))) := by
  refine fun_ok Try.func68 a68_ok (by simp [a68]) ?_
  have hw1 := wrap64 (n := (i : Int) + 1) (by omega) (by omega)
  have hm : min i t.length = i := by omega
  have hn0 : ((i : Int) + 1).toNat = i + 1 := by omega
  have hp0 : (0 : Int) ≤ i + 1 := by omega
  have hb2 : i * 32 ≤ 140737488355328 := by omega
  have hb3 : (i + (t.length - (i + 1))) * 32 ≤ 140737488355328 := by omega
  have hne : ¬ t = [] := by rintro rfl; simp at hi
  have hle : i ≤ t.length := by omega
  have hle1 : i + 1 ≤ t.length := by omega
  by_cases h0 : i = 0
  · subst h0
    obtain ⟨b, t, rfl⟩ := List.exists_cons_of_ne_nil hne
    have htk := take_all (b :: t)
    simp at htk
    cases t with
    | nil => simp [a68, wrap1]
    | cons c t =>
      have hb5 : (t.length + 1) * 32 ≤ 140737488355328 := by simp at ht; omega
      have hle2 : 1 ≤ t.length + 1 + 1 := by omega
      simp [a68, wrap1, hb5, hle2]
      exact ⟨by simp [B.row], take_all t⟩
  · by_cases hn : t.length ≤ i + 1
    · simp [a68, hw1, hn0, hp0, hle, hle1, hn, hne, hm, hb2, h0, take_all]
    · simp [a68, hw1, hn0, hp0, hle, hle1, hn, hne, hm, hb2, hb3, h0, take_all]

end Go.Proofs.Ytpgkpdojpmikkaa.Eng

/-
  Contracts: the program's put, Clone, with, add.
-/
import Derived.Test.YtpgkpdojpmikkaaC6
set_option linter.unusedVariables false
set_option linter.unusedSimpArgs false
set_option maxRecDepth 100000
namespace Go.Proofs.Ytpgkpdojpmikkaa.Eng
open Go Go.Proofs

@[simp] theorem rfL_Brow (b : B) : rfL b.row = true := by simp [B.row]
@[simp] theorem rfL_Krow (k : K) : rfL k.row = true := by simp [K.row]

/-- The program's put: an insertion. -/
theorem c73 (t : List B) (i : Nat) (b : B) (hi : i ≤ t.length) (ht : t.length ≤ 1000000) : PureC Try.prog 73 [tl t, iv i, b.av] (tl (t.take i ++ b :: t.drop i)) := by
  refine fun_ok Try.func73 a73_ok (by simp [a73]) ?_
  have hm : min i t.length = i := by omega
  have hb1 : (i + 1) * 32 ≤ 140737488355328 := by omega
  have hb3 : (i + 1 + (t.length - i)) * 32 ≤ 140737488355328 := by omega
  by_cases hn : i = t.length
  · subst hn
    simp [a73, B.row, K.row, hb1, take_all]
  · have hd : ¬ t.length ≤ i := by omega
    simp [a73, B.row, K.row, hi, hm, hb1, hb3, hd, take_all]
    omega

theorem eNilsl_tl {t : Bool} {m : Mem} {b : B} {r : List B} : eNilsl t m (tl (b :: r)) = some (.bool t) := rfl

theorem o74 (t : List B) (hne : t ≠ []) (ht : t.length ≤ 1000000) : OwnC Try.prog 74 [tl t] 4 (t.map B.row) := by
  refine fun_own Try.func74 a74_ok (by simp [a74]) (by decide) (rfR_tl t) ?_
  obtain ⟨b, r, rfl⟩ := List.exists_cons_of_ne_nil hne
  have hb : (r.length + 1) * 32 ≤ 140737488355328 := by simp at ht; omega
  simp [a74, hb, eNilsl_tl, -eNilsl]

/-- The list with another branch at a place. -/
theorem c58 (t : List B) (i : Nat) (b : B) (hi : i < t.length) (ht : t.length ≤ 1000000) : PureC Try.prog 58 [tl t, iv i, b.av] (tl (t.set i b)) := by
  have hne : t ≠ [] := by rintro rfl; simp at hi
  refine fun_ok Try.func58 a58_ok (by simp [a58]) ?_
  refine seqI (regI ?_)
  refine opT (by simp) (by simp [B.row, K.row]; exact ⟨rfl, rfl⟩) ?_
  refine opT (by simp) (by simp; exact ⟨rfl, rfl⟩) ?_
  refine opE (seqI (regI ?_))
  refine opT (by simp) (by simp; exact ⟨rfl, rfl⟩) ?_
  refine opO (o74 t hne ht) (by simp) (by rfl) (by simp) (by simp) ?_
  refine opT (by simp) (by simp; exact ⟨rfl, rfl⟩) ?_
  refine opE (seqI (regI ?_))
  iterate 3 refine opT (by simp) (by simp; exact ⟨rfl, rfl⟩) ?_
  refine opT (by simp) (by simp [hi]; exact ⟨rfl, rfl⟩) ?_
  refine opT (by simp) (by simp [hi, B.row]; exact ⟨rfl, rfl⟩) ?_
  refine opE (seqI (regI ?_))
  iterate 2 refine opT (by simp) (by simp; exact ⟨rfl, rfl⟩) ?_
  refine opE (retI ?_)
  have e1 : (t.map B.row).set i [iv b.k.o, iv b.k.s, iv b.d, .bool b.m] = (t.set i b).map B.row := by rw [List.map_set]; rfl
  simp [a58]
  exact ⟨by rw [e1]; exact rfR_tl _, rfl⟩

/-- The answer of Root, Insert, ..: the list, and why not. -/
abbrev ans (p : List B × Int) : AV := .tup [tl p.1, iv p.2]
/-- A new branch at a place. -/
def addS (t : List B) (i : Nat) (b : B) : List B × Int := if (at? t b.k).isSome then (t, 8) else if 512 ≤ t.length then (t, 6) else (t.take i ++ b :: t.drop i, 0)

theorem c57 (t : List B) (i : Nat) (b : B) (hi : i ≤ t.length) (ht : t.length ≤ 1000000) : PureC Try.prog 57 [tl t, iv i, b.av] (ans (addS t i b)) := by
  refine fun_ok Try.func57 a57_ok (by simp [a57]) ?_
  simp [a57, B.row]
  refine callP (c20 t b.k ht) (by simp [K.row]) ?_
  cases ha : at? t b.k with
  | some j => simp [addS, ha]
  | none =>
    by_cases hl : 512 ≤ t.length
    · have hl' : (512 : Int) ≤ t.length := by omega
      simp [addS, ha, hl, hl', B.row]
    · have hl' : ¬ (512 : Int) ≤ t.length := by omega
      simp [addS, ha, hl, hl', B.row]
      refine callP (c73 t i b hi ht) (by simp [B.row]) ?_
      simp [addS, ha, hl]


end Go.Proofs.Ytpgkpdojpmikkaa.Eng

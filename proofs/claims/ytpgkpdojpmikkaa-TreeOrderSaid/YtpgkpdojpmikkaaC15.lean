/-
  Contracts: Check, with its map.
-/
import Derived.Test.YtpgkpdojpmikkaaC14
set_option linter.unusedVariables false
set_option linter.unusedSimpArgs false
set_option maxRecDepth 100000
namespace Go.Proofs.Ytpgkpdojpmikkaa.Eng
open Go Go.Proofs

def seenR (l : List B) : List (List AV) := l.map fun b => [b.k.av, .bool true]
theorem seenR_succ {t : List B} {i : Nat} (hi : i < t.length) : seenR (t.take (i + 1)) = seenR (t.take i) ++ [[t[i].k.av, .bool true]] := by
  unfold seenR; rw [List.take_add_one, List.map_append, List.getElem?_eq_getElem hi]; rfl

@[simp] theorem mkeys_seen (l : List B) : mkeys true (seenR l) = true := by
  unfold seenR
  induction l with
  | nil => rfl
  | cons b l ih => simp only [mkeys] at ih; simp [mkeys, keyOkA, ih]

theorem mfind_seen (k : K) : ∀ l : List B, mfind [true, true] [iv k.o, iv k.s] (seenR l) = some (if k ∈ l.map (·.k) then some (.bool true) else none)
  | [] => rfl
  | b :: l => by
    have ih := mfind_seen k l
    unfold seenR at ih ⊢
    by_cases h : k = b.k
    · subst h; simp [mfind, aeqL, aeq1, K.row]
    · have h' := h
      rw [K.eq_iff] at h'
      have hb : (k.o == b.k.o && k.s == b.k.s) = false := by simpa using h'
      simp only [List.map_cons, mfind, AV.cells, K.row, aeqL, aeq1, if_true, Bool.and_true, hb, List.mem_cons, h, false_or]
      exact ih

@[simp] theorem clR_seen (m : Mem) (l : List B) : clR m (seenR l) = true := clR_map (fun b => by simp [K.row]) l
@[simp] theorem clR_tl (m : Mem) (l : List B) : clR m (l.map B.row) = true := clR_map (fun b => by simp [B.row]) l
@[simp] theorem clR_kl (m : Mem) (l : List K) : clR m (l.map K.row) = true := clR_map (fun b => by simp [K.row]) l

theorem chkT_step {t : List B} {i : Nat} (hi : i < t.length) (most : Int) : chkT ((t.take i).map (·.k)) most (t.drop i) = (!decide (t[i].k ∈ (t.take i).map (·.k)) && t[i].k.ok && decide (0 ≤ t[i].d) && decide (t[i].d ≤ most) && chkT ((t.take (i + 1)).map (·.k)) (t[i].d + 1) (t.drop (i + 1))) := by
  rw [List.drop_eq_getElem_cons hi, chkT]
  have : (t.take (i + 1)).map (·.k) = (t.take i).map (·.k) ++ [t[i].k] := by rw [List.take_add_one, List.map_append, List.getElem?_eq_getElem hi]; rfl
  rw [this]

set_option maxHeartbeats 4000000 in
theorem c17 (t : List B) (ht : t.length ≤ 1000000) : PureC Try.prog 17 [tl t] (iv (if isT t then 0 else 2)) := by
  refine fun_ok Try.func17 a17_ok (by simp [a17]) ?_
  by_cases hmax : (512 : Int) < t.length
  · have : isT t = false := by simp [isT]; omega
    simp [a17, hmax, this]
  simp [a17, hmax]
  refine awp_loopF (fun k s => ∃ i most, i ≤ t.length ∧ k = t.length - i ∧ 0 ≤ most ∧ most ≤ (i : Int) ∧ chkT [] 0 t = chkT ((t.take i).map (·.k)) most (t.drop i) ∧ s.e 3 = .mp (3002, 3) ∧ s.e 4 = iv most ∧ s.e 13 = tl t ∧ s.e 14 = iv t.length ∧ s.e 15 = iv i ∧ s.m = oneM (3002, 3) ⟨0, seenR (t.take i), true⟩) t.length ?_ ?_
  · refine ⟨_, .inr (fgt_one [3, 4, 13, 14, 15] (3002, 3) ⟨0, [], true⟩ 0 (by simp) (by simp) (by simp) (by simp) (by simp)), 0, 0, by simp [seenR]⟩
  · rintro n ⟨e, m, nx⟩ ⟨i, most, hi, rfl, hm0, hm1, hchk, h3, h4, h13, h14, h15, hm⟩
    simp only at h3 h4 h13 h14 h15 hm
    subst hm
    have hT : isT t = chkT ((t.take i).map (·.k)) most (t.drop i) := by
      rw [← hchk, isT]
      have : decide (t.length ≤ 512) = true := by simp; omega
      rw [this, Bool.true_and]
    by_cases hlt : i < t.length
    · have hs := chkT_step hlt most
      have hb := List.getElem?_eq_getElem hlt
      have hw := wrap64 (n := (i : Int) + 1) (by omega) (by omega)
      rw [hs] at hT hchk
      have hmf := mfind_seen t[i].k (t.take i)
      by_cases hseen : t[i].k ∈ (t.take i).map (·.k)
      · have hT' : isT t = false := by rw [hT]; simp only [hseen]; simp
        rw [if_pos hseen] at hmf
        simp [h3, h4, h13, h14, h15, hlt, hb, B.row, hmf, hT']
      · rw [if_neg hseen] at hmf
        simp [h3, h4, h13, h14, h15, hlt, hb, B.row, hmf]
        refine callP (c46 t[i].k) (by simp [K.row]) ?_
        by_cases hok : t[i].k.ok = true
        · by_cases hd0 : t[i].d < 0
          · have hT' : isT t = false := by rw [hT]; have : decide (0 ≤ t[i].d) = false := by simp; omega
                                           rw [this]; simp
            simp [hok, hd0, hT']
          · by_cases hd1 : most < t[i].d
            · have hT' : isT t = false := by rw [hT]; have : decide (t[i].d ≤ most) = false := by simp; omega
                                             rw [this]; simp
              simp [hok, hd0, hd1, h3, h4, hT']
            · have hw2 := wrap64 (n := t[i].d + 1) (by omega) (by omega)
              simp [hok, hd0, hd1, h3, h4, h13, h14, h15, hw, hw2, hmf]
              refine .mk (t.length - (i + 1)) (by omega) (fgt_one [3, 4, 13, 14, 15] (3002, 3) ⟨0, seenR (t.take (i + 1)), true⟩ 0 ?_ (by simp) (by simp) (by simp [h3, h13, h14]) (by simp)) ?_
              rotate_left
              · simp only
                refine ⟨i + 1, t[i].d + 1, by omega, rfl, by omega, by omega, ?_, by simp [h3], by simp, by simp [h13], by simp [h14], by simp, rfl⟩
                rw [hchk]
                have h1 : decide (0 ≤ t[i].d) = true := by simp; omega
                have h2 : decide (t[i].d ≤ most) = true := by simp; omega
                have h3 : decide (t[i].k ∈ (t.take i).map (·.k)) = false := by simpa using hseen
                rw [h1, h2, h3, hok]; simp
              · simp [seenR_succ hlt, K.row]
        · have hT' : isT t = false := by rw [hT]; simp [hok]
          simp [hok, hT']
    · have hT' : isT t = true := by
        rw [hT, List.drop_eq_nil_of_le (by omega)]; rfl
      simp [h3, h4, h13, h14, h15, hlt, hT']

theorem h17 : H17 := c17

end Go.Proofs.Ytpgkpdojpmikkaa.Eng

/-
  Contracts: lists that are the same; what a list has.
-/
import Derived.Test.YtpgkpdojpmikkaaC1
set_option linter.unusedVariables false
set_option linter.unusedSimpArgs false
set_option maxRecDepth 100000
namespace Go.Proofs.Ytpgkpdojpmikkaa.Eng
open Go Go.Proofs

theorem eq_of_steps {α : Type} {a b : List α} (hl : a.length = b.length) (h : ∀ j, j < a.length → a[j]? = b[j]?) : a = b := by
  refine List.ext_getElem? fun i => ?_
  by_cases hi : i < a.length
  · exact h i hi
  · rw [List.getElem?_eq_none (by omega), List.getElem?_eq_none (by omega)]

theorem ne_of_step {α : Type} {a b : List α} {i : Nat} (h : a[i]? ≠ b[i]?) : a ≠ b := fun e => h (by rw [e])

theorem c15 (a b : List B) (ha : a.length ≤ 1000000) : PureC Try.prog 15 [tl a, tl b] (.bool (decide (a = b))) := by
  refine fun_ok Try.func15 a15_ok (by simp [a15]) ?_
  by_cases hl : a.length = b.length
  · simp [a15, hl]
    refine awp_loop (fun n s => ∃ i, i ≤ a.length ∧ n = a.length - i ∧ (∀ j, j < i → a[j]? = b[j]?) ∧ s.e 0 = tl a ∧ s.e 1 = tl b ∧ s.e 5 = iv i) a.length ?_ ?_
    · refine ⟨0, ?_⟩
      simp [hl]
    · rintro n ⟨e, m, nx⟩ ⟨i, hi, rfl, hno, h0, h1, h5⟩
      simp only at h0 h1 h5
      by_cases hlt : i < a.length
      · have hw := wrap64 (n := (i : Int) + 1) (by omega) (by omega)
        have hlt2 : i < b.length := by omega
        by_cases hk : a[i] = b[i]
        · simp [h0, h1, h5, hlt, hlt2, hw, B.row, hk]
          refine ⟨a.length - (i + 1), by omega, i + 1, by omega, rfl, fun j hj => ?_, by simp⟩
          by_cases hji : j = i
          · subst hji; simp [hlt, hlt2, hk]
          · exact hno j (by omega)
        · have hne : a ≠ b := ne_of_step (i := i) (by simp [hlt, hlt2, hk])
          have hk' := hk
          rw [B.eq_iff] at hk'
          simp [h0, h1, h5, hlt, hlt2, hw, B.row, hne]
          exact fun q1 q2 q3 q4 => absurd ⟨⟨q1, q2⟩, q3, q4⟩ hk'
      · have := eq_of_steps hl (fun j hj => hno j (by omega))
        have hlt2 : ¬ i < b.length := by omega
        simp [h0, h1, h5, hlt, hlt2, this]
  · have hne : a ≠ b := fun e => hl (by rw [e])
    have hl' : ¬ ((a.length : Int) = b.length) := by omega
    simp [a15, hl, hne, hl']

theorem c24 (a b : List K) (ha : a.length ≤ 1000000) : PureC Try.prog 24 [kl a, kl b] (.bool (decide (a = b))) := by
  refine fun_ok Try.func24 a24_ok (by simp [a24]) ?_
  by_cases hl : a.length = b.length
  · simp [a24, hl]
    refine awp_loop (fun n s => ∃ i, i ≤ a.length ∧ n = a.length - i ∧ (∀ j, j < i → a[j]? = b[j]?) ∧ s.e 0 = kl a ∧ s.e 1 = kl b ∧ s.e 5 = iv i) a.length ?_ ?_
    · refine ⟨0, ?_⟩
      simp [hl]
    · rintro n ⟨e, m, nx⟩ ⟨i, hi, rfl, hno, h0, h1, h5⟩
      simp only at h0 h1 h5
      by_cases hlt : i < a.length
      · have hw := wrap64 (n := (i : Int) + 1) (by omega) (by omega)
        have hlt2 : i < b.length := by omega
        by_cases hk : a[i] = b[i]
        · simp [h0, h1, h5, hlt, hlt2, hw, K.row, hk]
          refine ⟨a.length - (i + 1), by omega, i + 1, by omega, rfl, fun j hj => ?_, by simp⟩
          by_cases hji : j = i
          · subst hji; simp [hlt, hlt2, hk]
          · exact hno j (by omega)
        · have hne : a ≠ b := ne_of_step (i := i) (by simp [hlt, hlt2, hk])
          have hk' := hk
          rw [K.eq_iff] at hk'
          simp [h0, h1, h5, hlt, hlt2, hw, K.row, hne]
          exact fun q1 q2 => absurd ⟨q1, q2⟩ hk'
      · have := eq_of_steps hl (fun j hj => hno j (by omega))
        have hlt2 : ¬ i < b.length := by omega
        simp [h0, h1, h5, hlt, hlt2, this]
  · have hne : a ≠ b := fun e => hl (by rw [e])
    have hl' : ¬ ((a.length : Int) = b.length) := by omega
    simp [a24, hl, hne, hl']

theorem c48 (a b : List B) (ha : a.length ≤ 1000000) : PureC Try.prog 48 [tl a, tl b] (.bool (decide (a = b))) := by
  refine fun_ok Try.func48 a48_ok (by simp [a48]) ?_
  by_cases hl : a.length = b.length
  · simp [a48, hl]
    refine awp_loop (fun n s => ∃ i, i ≤ a.length ∧ n = a.length - i ∧ (∀ j, j < i → a[j]? = b[j]?) ∧ s.e 0 = tl a ∧ s.e 1 = tl b ∧ s.e 13 = iv i ∧ s.e 12 = iv a.length) a.length ?_ ?_
    · refine ⟨0, ?_⟩
      simp [hl]
    · rintro n ⟨e, m, nx⟩ ⟨i, hi, rfl, hno, h0, h1, h5, h12⟩
      simp only at h0 h1 h5 h12
      by_cases hlt : i < a.length
      · have hw := wrap64 (n := (i : Int) + 1) (by omega) (by omega)
        have hlt2 : i < b.length := by omega
        by_cases hk : a[i] = b[i]
        · simp [h0, h1, h5, h12, hlt, hlt2, hw, B.row, hk]
          refine ⟨a.length - (i + 1), by omega, i + 1, by omega, rfl, fun j hj => ?_, by simp⟩
          by_cases hji : j = i
          · subst hji; simp [hlt, hlt2, hk]
          · exact hno j (by omega)
        · have hne : a ≠ b := ne_of_step (i := i) (by simp [hlt, hlt2, hk])
          have hk' := hk
          rw [B.eq_iff] at hk'
          simp [h0, h1, h5, h12, hlt, hlt2, hw, B.row, hne]
          exact fun q1 q2 q3 q4 => absurd ⟨⟨q1, q2⟩, q3, q4⟩ hk'
      · have := eq_of_steps hl (fun j hj => hno j (by omega))
        have hlt2 : ¬ i < b.length := by omega
        simp [h0, h1, h5, h12, hlt, hlt2, this]
  · have hne : a ≠ b := fun e => hl (by rw [e])
    have hl' : ¬ ((a.length : Int) = b.length) := by omega
    simp [a48, hl, hne, hl']

theorem c19 (a b : List B) (ha : a.length ≤ 1000000) : PureC Try.prog 19 [tl a, tl b] (.bool (decide (a = b))) := by
  refine fun_ok Try.func19 a19_ok (by simp [a19]) ?_
  simp [a19]
  refine callP (c48 a b ha) (by simp) ?_
  simp

/-- Where a key is in a list of keys. -/
def ix? (l : List K) (k : K) : Option Nat := l.findIdx? fun b => b == k

theorem ix?_some {t : List K} {k : K} {i : Nat} (hb : t[i]? = some k) (h : ∀ (j : Nat) (b : K), j < i → t[j]? = some b → b ≠ k) : ix? t k = some i := by
  obtain ⟨hi, hb'⟩ := List.getElem?_eq_some_iff.1 hb
  unfold ix?
  rw [List.findIdx?_eq_some_iff_getElem]
  refine ⟨hi, by simp [hb'], fun j hj => ?_⟩
  simpa using h j _ hj (List.getElem?_eq_getElem (by omega))
theorem ix?_none {t : List K} {k : K} (h : ∀ (j : Nat) (b : K), t[j]? = some b → b ≠ k) : ix? t k = none := by
  unfold ix?
  rw [List.findIdx?_eq_none_iff]
  intro x hx
  obtain ⟨j, hj⟩ := List.getElem?_of_mem hx
  simpa using h j x hj
theorem ix?_isSome {t : List K} {k : K} : (ix? t k).isSome = decide (k ∈ t) := by
  unfold ix?
  rw [Bool.eq_iff_iff, List.findIdx?_isSome]
  simp

theorem c55 (l : List K) (k : K) (ht : l.length ≤ 1000000) : PureC Try.prog 55 [kl l, k.av] (.bool (decide (k ∈ l))) := by
  refine fun_ok Try.func55 a55_ok (by simp [a55]) ?_
  simp [a55]
  refine awp_loop (fun n s => ∃ i, i ≤ l.length ∧ n = l.length - i ∧ (∀ (j : Nat) (b : K), j < i → l[j]? = some b → b ≠ k) ∧ s.e 0 = kl l ∧ s.e 3 = .ptr (0, 1) 1 0 0 ∧ s.m (0, 1) = some ⟨2, [k.row], true⟩ ∧ s.e 5 = iv i) l.length ?_ ?_
  · refine ⟨0, ?_⟩
    simp
  · rintro n ⟨e, m, nx⟩ ⟨i, hi, rfl, hno, h0, h3, hm, h6⟩
    simp only at h0 h3 hm h6
    by_cases hlt : i < l.length
    · have hw := wrap64 (n := (i : Int) + 1) (by omega) (by omega)
      have hb := List.getElem?_eq_getElem hlt
      by_cases hk : l[i] = k
      · have ha := (show k ∈ l from by rw [← hk]; exact List.getElem_mem hlt)
        simp [h0, h3, hm, h6, hlt, hw, hb, hk, K.row, ha]
      · have hk' := hk
        rw [K.eq_iff] at hk'
        simp [h0, h3, hm, h6, hlt, hw, hb, K.row, hk']
        refine ⟨l.length - (i + 1), by omega, i + 1, by omega, rfl, fun j b' hj hb' => ?_, by simp⟩
        by_cases hji : j = i
        · subst hji; rw [hb] at hb'; cases hb'; exact hk
        · exact hno j b' (by omega) hb'
    · have ha := (show k ∉ l from fun hm => by obtain ⟨j, hj⟩ := List.getElem?_of_mem hm; exact hno j k (by have := (List.getElem?_eq_some_iff.1 hj).1; omega) hj rfl)
      simp [h0, h3, hm, h6, hlt, ha]

theorem c65 (l : List K) (k : K) (ht : l.length ≤ 1000000) : PureC Try.prog 65 [kl l, k.av] (iv (match ix? l k with | some i => (i : Int) | none => -1)) := by
  refine fun_ok Try.func65 a65_ok (by simp [a65]) ?_
  simp [a65]
  refine awp_loop (fun n s => ∃ i, i ≤ l.length ∧ n = l.length - i ∧ (∀ (j : Nat) (b : K), j < i → l[j]? = some b → b ≠ k) ∧ s.e 0 = kl l ∧ s.e 3 = .ptr (0, 1) 1 0 0 ∧ s.m (0, 1) = some ⟨2, [k.row], true⟩ ∧ s.e 8 = iv i ∧ s.e 7 = iv l.length) l.length ?_ ?_
  · refine ⟨0, ?_⟩
    simp
  · rintro n ⟨e, m, nx⟩ ⟨i, hi, rfl, hno, h0, h3, hm, h6, h7⟩
    simp only at h0 h3 hm h6 h7
    by_cases hlt : i < l.length
    · have hw := wrap64 (n := (i : Int) + 1) (by omega) (by omega)
      have hb := List.getElem?_eq_getElem hlt
      by_cases hk : l[i] = k
      · have ha := ix?_some (hk ▸ hb) hno
        simp [h0, h3, hm, h6, h7, hlt, hw, hb, hk, K.row, ha]
      · have hk' := hk
        rw [K.eq_iff] at hk'
        have hk'' : ¬ (k.o = l[i].o ∧ k.s = l[i].s) := fun h => hk' ⟨h.1.symm, h.2.symm⟩
        simp [h0, h3, hm, h6, h7, hlt, hw, hb, K.row, hk'']
        refine ⟨l.length - (i + 1), by omega, i + 1, by omega, rfl, fun j b' hj hb' => ?_, by simp⟩
        by_cases hji : j = i
        · subst hji; rw [hb] at hb'; cases hb'; exact hk
        · exact hno j b' (by omega) hb'
    · have ha := ix?_none (t := l) (k := k) (fun j b hb => hno j b (by have := (List.getElem?_eq_some_iff.1 hb).1; omega) hb)
      simp [h0, h3, hm, h6, h7, hlt, ha]

theorem c54 (l : List K) (k : K) (ht : l.length ≤ 1000000) : PureC Try.prog 54 [kl l, k.av] (.bool (decide (k ∈ l))) := by
  refine fun_ok Try.func54 a54_ok (by simp [a54]) ?_
  simp [a54, K.row]
  refine callP (c65 l k ht) (by simp [K.row]) ?_
  rw [← ix?_isSome]
  cases ix? l k <;> simp

theorem c71 (k : K) : PureC Try.prog 71 [k.av] (.bool (!k.ok)) := by
  refine fun_ok Try.func71 a71_ok (by simp [a71]) ?_
  simp [a71, K.row]
  refine callP (c46 k) (by simp [K.row]) ?_
  cases k.ok <;> simp

end Go.Proofs.Ytpgkpdojpmikkaa.Eng

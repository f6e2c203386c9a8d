/-
  Values of the program as Lean has them; what is unfolded in a walk; the first contracts.
-/
import Derived.Test.YtpgkpdojpmikkaaC0
import Derived.Test.YtpgkpdojpmikkaaE17
set_option linter.unusedVariables false
set_option linter.unusedSimpArgs false
set_option maxRecDepth 100000
namespace Go.Proofs.Ytpgkpdojpmikkaa.Eng
open Go Go.Proofs

structure K where
  o : Int
  s : Int
  deriving DecidableEq, Inhabited
structure B where
  k : K
  d : Int
  m : Bool
  deriving DecidableEq, Inhabited

def K.row (k : K) : List AV := [iv k.o, iv k.s]
abbrev K.av (k : K) : AV := .agg k.row
def B.row (b : B) : List AV := [iv b.k.o, iv b.k.s, iv b.d, .bool b.m]
abbrev B.av (b : B) : AV := .agg b.row
abbrev kl (l : List K) : AV := .sl 2 false (l.map K.row)
abbrev tl (l : List B) : AV := .sl 4 false (l.map B.row)

theorem c16 (n : Int) : PureC Try.prog 16 [.int .i64 n] (iv n) := by
  refine fun_ok Try.func16 a16_ok (by simp [a16]) ?_
  simp [a16]

theorem c47 (k : K) : PureC Try.prog 47 [k.av] (.bool (decide (0 ≤ k.o ∧ k.o ≤ 1023 ∧ -1 ≤ k.s ∧ k.s ≤ 7))) := by
  refine fun_ok Try.func47 a47_ok (by simp [a47]) ?_
  by_cases h1 : 0 ≤ k.o
  · by_cases h2 : k.o ≤ 1023
    · by_cases h3 : -1 ≤ k.s
      · by_cases h4 : k.s ≤ 7
        · simp [a47, K.row, h1, h2, h3, h4]
        · simp [a47, K.row, h1, h2, h3, h4]
      · simp [a47, K.row, h1, h2, h3]
    · simp [a47, K.row, h1, h2]
  · simp [a47, K.row, h1]

theorem K.eq_iff {a b : K} : a = b ↔ a.o = b.o ∧ a.s = b.s := by cases a; cases b; simp
theorem B.eq_iff {a b : B} : a = b ↔ (a.k.o = b.k.o ∧ a.k.s = b.k.s) ∧ a.d = b.d ∧ a.m = b.m := by
  obtain ⟨⟨o, s⟩, d, m⟩ := a; obtain ⟨⟨o', s'⟩, d', m'⟩ := b; simp

@[simp] theorem rfR_kl (l : List K) : rfR (l.map K.row) = true := by induction l <;> simp [K.row, *]
@[simp] theorem rfR_tl (l : List B) : rfR (l.map B.row) = true := by induction l <;> simp [B.row, *]
@[simp] theorem K.row_length (k : K) : k.row.length = 2 := rfl
@[simp] theorem B.row_length (b : B) : b.row.length = 4 := rfl

/-- Where a key is. -/
def at? (t : List B) (k : K) : Option Nat := t.findIdx? fun b => b.k == k

theorem at?_some {t : List B} {k : K} {i : Nat} {b : B} (hb : t[i]? = some b) (hk : b.k = k) (h : ∀ (j : Nat) (b : B), j < i → t[j]? = some b → b.k ≠ k) : at? t k = some i := by
  obtain ⟨hi, rfl⟩ := List.getElem?_eq_some_iff.1 hb
  unfold at?
  rw [List.findIdx?_eq_some_iff_getElem]
  refine ⟨hi, by simp [hk], fun j hj => ?_⟩
  simpa using h j _ hj (List.getElem?_eq_getElem (by omega))
theorem at?_none {t : List B} {k : K} (h : ∀ (j : Nat) (b : B), t[j]? = some b → b.k ≠ k) : at? t k = none := by
  unfold at?
  rw [List.findIdx?_eq_none_iff]
  intro x hx
  obtain ⟨j, hj⟩ := List.getElem?_of_mem hx
  simpa using h j x hj

theorem c21 (t : List B) (k : K) (ht : t.length ≤ 1000000) : PureC Try.prog 21 [tl t, k.av] (.tup [iv ((at? t k).getD 0 : Nat), .bool (at? t k).isSome]) := by
  refine fun_ok Try.func21 a21_ok (by simp [a21]) ?_
  simp [a21]
  refine awp_loop (fun n s => ∃ i, i ≤ t.length ∧ n = t.length - i ∧ (∀ j b, j < i → t[j]? = some b → b.k ≠ k) ∧ s.e 0 = tl t ∧ s.e 3 = .ptr (0, 1) 1 0 0 ∧ s.m (0, 1) = some ⟨2, [k.row], true⟩ ∧ s.e 6 = iv i) t.length ?_ ?_
  · refine ⟨0, ?_⟩
    simp
  · rintro n ⟨e, m, nx⟩ ⟨i, hi, rfl, hno, h0, h3, hm, h6⟩
    simp only at h0 h3 hm h6
    by_cases hlt : i < t.length
    · have hw := wrap64 (n := (i : Int) + 1) (by omega) (by omega)
      have hb := List.getElem?_eq_getElem hlt
      by_cases hk : t[i].k = k
      · have ha := at?_some hb hk hno
        simp [h0, h3, hm, h6, hlt, hw, hb, hk, K.row, B.row, ha]
      · have hk' := hk
        rw [K.eq_iff] at hk'
        simp [h0, h3, hm, h6, hlt, hw, hb, K.row, B.row, hk']
        refine ⟨t.length - (i + 1), by omega, i + 1, by omega, rfl, fun j b' hj hb' => ?_, by simp⟩
        by_cases hji : j = i
        · subst hji; rw [hb] at hb'; cases hb'; exact hk
        · exact hno j b' (by omega) hb'
    · have ha := at?_none (t := t) (k := k) (fun j b hb => hno j b (by have := (List.getElem?_eq_some_iff.1 hb).1; omega) hb)
      simp [h0, h3, hm, h6, hlt, ha]

theorem c50 (b : B) (k : K) : PureC Try.prog 50 [b.av, .rp k.row] (.bool (decide (b.k = k))) := by
  refine fun_ok Try.func50 a50_ok (by simp [a50]) ?_
  simp [a50, B.row, K.row, K.eq_iff]
  rw [Bool.eq_iff_iff]; simp
  
theorem c49 (t : List B) (k : K) (ht : t.length ≤ 1000000) : PureC Try.prog 49 [tl t, .fn 50 [.rp k.row]] (iv (match at? t k with | some i => (i : Int) | none => -1)) := by
  refine fun_ok Try.func49 a49_ok (by simp [a49]) ?_
  simp [a49]
  refine awp_loop (fun n s => ∃ i, i ≤ t.length ∧ n = t.length - i ∧ (∀ j b, j < i → t[j]? = some b → b.k ≠ k) ∧ s.e 0 = tl t ∧ s.e 1 = .fn 50 [.rp k.row] ∧ s.e 7 = iv t.length ∧ s.e 8 = iv i) t.length ?_ ?_
  · refine ⟨0, ?_⟩
    simp
  · rintro n ⟨e, m, nx⟩ ⟨i, hi, rfl, hno, h0, h1, h7, h8⟩
    simp only at h0 h1 h7 h8
    by_cases hlt : i < t.length
    · have hw := wrap64 (n := (i : Int) + 1) (by omega) (by omega)
      have hb := List.getElem?_eq_getElem hlt
      simp [h0, h1, h7, h8, hlt, hb]
      refine callP (c50 t[i] k) (by simp [B.row, K.row]) ?_
      by_cases hk : t[i].k = k
      · have ha := at?_some hb hk hno
        simp [h0, h1, h7, h8, hlt, hw, hb, hk, ha]
      · simp [h0, h1, h7, h8, hlt, hw, hb, hk]
        refine ⟨t.length - (i + 1), by omega, i + 1, by omega, rfl, fun j b' hj hb' => ?_, by simp⟩
        by_cases hji : j = i
        · subst hji; rw [hb] at hb'; cases hb'; exact hk
        · exact hno j b' (by omega) hb'
    · have ha := at?_none (t := t) (k := k) (fun j b hb => hno j b (by have := (List.getElem?_eq_some_iff.1 hb).1; omega) hb)
      simp [h0, h1, h7, h8, hlt, ha]

theorem c20 (t : List B) (k : K) (ht : t.length ≤ 1000000) : PureC Try.prog 20 [tl t, k.av] (.tup [iv ((at? t k).getD 0 : Nat), .bool (at? t k).isSome]) := by
  refine fun_ok Try.func20 a20_ok (by simp [a20]) ?_
  simp [a20]
  refine callP (c49 t k ht) (by simp [K.row]) ?_
  cases at? t k <;> simp
  omega

/-- May this be a key? -/
def K.ok (k : K) : Bool := decide (0 ≤ k.o ∧ k.o ≤ 1023 ∧ -1 ≤ k.s ∧ k.s ≤ 7)

theorem c46 (k : K) : PureC Try.prog 46 [k.av] (iv (if k.ok then 0 else 2)) := by
  refine fun_ok Try.func46 a46_ok (by simp [a46]) ?_
  by_cases h1 : k.o < 0
  · have : k.ok = false := by simp [K.ok]; omega
    simp [a46, K.row, h1, this]
  · by_cases h2 : 1023 < k.o
    · have : k.ok = false := by simp [K.ok]; omega
      simp [a46, K.row, h1, h2, this]
    · by_cases h3 : k.s < -1
      · have : k.ok = false := by simp [K.ok]; omega
        simp [a46, K.row, h1, h2, h3, this]
      · by_cases h4 : 8 ≤ k.s
        · have : k.ok = false := by simp [K.ok]; omega
          simp [a46, K.row, h1, h2, h3, h4, this]
        · have : k.ok = true := by simp [K.ok]; omega
          simp [a46, K.row, h1, h2, h3, h4, this]

end Go.Proofs.Ytpgkpdojpmikkaa.Eng

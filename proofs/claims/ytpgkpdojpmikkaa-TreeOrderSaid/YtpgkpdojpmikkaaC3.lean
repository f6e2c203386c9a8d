/-
  Contracts: who is below, who is above; put and out.
-/
import Derived.Test.YtpgkpdojpmikkaaC2
set_option linter.unusedVariables false
set_option linter.unusedSimpArgs false
set_option maxRecDepth 100000
namespace Go.Proofs.Ytpgkpdojpmikkaa.Eng
open Go Go.Proofs

theorem c84 (l : List K) (ht : l.length ≤ 1000000) : PureC Try.prog 84 [kl l, .fn 71 []] (iv (match l.findIdx? fun k => !k.ok with | some i => (i : Int) | none => -1)) := by
  refine fun_ok Try.func84 a84_ok (by simp [a84]) ?_
  simp [a84]
  refine awp_loop (fun n s => ∃ i, i ≤ l.length ∧ n = l.length - i ∧ (∀ (j : Nat) (b : K), j < i → l[j]? = some b → b.ok = true) ∧ s.e 0 = kl l ∧ s.e 1 = .fn 71 [] ∧ s.e 7 = iv l.length ∧ s.e 8 = iv i) l.length ?_ ?_
  · refine ⟨0, ?_⟩
    simp
  · rintro n ⟨e, m, nx⟩ ⟨i, hi, rfl, hno, h0, h1, h7, h8⟩
    simp only at h0 h1 h7 h8
    by_cases hlt : i < l.length
    · have hw := wrap64 (n := (i : Int) + 1) (by omega) (by omega)
      have hb := List.getElem?_eq_getElem hlt
      simp [h0, h1, h7, h8, hlt, K.row]
      refine callP (c71 l[i]) (by simp [K.row]) ?_
      cases hk : l[i].ok with
      | false =>
        have ha : (l.findIdx? fun k => !k.ok) = some i := by
          rw [List.findIdx?_eq_some_iff_getElem]
          exact ⟨hlt, by simp [hk], fun j hj => by simpa using hno j _ hj (List.getElem?_eq_getElem (by omega))⟩
        simp [h0, h1, h7, h8, hlt, hw, hb, hk, ha]
      | true =>
        simp [h0, h1, h7, h8, hlt, hw, hb, hk]
        refine ⟨l.length - (i + 1), by omega, i + 1, by omega, rfl, fun j b' hj hb' => ?_, by simp⟩
        by_cases hji : j = i
        · subst hji; rw [hb] at hb'; cases hb'; exact hk
        · exact hno j b' (by omega) hb'
    · have ha : (l.findIdx? fun k => !k.ok) = none := by
        rw [List.findIdx?_eq_none_iff]
        intro x hx
        obtain ⟨j, hj⟩ := List.getElem?_of_mem hx
        simpa using hno j x (by have := (List.getElem?_eq_some_iff.1 hj).1; omega) hj
      simp [h0, h1, h7, h8, hlt, ha]

theorem c72 (l : List K) (ht : l.length ≤ 1000000) : PureC Try.prog 72 [kl l, .fn 71 []] (.bool (!(l.all K.ok))) := by
  refine fun_ok Try.func72 a72_ok (by simp [a72]) ?_
  simp [a72]
  refine callP (c84 l ht) (by simp) ?_
  have h : (l.findIdx? fun k => !k.ok).isSome = !(l.all K.ok) := by
    rw [List.findIdx?_isSome, List.not_all_eq_any_not]
  rw [← h]
  cases l.findIdx? fun k => !k.ok <;> simp

/-- How many behind a place are deeper. -/
def cntD (d : Int) (t : List B) : Nat := (t.takeWhile fun b => decide (d < b.d)).length
def cnt (t : List B) (at_ : Nat) : Nat := match t[at_]? with
  | some b => cntD b.d (t.drop (at_ + 1))
  | none => 0

theorem cntD_eq {d : Int} {t : List B} {n : Nat} (h1 : ∀ j, j < n → ∃ b, t[j]? = some b ∧ d < b.d) (h2 : ∀ b, t[n]? = some b → ¬ d < b.d) : cntD d t = n := by
  induction t generalizing n with
  | nil =>
    cases n with
    | zero => rfl
    | succ n => obtain ⟨b, hb, _⟩ := h1 0 (by omega); simp at hb
  | cons b t ih =>
    cases n with
    | zero => have := h2 b (by simp); simp [cntD, this]
    | succ n =>
      obtain ⟨b', hb, hd⟩ := h1 0 (by omega)
      simp at hb; subst hb
      have := ih (n := n) (fun j hj => by obtain ⟨b', hb, hd⟩ := h1 (j + 1) (by omega); exact ⟨b', by simpa using hb, hd⟩) (fun b' hb' => h2 b' (by simpa using hb'))
      simp [cntD, hd] at this ⊢
      exact this

theorem c53 (t : List B) (i : Nat) (b : B) (hb : t[i]? = some b) (ht : t.length ≤ 1000000) : PureC Try.prog 53 [tl t, iv i] (iv (cnt t i : Nat)) := by
  have hi := (List.getElem?_eq_some_iff.1 hb).1
  have hbi : t[i] = b := (List.getElem?_eq_some_iff.1 hb).2
  refine fun_ok Try.func53 a53_ok (by simp [a53]) ?_
  simp [a53]
  refine awp_loop (fun n s => ∃ q, i + 1 + q ≤ t.length ∧ n = t.length - q ∧ (∀ j, j < q → ∃ c, (t.drop (i + 1))[j]? = some c ∧ b.d < c.d) ∧ s.e 0 = tl t ∧ s.e 1 = iv i ∧ s.e 5 = iv q) t.length ?_ ?_
  · refine ⟨0, ?_⟩
    simp
    omega
  · rintro n ⟨e, m, nx⟩ ⟨q, hq, rfl, hno, h0, h1, h5⟩
    simp only at h0 h1 h5
    have hw1 := wrap64 (n := (i : Int) + 1) (by omega) (by omega)
    have hw2 := wrap64 (n := (i : Int) + 1 + q) (by omega) (by omega)
    have hw3 := wrap64 (n := (q : Int) + 1) (by omega) (by omega)
    have hn : ((i : Int) + 1 + q).toNat = i + 1 + q := by omega
    have hp : (0 : Int) ≤ i + 1 + q := by omega
    by_cases hlt : i + 1 + q < t.length
    · have hlt' : (i : Int) + 1 + q < t.length := by omega
      by_cases hd : b.d < t[i + 1 + q].d
      · simp [h0, h1, h5, hw1, hw2, hw3, hlt, hlt', hn, hp, hb, hi, hbi, B.row, hd]
        refine ⟨t.length - (q + 1), by omega, q + 1, by omega, rfl, fun j hj => ?_, by simp⟩
        by_cases hjq : j = q
        · subst hjq; exact ⟨t[i + 1 + j], by simp [hlt], hd⟩
        · simpa using hno j (by omega)
      · have : cnt t i = q := by
          unfold cnt; rw [hb]
          exact cntD_eq hno (fun c hc => by simp [hlt] at hc; subst hc; exact hd)
        simp [h0, h1, h5, hw1, hw2, hw3, hlt, hlt', hn, hp, hb, hi, hbi, B.row, hd, this]
    · have hlt' : ¬ (i : Int) + 1 + q < t.length := by omega
      have : cnt t i = q := by
        unfold cnt; rw [hb]
        exact cntD_eq hno (fun c hc => by simp [hlt] at hc)
      simp [h0, h1, h5, hw1, hw2, hw3, hlt, hlt', this]

end Go.Proofs.Ytpgkpdojpmikkaa.Eng

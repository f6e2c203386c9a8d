/-
  Plain facts about trees in lists: who descends from whom; parents.
-/
import Derived.Test.YtpgkpdojpmikkaaP1
set_option linter.unusedVariables false
set_option linter.unusedSimpArgs false
set_option maxRecDepth 100000
namespace Go.Proofs.Ytpgkpdojpmikkaa.Eng
open Go Go.Proofs

/-- The i-th is below the j-th. -/
def Desc (t : List B) (i j : Nat) : Prop := ∃ b, t[j]? = some b ∧ j < i ∧ i < t.length ∧ ∀ (m : Nat) (c : B), j < m → m ≤ i → t[m]? = some c → b.d < c.d

theorem cntD_iff {d : Int} : ∀ {l : List B} {j : Nat}, j < cntD d l ↔ j < l.length ∧ ∀ (m : Nat) (c : B), m ≤ j → l[m]? = some c → d < c.d
  | [], j => by simp [cntD]
  | b :: l, j => by
    unfold cntD
    rw [List.takeWhile_cons]
    by_cases hd : d < b.d
    · simp only [hd, decide_true, if_true, List.length_cons]
      cases j with
      | zero =>
        refine ⟨fun _ => ⟨by omega, fun m c hm hc => ?_⟩, fun _ => by omega⟩
        have : m = 0 := by omega
        subst this
        simp at hc; subst hc; exact hd
      | succ j =>
        have ih := cntD_iff (d := d) (l := l) (j := j)
        unfold cntD at ih
        rw [Nat.add_lt_add_iff_right, ih, Nat.add_lt_add_iff_right]
        refine and_congr_right fun hj => ⟨fun h m c hm hc => ?_, fun h m c hm hc => h (m + 1) c (by omega) (by simpa using hc)⟩
        cases m with
        | zero => simp at hc; subst hc; exact hd
        | succ m => exact h m c (by omega) (by simpa using hc)
    · simp only [hd, decide_false, Bool.false_eq_true, if_false, List.length_nil]
      refine ⟨fun h => by omega, fun h => absurd (h.2 0 b (by omega) rfl) hd⟩

theorem cnt_iff {t : List B} {j n : Nat} : n < cnt t j ↔ Desc t (j + 1 + n) j := by
  unfold cnt Desc
  cases hb : t[j]? with
  | none => simp
  | some b =>
    have hj := (List.getElem?_eq_some_iff.1 hb).1
    simp only [cntD_iff, List.length_drop, Option.some.injEq, exists_eq_left']
    constructor
    · rintro ⟨h1, h2⟩
      refine ⟨by omega, by omega, fun m c h3 h4 hc => h2 (m - (j + 1)) c (by omega) ?_⟩
      rw [List.getElem?_drop, show j + 1 + (m - (j + 1)) = m by omega]
      exact hc
    · rintro ⟨_, h1, h2⟩
      refine ⟨by omega, fun m c h3 hc => h2 (j + 1 + m) c (by omega) (by omega) ?_⟩
      rw [List.getElem?_drop] at hc
      exact hc

theorem below_iff {t : List B} (hn : (t.map (·.k)).Nodup) {a b : K} : a ∈ below t b ↔ ∃ i j, at? t a = some i ∧ at? t b = some j ∧ Desc t i j := by
  unfold below
  cases hb : at? t b with
  | none => simp
  | some j =>
    simp only [Option.some.injEq, exists_and_left, exists_eq_left', List.mem_map]
    constructor
    · rintro ⟨c, hc, rfl⟩
      obtain ⟨n, hc⟩ := List.getElem?_of_mem hc
      rw [List.getElem?_take] at hc
      split at hc
      · rename_i hlt
        rw [List.getElem?_drop] at hc
        exact ⟨j + 1 + n, at?_nd hn hc, cnt_iff.1 hlt⟩
      · cases hc
    · rintro ⟨i, hi, hd⟩
      obtain ⟨c, hc, rfl⟩ := at?_get hi
      obtain ⟨b', hb', hji, hil, hh⟩ := hd
      have hd' : Desc t (j + 1 + (i - (j + 1))) j := by
        rw [show j + 1 + (i - (j + 1)) = i by omega]
        exact ⟨b', hb', hji, hil, hh⟩
      have hlt := cnt_iff.2 hd'
      refine ⟨c, ?_, rfl⟩
      refine List.mem_of_getElem? (i := i - (j + 1)) ?_
      rw [List.getElem?_take, if_pos hlt, List.getElem?_drop, show j + 1 + (i - (j + 1)) = i by omega]
      exact hc

theorem up_some {d : Int} {t : List B} : ∀ {i : Nat} {c : B}, i ≤ t.length → (up d t i = some c ↔ ∃ m, m < i ∧ t[m]? = some c ∧ c.d < d ∧ ∀ (m' : Nat) (c' : B), m < m' → m' < i → t[m']? = some c' → d ≤ c'.d)
  | 0, c, _ => by simp [up]
  | i + 1, c, hi => by
    obtain ⟨b, hb⟩ : ∃ b, t[i]? = some b := ⟨_, List.getElem?_eq_getElem (by omega)⟩
    rw [up, hb]
    simp only
    split
    · rename_i hd
      constructor
      · intro h
        simp only [Option.some.injEq] at h
        subst h
        exact ⟨i, by omega, hb, hd, fun m' c' h1 h2 _ => by omega⟩
      · rintro ⟨m, h1, h2, h3, h4⟩
        by_cases hm : m = i
        · subst hm; rw [hb] at h2; exact h2
        · have := h4 i b (by omega) (by omega) hb
          omega
    · rename_i hd
      rw [up_some (by omega)]
      constructor
      · rintro ⟨m, h1, h2, h3, h4⟩
        refine ⟨m, by omega, h2, h3, fun m' c' h5 h6 h7 => ?_⟩
        by_cases hm : m' = i
        · subst hm; rw [hb] at h7; cases h7; omega
        · exact h4 m' c' h5 (by omega) h7
      · rintro ⟨m, h1, h2, h3, h4⟩
        have : m ≠ i := by rintro rfl; rw [hb] at h2; cases h2; exact hd h3
        exact ⟨m, by omega, h2, h3, fun m' c' h5 h6 h7 => h4 m' c' h5 (by omega) h7⟩

theorem up_none {d : Int} {t : List B} : ∀ {i : Nat}, i ≤ t.length → (up d t i = none ↔ ∀ (m : Nat) (c : B), m < i → t[m]? = some c → d ≤ c.d)
  | 0, _ => by simp [up]
  | i + 1, hi => by
    obtain ⟨b, hb⟩ : ∃ b, t[i]? = some b := ⟨_, List.getElem?_eq_getElem (by omega)⟩
    rw [up, hb]
    simp only
    split
    · rename_i hd
      constructor
      · intro h; cases h
      · intro h; have := h i b (by omega) hb; omega
    · rename_i hd
      rw [up_none (by omega)]
      constructor
      · intro h m c h1 h2
        by_cases hm : m = i
        · subst hm; rw [hb] at h2; cases h2; omega
        · exact h m c (by omega) h2
      · intro h m c h1 h2
        exact h m c (by omega) h2

theorem Desc.irr {t : List B} {i : Nat} (h : Desc t i i) : False := by
  obtain ⟨_, _, h, _⟩ := h
  omega
theorem Desc.lt {t : List B} {i j : Nat} (h : Desc t i j) : j < i := by
  obtain ⟨_, _, h, _⟩ := h
  exact h
theorem Desc.trans {t : List B} {i j k : Nat} (h : Desc t i j) (h' : Desc t j k) : Desc t i k := by
  obtain ⟨b, hb, h1, h2, h3⟩ := h
  obtain ⟨c, hc, h4, h5, h6⟩ := h'
  refine ⟨c, hc, by omega, h2, fun m x hm1 hm2 hx => ?_⟩
  by_cases hmj : m ≤ j
  · exact h6 m x hm1 hmj hx
  · have := h3 m x (by omega) hm2 hx
    have := h6 j b h4 (Nat.le_refl _) hb
    omega

/-- The m-th is the parent of the i-th. -/
def Par (t : List B) (i m : Nat) : Prop := ∃ b c, t[i]? = some b ∧ t[m]? = some c ∧ m < i ∧ c.d < b.d ∧ ∀ (m' : Nat) (c' : B), m < m' → m' < i → t[m']? = some c' → b.d ≤ c'.d

theorem Par.desc {t : List B} {i m : Nat} (h : Par t i m) : Desc t i m := by
  obtain ⟨b, c, hb, hc, h1, h2, h3⟩ := h
  refine ⟨c, hc, h1, (List.getElem?_eq_some_iff.1 hb).1, fun m' c' h4 h5 h6 => ?_⟩
  by_cases hm : m' = i
  · subst hm; rw [hb] at h6; cases h6; exact h2
  · have := h3 m' c' h4 (by omega) h6
    omega
theorem Par.between {t : List B} {i m j : Nat} (h : Par t i m) (hd : Desc t i j) : j = m ∨ Desc t m j := by
  obtain ⟨b, c, hb, hc, h1, h2, h3⟩ := h
  obtain ⟨e, he, h4, h5, h6⟩ := hd
  have hej := h6 i b h4 (Nat.le_refl _) hb
  by_cases hjm : j = m
  · exact .inl hjm
  · by_cases hlt : m < j
    · have := h3 j e hlt h4 he
      omega
    · exact .inr ⟨e, he, by omega, by omega, fun m' c' h7 h8 h9 => h6 m' c' h7 (by omega) h9⟩

theorem par_some {t : List B} (hn : (t.map (·.k)).Nodup) {a p : K} : par t a = some p ↔ ∃ i m, at? t a = some i ∧ at? t p = some m ∧ Par t i m := by
  unfold par
  cases ha : at? t a with
  | none => simp
  | some i =>
    obtain ⟨b, hb, rfl⟩ := at?_get ha
    have hi := (List.getElem?_eq_some_iff.1 hb).1
    simp only [hb, Option.map_eq_some_iff, Option.some.injEq, exists_and_left, exists_eq_left']
    constructor
    · rintro ⟨c, hc, rfl⟩
      obtain ⟨m, h1, h2, h3, h4⟩ := (up_some (by omega)).1 hc
      exact ⟨m, at?_nd hn h2, b, c, hb, h2, h1, h3, h4⟩
    · rintro ⟨m, hm, b', c, hb', hc, h1, h2, h3⟩
      rw [hb] at hb'; cases hb'
      obtain ⟨c', hc', hk⟩ := at?_get hm
      rw [hc] at hc'; cases hc'
      exact ⟨c, (up_some (by omega)).2 ⟨m, h1, hc, h2, h3⟩, hk⟩

theorem par_none {t : List B} {a : K} {i : Nat} {b : B} (ha : at? t a = some i) (hb : t[i]? = some b) : par t a = none ↔ ∀ (m : Nat) (c : B), m < i → t[m]? = some c → b.d ≤ c.d := by
  unfold par
  have hi := (List.getElem?_eq_some_iff.1 hb).1
  simp only [ha, hb, Option.map_eq_none_iff]
  exact up_none (by omega)

/-- TreeOrder. -/
theorem order1 {t : List B} (hn : (t.map (·.k)).Nodup) (a : K) : a ∉ below t a := by
  rw [below_iff hn]
  rintro ⟨i, j, hi, hj, hd⟩
  rw [hi] at hj; cases hj
  exact hd.irr
theorem order2 {t : List B} (hn : (t.map (·.k)).Nodup) {a b : K} (h : a ∈ below t b) : b ∉ below t a := by
  rw [below_iff hn] at h ⊢
  rintro ⟨i, j, hi, hj, hd⟩
  obtain ⟨i', j', hi', hj', hd'⟩ := h
  rw [hi] at hj'; cases hj'
  rw [hj] at hi'; cases hi'
  have := hd.lt
  have := hd'.lt
  omega
theorem order3 {t : List B} (hn : (t.map (·.k)).Nodup) {a b c : K} (h : a ∈ below t b) (h' : b ∈ below t c) : a ∈ below t c := by
  rw [below_iff hn] at h h' ⊢
  obtain ⟨i, j, hi, hj, hd⟩ := h
  obtain ⟨i', j', hi', hj', hd'⟩ := h'
  rw [hj] at hi'; cases hi'
  exact ⟨i, j', hi, hj', hd.trans hd'⟩
theorem order4 {t : List B} (hn : (t.map (·.k)).Nodup) {a b : K} (h : par t a = none) : a ∉ below t b := by
  rw [below_iff hn]
  rintro ⟨i, j, hi, hj, e, he, h1, h2, h3⟩
  obtain ⟨x, hx, _⟩ := at?_get hi
  have := (par_none hi hx).1 h j e h1 he
  have := h3 i x h1 (Nat.le_refl _) hx
  omega
theorem order5 {t : List B} (hn : (t.map (·.k)).Nodup) {a p : K} (h : par t a = some p) : a ∈ below t p := by
  rw [par_some hn] at h
  obtain ⟨i, m, hi, hm, hp⟩ := h
  rw [below_iff hn]
  exact ⟨i, m, hi, hm, hp.desc⟩
theorem order6 {t : List B} (hn : (t.map (·.k)).Nodup) {a b p : K} (h : par t a = some p) (hb : a ∈ below t b) : b = p ∨ p ∈ below t b := by
  rw [par_some hn] at h
  obtain ⟨i, m, hi, hm, hp⟩ := h
  rw [below_iff hn] at hb ⊢
  obtain ⟨i', j, hi', hj, hd⟩ := hb
  rw [hi] at hi'; cases hi'
  rcases hp.between hd with rfl | hd'
  · obtain ⟨x, hx, rfl⟩ := at?_get hm
    obtain ⟨y, hy, rfl⟩ := at?_get hj
    rw [hx] at hy; cases hy
    exact .inl rfl
  · exact .inr ⟨m, j, hm, hj, hd'⟩

end Go.Proofs.Ytpgkpdojpmikkaa.Eng

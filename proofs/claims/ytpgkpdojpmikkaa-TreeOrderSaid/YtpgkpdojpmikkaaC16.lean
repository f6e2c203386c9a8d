/-
  Contracts: the iterator of those below a place; Below, Descends.
-/
import Derived.Test.YtpgkpdojpmikkaaC15
set_option linter.unusedVariables false
set_option linter.unusedSimpArgs false
set_option maxRecDepth 100000
namespace Go.Proofs.Ytpgkpdojpmikkaa.Eng
open Go Go.Proofs

/-- Those below a place. -/
def bel (t : List B) (i : Nat) : List K := ((t.drop (i + 1)).take (cnt t i)).map (·.k)

theorem cntD_le (d : Int) (l : List B) : cntD d l ≤ l.length := (List.takeWhile_sublist _).length_le
theorem cntD_lt {d : Int} : ∀ {l : List B} {j : Nat}, j < cntD d l → ∃ b, l[j]? = some b ∧ d < b.d
  | [], j, h => by simp [cntD] at h
  | b :: l, j, h => by
    by_cases hd : d < b.d
    · cases j with
      | zero => exact ⟨b, rfl, hd⟩
      | succ j =>
        have : j < cntD d l := by simp [cntD, hd] at h ⊢; omega
        simpa using cntD_lt this
    · simp [cntD, hd] at h
theorem cntD_end {d : Int} : ∀ {l : List B} {b : B}, l[cntD d l]? = some b → ¬ d < b.d
  | [], b, h => by simp [cntD] at h
  | c :: l, b, h => by
    by_cases hd : d < c.d
    · have : cntD d (c :: l) = cntD d l + 1 := by simp [cntD, hd]
      rw [this] at h
      exact cntD_end (l := l) (by simpa using h)
    · have : cntD d (c :: l) = 0 := by simp [cntD, hd]
      rw [this] at h
      simp at h
      subst h; exact hd
theorem bel_length {t : List B} {i : Nat} (hi : i < t.length) : (bel t i).length = cnt t i := by
  have : cnt t i ≤ (t.drop (i + 1)).length := by unfold cnt; rw [List.getElem?_eq_getElem hi]; exact cntD_le _ _
  simp [bel] at this ⊢; omega
theorem bel_drop {t : List B} {i j : Nat} (hi : i < t.length) (hj : j < cnt t i) : ∃ h : i + 1 + j < t.length, (bel t i).drop j = t[i + 1 + j].k :: (bel t i).drop (j + 1) ∧ t[i].d < t[i + 1 + j].d := by
  have hc : cnt t i = cntD t[i].d (t.drop (i + 1)) := by unfold cnt; rw [List.getElem?_eq_getElem hi]
  rw [hc] at hj
  obtain ⟨b, hb, hd⟩ := cntD_lt hj
  simp at hb
  obtain ⟨h1, h2⟩ := List.getElem?_eq_some_iff.1 hb
  refine ⟨h1, ?_, by rw [h2]; exact hd⟩
  rw [← hc] at hj
  have hl : j < (bel t i).length := by rw [bel_length hi]; exact hj
  rw [List.drop_eq_getElem_cons hl]
  congr 1
  simp [bel]
theorem bel_none {t : List B} {i : Nat} (hi : i < t.length) (h : i + 1 + cnt t i < t.length) : ¬ t[i].d < t[i + 1 + cnt t i].d := by
  have hc : cnt t i = cntD t[i].d (t.drop (i + 1)) := by unfold cnt; rw [List.getElem?_eq_getElem hi]
  have : (t.drop (i + 1))[cntD t[i].d (t.drop (i + 1))]? = some t[i + 1 + cnt t i] := by
    rw [← hc]; simp [h]
  exact cntD_end this

def kr (l : List K) : List (List AV) := l.map fun k => [k.av]
theorem kr_cons (k : K) (l : List K) : kr (k :: l) = [.agg [iv k.o, iv k.s]] :: kr l := rfl
@[simp] theorem clR_kr (m : Mem) (l : List K) : clR m (kr l) = true := clR_map (fun b => by simp [K.row]) l

set_option maxHeartbeats 4000000 in
theorem c70 (t : List B) (i : Nat) (hi : i < t.length) (ht : t.length ≤ 1000000) : IterC Try.prog 70 [.rp [tl t], .rp [iv i]] (kr (bel t i)) := by
  refine fun_iter Try.func70 a70_ok (by simp [a70]) (fun l => ?_)
  have hw1 := wrap64 (n := (i : Int) + 1) (by omega) (by omega)
  have hn1 : ((i : Int) + 1).toNat = i + 1 := by omega
  have hp1 : (0 : Int) ≤ (i : Int) + 1 := by omega
  have hle : i + 1 ≤ t.length := by omega
  have hbl := bel_length hi
  have hcl : i + 1 + cnt t i ≤ t.length := by
    have : cnt t i ≤ (t.drop (i + 1)).length := by unfold cnt; rw [List.getElem?_eq_getElem hi]; exact cntD_le _ _
    simp at this; omega
  have htk : (t.map B.row).take t.length = t.map B.row := List.take_of_length_le (by simp)
  have hcd : ∀ m : Mem, clR m ((t.map B.row).drop (i + 1)) = true := fun m => by rw [← List.map_drop]; exact clR_tl m _
  simp [a70, hw1, hn1, hp1, hle, htk]
  refine awp_loopF (fun k s => ∃ j, j ≤ cnt t i ∧ k = t.length - j ∧ s.e 0 = .yld l ∧ s.e 1 = .rp [tl t] ∧ s.e 2 = .rp [iv i] ∧ (∃ f, s.e 9 = .sl 4 f ((t.drop (i + 1)).map B.row)) ∧ s.e 10 = iv (t.length - (i + 1) : Nat) ∧ s.e 11 = iv j ∧ s.m = oneM yB ⟨0, [.int .i64 l] :: kr ((bel t i).drop j), true⟩) t.length ?_ ?_
  · refine ⟨_, .inr (fgt_y [0, 1, 2, 9, 10, 11] ⟨0, [.int .i64 l] :: kr (bel t i), true⟩ 0 (by simp) (by intro a ha; simp [ha]) (by simp [hcd]) (by simp)), 0, by simp⟩
  · rintro n ⟨e, m, nx⟩ ⟨j, hj, rfl, h0, h1, h2, ⟨f, h9⟩, h10, h11, hm⟩
    simp only at h0 h1 h2 h9 h10 h11 hm
    subst hm
    have hw2 := wrap64 (n := (j : Int) + 1) (by omega) (by omega)
    by_cases hlt : j < t.length - (i + 1)
    · have hlt' : i + 1 + j < t.length := by omega
      by_cases hd : t[i].d < t[i + 1 + j].d
      · have hjc : j < cnt t i := by
          rcases Nat.lt_or_ge j (cnt t i) with h | h
          · exact h
          · have : j = cnt t i := by omega
            subst this
            exact absurd hd (bel_none hi hlt')
        obtain ⟨_, hdrop, _⟩ := bel_drop hi hjc
        have hd' : ¬ t[i + 1 + j].d ≤ t[i].d := by omega
        simp [h0, h1, h2, h9, h10, h11, hlt, hlt', hi, B.row, hd', hdrop, kr_cons]
        refine .mk (t.length - (j + 1)) (by omega) (fgt_y [0, 1, 2, 9, 10, 11] ⟨0, [.int .i64 l] :: kr ((bel t i).drop (j + 1)), true⟩ 0 (by simp) (by intro a ha; simp [ha]) (by simp [h0, h1, h2, h9, h10, hcd]) (by simp)) ⟨j + 1, by omega, rfl, by simp [h0], by simp [h1], by simp [h2], ⟨f, by simp [h9]⟩, by simp [h10], by simp [hw2], rfl⟩
      · have hjc : j = cnt t i := by
          rcases Nat.lt_or_ge j (cnt t i) with h | h
          · obtain ⟨_, _, h3⟩ := bel_drop hi h
            exact absurd h3 hd
          · omega
        have hd' : t[i + 1 + j].d ≤ t[i].d := by omega
        have hend : (bel t i).drop j = [] := List.drop_eq_nil_of_le (by omega)
        simp [h0, h1, h2, h9, h10, h11, hlt, hlt', hi, B.row, hd', hend, kr]
    · have hjc : j = cnt t i := by omega
      have hend : (bel t i).drop j = [] := List.drop_eq_nil_of_le (by omega)
      simp [h10, h11, hlt, hend, kr]

theorem c52 (t : List B) (i : Int) : PureC Try.prog 52 [tl t, iv i] (.fn 70 [.rp [tl t], .rp [iv i]]) := by
  refine fun_ok Try.func52 a52_ok (by simp [a52]) ?_
  simp [a52]

theorem kr_get {l : List K} {i : Nat} {v : List AV} (h : (kr l)[i]? = some v) : ∃ hi : i < l.length, v = [.agg [iv l[i].o, iv l[i].s]] := by
  simp only [kr, List.getElem?_map, Option.map_eq_some_iff] at h
  obtain ⟨a, h1, rfl⟩ := h
  obtain ⟨hi, rfl⟩ := List.getElem?_eq_some_iff.1 h1
  exact ⟨hi, rfl⟩
theorem kr_mem {l : List K} {n : Nat} : ∀ r, r ∈ kr l → r.length = 1 ∧ scalL r = true := by
  intro r hr
  simp only [kr, List.mem_map] at hr
  obtain ⟨a, _, rfl⟩ := hr
  simp [K.row]
@[simp] theorem kr_length (l : List K) : (kr l).length = l.length := by simp [kr]

set_option maxHeartbeats 4000000 in
theorem c69 (f : FuncId) (caps : List AV) (l : List K) (hl : l.length ≤ 1000000) (hcap : purL (fun _ => none) caps = some caps) (hr : refsL caps = []) (hI : IterC Try.prog f caps (kr l)) : PureC Try.prog 69 [.sl 2 true [], .fn f caps] (kl l) := by
  refine fun_ok Try.func69 a69_ok (by simp [a69]) ?_
  simp [a69]
  have hpm : ∀ m : Mem, purL m caps = some caps := fun m => by rw [← hcap]; exact purL_congr (fun b hb => by rw [hr] at hb; cases hb)
  refine awp_range (fun i nx m => (∀ a n, nx < n → m (a, n) = none) ∧ ((i = 0 ∧ m (0, 1) = some ⟨1, [[.sl 2 true []]], true⟩) ∨ ∃ a n, m (0, 1) = some ⟨1, [[.own (a, n) i]], true⟩ ∧ m (a, n) = some ⟨2, (l.take i).map K.row, true⟩ ∧ (a, n) ≠ (0, 1))) hI (by simp) (hpm _) (kr_mem (n := 1)) ?_ ?_ ?_
  · refine ⟨?_, .inl ⟨rfl, ?_⟩⟩
    · rw [hr]; intro a n hn; have hn1 : n ≠ 1 := by simp at hn; omega
      simp [fzW, hn1]
    · rw [hr]; simp [fzW]
  · rintro i v nx m hv ⟨hfr, hm⟩
    obtain ⟨hi, rfl⟩ := kr_get hv
    have f1 : m (2000, nx + 1) = none := hfr _ _ (by omega)
    have f2 : m (3003, nx + 1 + 1) = none := hfr _ _ (by omega)
    have hlen : ((l.take i).map K.row).length = i := by simp; omega
    rcases hm with ⟨rfl, hm⟩ | ⟨a, n, hm, hm2, hne⟩
    · simp [f1, f2, hm]
      refine ⟨fun a n hn => ?_, 3003, nx + 1 + 1, ⟨rfl, rfl⟩, ?_, by omega⟩
      · rw [if_neg (by omega), if_neg (by omega), if_neg (by omega), if_neg (by omega)]
        exact hfr _ _ (by omega)
      · simp
        rw [← List.map_take, List.take_add_one]
        simp [hi, K.row]
    · have hne2 : (a, n) ≠ (2000, nx + 1) := fun e => by rw [e, f1] at hm2; cases hm2
      have hbig : (i + 1) * 16 ≤ 140737488355328 := by omega
      have hne' : ¬ (a = 0 ∧ n = 1) := fun h => hne (by rw [h.1, h.2])
      have hne2' : ¬ (a = 2000 ∧ n = nx + 1) := fun h => hne2 (by rw [h.1, h.2])
      have hne3 : ¬ (0 = a ∧ 1 = n) := fun h => hne (by rw [← h.1, ← h.2])
      have hmin : min i l.length = i := by omega
      simp [f1, f2, hm, hm2, hne', hne2', hne3, hmin, hbig]
      refine ⟨fun a' n' hn => ?_, a, n, ⟨rfl, rfl⟩, ?_, ?_⟩
      · rw [if_neg (by omega), if_neg, if_neg (by omega), if_neg (by omega)]
        · exact hfr _ _ (by omega)
        · rintro ⟨rfl, rfl⟩
          rw [hfr _ _ (by omega)] at hm2; cases hm2
      · rw [if_neg hne']
        simp
        rw [List.take_add_one, List.getElem?_map, List.getElem?_eq_getElem hi]; rfl
      · rintro rfl rfl; exact hne rfl
  · rintro nx m ⟨_, hm⟩
    rcases hm with ⟨h0, hm⟩ | ⟨a, n, hm, hm2, _⟩
    · have : l = [] := List.eq_nil_of_length_eq_zero (by simpa using h0)
      subst this
      simp [hm]
    · simp at hm hm2
      simp [hm, hm2]

theorem c51 (t : List B) (i : Nat) (hi : i < t.length) (ht : t.length ≤ 1000000) : PureC Try.prog 51 [.fn 70 [.rp [tl t], .rp [iv i]]] (kl (bel t i)) := by
  have hl : (bel t i).length ≤ 1000000 := by
    rw [bel_length hi]
    have : cnt t i ≤ (t.drop (i + 1)).length := by unfold cnt; rw [List.getElem?_eq_getElem hi]; exact cntD_le _ _
    simp at this; omega
  refine fun_ok Try.func51 a51_ok (by simp [a51]) ?_
  simp [a51]
  refine callK (c69 70 [.rp [tl t], .rp [iv i]] (bel t i) hl (by simp) (by simp) (c70 t i hi ht)) (by simp) ?_
  simp

theorem below_eq {t : List B} {k : K} : below t k = match at? t k with
    | some i => bel t i
    | none => [] := rfl

theorem c25 (t : List B) (k : K) (ht : t.length ≤ 1000000) : PureC Try.prog 25 [tl t, k.av] (kl (below t k)) := by
  refine fun_ok Try.func25 a25_ok (by simp [a25]) ?_
  simp [a25, K.row]
  refine callP (c20 t k ht) (by simp [K.row]) ?_
  cases ha : at? t k with
  | none => simp [below_eq, ha]
  | some i =>
    have hi := at?_lt ha
    simp
    refine callP (c52 t i) (by simp) ?_
    simp
    refine callP (c51 t i hi ht) (by simp) ?_
    simp [below_eq, ha]

theorem below_len (t : List B) (k : K) : (below t k).length ≤ t.length := by
  rw [below_eq]
  cases ha : at? t k with
  | none => simp
  | some i =>
    have hi := at?_lt ha
    simp only
    rw [bel_length hi]
    have : cnt t i ≤ (t.drop (i + 1)).length := by unfold cnt; rw [List.getElem?_eq_getElem hi]; exact cntD_le _ _
    simp at this; omega

theorem c27 (t : List B) (a b : K) (ht : t.length ≤ 1000000) : PureC Try.prog 27 [tl t, a.av, b.av] (.bool (decide (a ∈ below t b))) := by
  refine fun_ok Try.func27 a27_ok (by simp [a27]) ?_
  simp [a27, K.row]
  refine callP (c25 t b ht) (by simp [K.row]) ?_
  simp
  refine callP (c54 (below t b) a (Nat.le_trans (below_len t b) ht)) (by simp [K.row]) ?_
  simp

end Go.Proofs.Ytpgkpdojpmikkaa.Eng

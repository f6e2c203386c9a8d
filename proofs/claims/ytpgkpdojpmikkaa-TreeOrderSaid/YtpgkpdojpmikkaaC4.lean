/-
  Contracts: who is above; those below; put and out.
-/
import Derived.Test.YtpgkpdojpmikkaaC3
set_option linter.unusedVariables false
set_option linter.unusedSimpArgs false
set_option maxRecDepth 100000
namespace Go.Proofs.Ytpgkpdojpmikkaa.Eng
open Go Go.Proofs

/-- The last one ahead of a place that is less deep. -/
def up (d : Int) (t : List B) : Nat → Option B
  | 0 => none
  | i + 1 => match t[i]? with
    | some c => if c.d < d then some c else up d t i
    | none => up d t i
def par (t : List B) (k : K) : Option K := match at? t k with
  | some i => match t[i]? with
    | some b => (up b.d t i).map (·.k)
    | none => none
  | none => none

theorem at?_lt {t : List B} {k : K} {i : Nat} (h : at? t k = some i) : i < t.length := by
  unfold at? at h
  rw [List.findIdx?_eq_some_iff_getElem] at h
  exact h.1

def K.av0 (k : Option K) : AV := (k.getD ⟨0, 0⟩).av

theorem c22 (t : List B) (k : K) (ht : t.length ≤ 1000000) : PureC Try.prog 22 [tl t, k.av] (.tup [((par t k).getD ⟨0, 0⟩).av, .bool (par t k).isSome]) := by
  refine fun_ok Try.func22 a22_ok (by simp [a22]) ?_
  simp [a22, K.row]
  refine callP (c20 t k ht) (by simp [K.row]) ?_
  cases ha : at? t k with
  | none =>
    have hp : par t k = none := by simp [par, ha]
    simp
    refine awp_loop (fun n s => n = 0 ∧ s.e 7 = .bool false ∧ s.e 4 = .ptr (1, 1) 1 0 0 ∧ s.m (1, 1) = some ⟨2, [[iv 0, iv 0]], true⟩) 0 ?_ ?_
    · simp
    · rintro n ⟨e, m, nx⟩ ⟨rfl, h7, h4, hm⟩
      simp only at h7 h4 hm
      simp [h7, h4, hm, hp, K.row]
  | some i =>
    have hi := at?_lt ha
    have hw0 := wrap64 (n := (i : Int) - 1) (by omega) (by omega)
    simp [hw0]
    refine awp_loop (fun n s => ∃ q, q ≤ i ∧ n = q ∧ up t[i].d t i = up t[i].d t q ∧ s.e 0 = tl t ∧ s.e 6 = iv i ∧ s.e 7 = .bool true ∧ s.e 8 = iv ((q : Int) - 1) ∧ s.e 4 = .ptr (1, 1) 1 0 0 ∧ s.m (1, 1) = some ⟨2, [[iv 0, iv 0]], true⟩) i ?_ ?_
    · refine ⟨i, ?_⟩
      simp
    · rintro n ⟨e, m, nx⟩ ⟨q, hq, rfl, hup, h0, h6, h7, h8, h4, hm⟩
      simp only at h0 h6 h7 h8 h4 hm
      have hpar : par t k = (up t[i].d t n).map (·.k) := by simp [par, ha, hi, hup]
      cases n with
      | zero =>
        have hp : par t k = none := by rw [hpar]; rfl
        simp [h0, h6, h7, h8, h4, hm, hp, K.row]
      | succ q =>
        have hqt : q < t.length := by omega
        have hw := wrap64 (n := (q : Int) - 1) (by omega) (by omega)
        by_cases hd : t[q].d < t[i].d
        · have hp : par t k = some t[q].k := by rw [hpar]; simp [up, hqt, hd]
          simp [h0, h6, h7, h8, h4, hm, hp, hi, hqt, hd, B.row, K.row]
        · simp [h0, h6, h7, h8, h4, hm, hi, hqt, hd, hw, B.row, K.row]
          refine ⟨q, by omega, q, by omega, rfl, ?_, rfl⟩
          rw [hup]; simp [up, hqt, hd]

theorem c23 (t : List B) (k : K) (ht : t.length ≤ 1000000) : PureC Try.prog 23 [tl t, k.av] (.tup [((par t k).getD ⟨0, 0⟩).av, .bool (par t k).isSome]) := by
  refine fun_ok Try.func23 a23_ok (by simp [a23]) ?_
  simp [a23, K.row]
  refine callP (c21 t k ht) (by simp [K.row]) ?_
  cases ha : at? t k with
  | none =>
    have hp : par t k = none := by simp [par, ha]
    simp [hp, K.row]
  | some i =>
    have hi := at?_lt ha
    have hw0 := wrap64 (n := (i : Int) - 1) (by omega) (by omega)
    simp [hw0]
    refine awp_loop (fun n s => ∃ q, q ≤ i ∧ n = q ∧ up t[i].d t i = up t[i].d t q ∧ s.e 0 = tl t ∧ s.e 6 = iv i ∧ s.e 8 = iv ((q : Int) - 1) ∧ s.e 4 = .ptr (1, 1) 1 0 0 ∧ s.m (1, 1) = some ⟨2, [[iv 0, iv 0]], true⟩) i ?_ ?_
    · refine ⟨i, ?_⟩
      simp
    · rintro n ⟨e, m, nx⟩ ⟨q, hq, rfl, hup, h0, h6, h8, h4, hm⟩
      simp only at h0 h6 h8 h4 hm
      have hpar : par t k = (up t[i].d t n).map (·.k) := by simp [par, ha, hi, hup]
      cases n with
      | zero =>
        have hp : par t k = none := by rw [hpar]; rfl
        simp [h0, h6, h8, h4, hm, hp, K.row]
      | succ q =>
        have hqt : q < t.length := by omega
        have hw := wrap64 (n := (q : Int) - 1) (by omega) (by omega)
        by_cases hd : t[q].d < t[i].d
        · have hp : par t k = some t[q].k := by rw [hpar]; simp [up, hqt, hd]
          simp [h0, h6, h8, h4, hm, hp, hi, hqt, hd, B.row, K.row]
        · simp [h0, h6, h8, h4, hm, hi, hqt, hd, hw, B.row, K.row]
          refine ⟨q, by omega, q, by omega, rfl, ?_, rfl⟩
          rw [hup]; simp [up, hqt, hd]

/-- Those below a key. -/
def below (t : List B) (k : K) : List K := match at? t k with
  | some i => ((t.drop (i + 1)).take (cnt t i)).map (·.k)
  | none => []

theorem cnt_le (t : List B) (i : Nat) : i + 1 + cnt t i ≤ t.length ∨ cnt t i = 0 := by
  unfold cnt
  split
  · rename_i b hb
    have hi := (List.getElem?_eq_some_iff.1 hb).1
    have : cntD b.d (t.drop (i + 1)) ≤ (t.drop (i + 1)).length := (List.takeWhile_sublist _).length_le
    simp at this
    left; omega
  · exact .inr rfl

theorem c26 (t : List B) (k : K) (ht : t.length ≤ 1000000) : PureC Try.prog 26 [tl t, k.av] (kl (below t k)) := by
  refine fun_ok Try.func26 a26_ok (by simp [a26]) ?_
  simp [a26, K.row]
  refine callP (c21 t k ht) (by simp [K.row]) ?_
  cases ha : at? t k with
  | none => simp [below, ha]
  | some i =>
    have hi := at?_lt ha
    have hb : t[i]? = some t[i] := List.getElem?_eq_getElem hi
    have hcl := cnt_le t i
    have hB : below t k = ((t.drop (i + 1)).take (cnt t i)).map (·.k) := by simp [below, ha]
    have hBl : (below t k).length = cnt t i := by rw [hB]; simp; omega
    simp
    refine awp_loop (fun n s => ∃ q, q ≤ cnt t i ∧ n = cnt t i - q ∧ s.e 0 = tl t ∧ s.e 5 = iv i ∧ s.e 8 = iv q ∧ ((q = 0 ∧ s.e 7 = .sl 2 true [] ∧ ∀ nx, s.m (7010, nx) = none) ∨ ∃ id, s.e 7 = .own id q ∧ s.m id = some ⟨2, ((below t k).take q).map K.row, true⟩)) (cnt t i) ?_ ?_
    · refine ⟨0, ?_⟩
      simp
    · rintro n ⟨e, m, nx⟩ ⟨q, hq, rfl, h0, h5, h8, h7⟩
      simp only at h0 h5 h8 h7
      simp [h0, h5, h8]
      refine callP (c53 t i t[i] hb ht) (by simp) ?_
      have hw1 := wrap64 (n := (i : Int) + 1) (by omega) (by omega)
      have hw2 := wrap64 (n := (i : Int) + 1 + q) (by omega) (by omega)
      have hw3 := wrap64 (n := (q : Int) + 1) (by omega) (by omega)
      have hn : ((i : Int) + 1 + q).toNat = i + 1 + q := by omega
      have hp : (0 : Int) ≤ i + 1 + q := by omega
      by_cases hlt : q < cnt t i
      · have hlt' : i + 1 + q < t.length := by omega
        have hnext : (below t k).take (q + 1) = (below t k).take q ++ [t[i + 1 + q].k] := by
          rw [List.take_add_one, hB]
          simp [List.getElem?_take, hlt, hlt']
        rcases h7 with ⟨rfl, h7, hm⟩ | ⟨id, h7, hm⟩
        · have hlt0 : i + 1 < t.length := by omega
          have hn0 : ((i : Int) + 1).toNat = i + 1 := by omega
          have hp0 : (0 : Int) ≤ i + 1 := by omega
          simp at hnext hw3
          simp [h0, h5, h8, h7, hm, hw1, hlt, hlt0, hn0, hp0, B.row, K.row, hw3]
          refine ⟨cnt t i - 1, by omega, 1, by omega, rfl, rfl, 7010, nx + 1 + 1, ⟨⟨rfl, rfl⟩, rfl⟩, ?_⟩
          rw [← List.map_take, hnext]
          simp [K.row]
        · have hlen : (((below t k).take q).map K.row).length = q := by simp; omega
          have hbig : (q + 1) * 16 ≤ 140737488355328 := by omega
          simp [h0, h5, h8, h7, hm, hw1, hw2, hw3, hlt, hlt', hn, hp, B.row, K.row, hBl, hq, hbig]
          obtain ⟨i1, i2⟩ := id
          refine ⟨cnt t i - (q + 1), by omega, q + 1, by omega, rfl, rfl, i1, i2, ⟨rfl, rfl⟩, ?_⟩
          rw [if_pos rfl, ← List.map_take, ← List.map_take, hnext]
          simp [K.row]
      · have hqe : q = cnt t i := by omega
        rcases h7 with ⟨hq0, h7, hm⟩ | ⟨id, h7, hm⟩
        · have : below t k = [] := List.eq_nil_of_length_eq_zero (by omega)
          simp [h0, h5, h8, h7, hlt, this]
        · have e1 : (below t k).take q = below t k := List.take_of_length_le (by omega)
          rw [e1] at hm
          simp [h0, h5, h8, h7, hm, hlt, hBl, hqe]

theorem c28 (t : List B) (a b : K) (ht : t.length ≤ 1000000) : PureC Try.prog 28 [tl t, a.av, b.av] (.bool (decide (a ∈ below t b))) := by
  have hl : (below t b).length ≤ 1000000 := by
    unfold below; split <;> simp; omega
  refine fun_ok Try.func28 a28_ok (by simp [a28]) ?_
  simp [a28, K.row]
  refine callP (c26 t b ht) (by simp [K.row]) ?_
  simp [K.row]
  refine callP (c55 (below t b) a hl) (by simp [K.row]) ?_
  simp


end Go.Proofs.Ytpgkpdojpmikkaa.Eng

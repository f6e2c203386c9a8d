/-
  Contracts: whether a list is a tree (the document's answer).
-/
import Derived.Test.YtpgkpdojpmikkaaC5
set_option linter.unusedVariables false
set_option linter.unusedSimpArgs false
set_option maxRecDepth 100000
namespace Go.Proofs.Ytpgkpdojpmikkaa.Eng
open Go Go.Proofs

/-- Going on behind the keys that have been: may the rest be? -/
def chkT (seen : List K) (most : Int) : List B → Bool
  | [] => true
  | b :: r => !decide (b.k ∈ seen) && b.k.ok && decide (0 ≤ b.d) && decide (b.d ≤ most) && chkT (seen ++ [b.k]) (b.d + 1) r
def isT (t : List B) : Bool := decide (t.length ≤ 512) && chkT [] 0 t
def mostAt (t : List B) : Nat → Int
  | 0 => 0
  | j + 1 => match t[j]? with
    | some p => p.d + 1
    | none => 0

theorem at?_self {t : List B} {i : Nat} (hi : i < t.length) : (at? t t[i].k = some i ∧ t[i].k ∉ (t.take i).map (·.k)) ∨ (∃ j, j < i ∧ at? t t[i].k = some j ∧ t[i].k ∈ (t.take i).map (·.k)) := by
  by_cases h : t[i].k ∈ (t.take i).map (·.k)
  · right
    cases ha : at? t t[i].k with
    | none =>
      unfold at? at ha
      rw [List.findIdx?_eq_none_iff] at ha
      have := ha t[i] (List.getElem_mem hi)
      simp at this
    | some j =>
      refine ⟨j, ?_, rfl, h⟩
      unfold at? at ha
      rw [List.findIdx?_eq_some_iff_getElem] at ha
      obtain ⟨hj, _, hlt⟩ := ha
      simp only [List.mem_map] at h
      obtain ⟨b, hb, hbk⟩ := h
      obtain ⟨q, hq⟩ := List.getElem?_of_mem hb
      rw [List.getElem?_take] at hq
      split at hq
      · rename_i hqi
        have hq' : q < t.length := by omega
        rw [List.getElem?_eq_getElem hq'] at hq
        simp at hq
        by_cases hjq : j < i
        · exact hjq
        · have := hlt q (by omega)
          simp [hq, hbk] at this
      · simp at hq
  · left
    refine ⟨at?_some (List.getElem?_eq_getElem hi) rfl (fun j b hj hb he => h ?_), h⟩
    rw [List.mem_map]
    exact ⟨b, List.mem_of_getElem? (i := j) (by rw [List.getElem?_take]; simp [hj, hb]), he⟩

theorem c47' (k : K) : PureC Try.prog 47 [k.av] (.bool k.ok) := c47 k

theorem regCut {P : Program} {rid : Nat} {ops : List AOper} {Q : AExit → St → Prop} {e : AEnv} {m : Mem} {nx : Nat} (R : AEnv → Mem → Prop) (h1 : rops P rid nx 0 ops e m R) (h2 : ∀ e m, R e m → Q .normal ⟨e, m, nx + 1⟩) : awp P (.region rid ops) Q ⟨e, m, nx⟩ := rops_mono ops h2 h1
theorem dregCut {P : Program} {rid : Nat} {ops : List AOper} {us : List (Nat × Nat)} {Q : AExit → St → Prop} {e : AEnv} {m : Mem} {nx : Nat} (R : AEnv → Mem → Prop) (h1 : ropsD P rid nx 0 ops e m [] fun e m acc => dchk rid nx us acc ∧ R e m) (h2 : ∀ e m, R e m → Q .normal ⟨e, m, nx + 1⟩) : awp P (.dregion rid ops us) Q ⟨e, m, nx⟩ :=
  ropsD_mono ops (fun e m acc h => ⟨h.1, h2 e m h.2⟩) h1

theorem accApp {acc : List (List Bid × List Bid)} {r w : List Bid} (h : (acc.all fun t => t.2.isEmpty) = true) (hw : w = []) : ((acc ++ [(r, w)]).all fun t => t.2.isEmpty) = true := by
  subst hw; simp [List.all_append, h]

def r18 : List AOper := [⟨some 25, .mv (.t 4), none⟩,
  ⟨some 26, .mv (.t 3), none⟩,
  ⟨some 27, .bin .neq false none (.t 25) (.t 26), none⟩,
  ⟨some 28, .mv (.t 27), none⟩,
  ⟨some 29, .mv (.t 0), some (28, false)⟩,
  ⟨some 30, .mv (.t 3), some (28, false)⟩,
  ⟨some 31, .iaddr 4 (.t 29) (.t 30), some (28, false)⟩,
  ⟨some 32, .faddr 0 (.t 31), some (28, false)⟩,
  ⟨some 33, .load 2 true (.t 32), some (28, false)⟩,
  ⟨some 34, .call (.k (.fn 47 [])) [.t 33], some (28, false)⟩,
  ⟨some 35, .un .not (.t 34), some (28, false)⟩,
  ⟨some 36, .pick (.t 28) (.k (.bool true)) (.t 35), none⟩,
  ⟨some 37, .mv (.t 36), none⟩,
  ⟨some 38, .mv (.t 0), some (37, false)⟩,
  ⟨some 39, .mv (.t 3), some (37, false)⟩,
  ⟨some 40, .iaddr 4 (.t 38) (.t 39), some (37, false)⟩,
  ⟨some 41, .faddr 2 (.t 40), some (37, false)⟩,
  ⟨some 42, .load 1 false (.t 41), some (37, false)⟩,
  ⟨some 43, .bin .lss false none (.t 42) (.k (.int .i64 (0))), some (37, false)⟩,
  ⟨some 44, .pick (.t 37) (.k (.bool true)) (.t 43), none⟩,
  ⟨some 45, .mv (.t 44), none⟩,
  ⟨some 46, .mv (.t 3), some (45, false)⟩,
  ⟨some 47, .bin .eql false none (.t 46) (.k (.int .i64 (0))), some (45, false)⟩,
  ⟨some 48, .mv (.t 47), some (45, false)⟩,
  ⟨some 49, .mv (.t 0), some (48, true)⟩,
  ⟨some 50, .mv (.t 3), some (48, true)⟩,
  ⟨some 51, .iaddr 4 (.t 49) (.t 50), some (48, true)⟩,
  ⟨some 52, .faddr 2 (.t 51), some (48, true)⟩,
  ⟨some 53, .load 1 false (.t 52), some (48, true)⟩,
  ⟨some 54, .bin .neq false none (.t 53) (.k (.int .i64 (0))), some (48, true)⟩,
  ⟨some 55, .pick (.t 48) (.t 54) (.k (.bool false)), some (45, false)⟩,
  ⟨some 56, .pick (.t 45) (.k (.bool true)) (.t 55), none⟩,
  ⟨some 57, .mv (.t 56), none⟩,
  ⟨some 58, .mv (.t 3), some (57, false)⟩,
  ⟨some 59, .bin .gtr false none (.t 58) (.k (.int .i64 (0))), some (57, false)⟩,
  ⟨some 60, .mv (.t 59), some (57, false)⟩,
  ⟨some 61, .mv (.t 0), some (60, true)⟩,
  ⟨some 62, .mv (.t 3), some (60, true)⟩,
  ⟨some 63, .iaddr 4 (.t 61) (.t 62), some (60, true)⟩,
  ⟨some 64, .faddr 2 (.t 63), some (60, true)⟩,
  ⟨some 65, .load 1 false (.t 64), some (60, true)⟩,
  ⟨some 66, .mv (.t 0), some (60, true)⟩,
  ⟨some 67, .mv (.t 3), some (60, true)⟩,
  ⟨some 68, .bin .sub false none (.t 67) (.k (.int .i64 (1))), some (60, true)⟩,
  ⟨some 69, .iaddr 4 (.t 66) (.t 68), some (60, true)⟩,
  ⟨some 70, .faddr 2 (.t 69), some (60, true)⟩,
  ⟨some 71, .load 1 false (.t 70), some (60, true)⟩,
  ⟨some 72, .bin .add false none (.t 71) (.k (.int .i64 (1))), some (60, true)⟩,
  ⟨some 73, .bin .gtr false none (.t 65) (.t 72), some (60, true)⟩,
  ⟨some 74, .pick (.t 60) (.t 73) (.k (.bool false)), some (57, false)⟩,
  ⟨some 75, .pick (.t 57) (.k (.bool true)) (.t 74), none⟩]
def u18 : List (Nat × Nat) := [(0, 1), (4, 5), (13, 14), (24, 25), (36, 37), (36, 41), (37, 41), (38, 41), (39, 41), (40, 41), (36, 42), (37, 42), (38, 42), (39, 42), (40, 42), (41, 42), (36, 43), (37, 43), (38, 43), (39, 43), (40, 43), (41, 43), (36, 44), (37, 44), (38, 44), (39, 44), (40, 44), (36, 45), (37, 45), (38, 45), (39, 45), (40, 45), (36, 46), (37, 46), (38, 46), (39, 46), (40, 46), (36, 47), (37, 47), (38, 47), (39, 47), (40, 47)]

/-- What the document's answer finds bad at a place. -/
def badAt (t : List B) (i : Nat) (b : B) : Bool := decide ((at? t b.k).getD 0 ≠ i) || (!b.k.ok || (decide (b.d < 0) || decide (mostAt t i < b.d)))

set_option maxHeartbeats 4000000 in
theorem w18 (t : List B) (i : Nat) (hlt : i < t.length) (ht : t.length ≤ 1000000) (hd : ∀ p, 0 < i → t[i - 1]? = some p → 0 ≤ p.d ∧ p.d ≤ (i : Int) - 1) (e : AEnv) (m : Mem) (nx : Nat) (h0 : e 0 = tl t) (h3 : e 3 = iv i) (h4 : e 4 = iv ((at? t t[i].k).getD 0 : Nat)) :
    ropsD Try.prog 7 nx 0 r18 e m [] (fun e m acc => dchk 7 nx u18 acc ∧ e 0 = tl t ∧ e 3 = iv i ∧ e 75 = .bool (badAt t i t[i])) := by
  unfold r18
  by_cases ha : (at? t t[i].k).getD 0 = i
  · rw [ha] at h4
    cases hok : t[i].k.ok with
    | false =>
      have hb : badAt t i t[i] = true := by simp [badAt, hok]
      rw [hb]
      iterate 9 refine opTD (by simp [h0, h3, hlt, B.row, K.row, h4, hok]) (by simp [h0, h3, hlt, B.row, K.row, h4, hok]; exact ⟨rfl, rfl⟩) ?_
      refine opCD (c47' t[i].k) (by simp [h4]) (by rfl) (by simp [h0, h3, hlt, B.row, K.row]) ?_
      iterate 3 refine opTD (by simp [h0, h3, hlt, B.row, K.row, h4, hok]) (by simp [h0, h3, hlt, B.row, K.row, h4, hok]; exact ⟨rfl, rfl⟩) ?_
      iterate 6 refine opFD (by simp [h0, h3, hlt, B.row, K.row, h4, hok]) ?_
      iterate 2 refine opTD (by simp [h0, h3, hlt, B.row, K.row, h4, hok]) (by simp [h0, h3, hlt, B.row, K.row, h4, hok]; exact ⟨rfl, rfl⟩) ?_
      iterate 10 refine opFD (by simp [h0, h3, hlt, B.row, K.row, h4, hok]) ?_
      iterate 2 refine opTD (by simp [h0, h3, hlt, B.row, K.row, h4, hok]) (by simp [h0, h3, hlt, B.row, K.row, h4, hok]; exact ⟨rfl, rfl⟩) ?_
      iterate 17 refine opFD (by simp [h0, h3, hlt, B.row, K.row, h4, hok]) ?_
      refine opTD (by simp [h0, h3, hlt, B.row, K.row, h4, hok]) (by simp [h0, h3, hlt, B.row, K.row, h4, hok]; exact ⟨rfl, rfl⟩) ?_
      refine opED ?_
      refine ⟨.inl ?_, by simp [h0], by simp [h3], by simp⟩
      iterate 51 refine accApp ?_ rfl
      exact rfl
    | true =>
      by_cases hd0 : t[i].d < 0
      · have hb : badAt t i t[i] = true := by simp [badAt, hd0]
        rw [hb]
        iterate 9 refine opTD (by simp [h0, h3, hlt, B.row, K.row, h4, hok, hd0]) (by simp [h0, h3, hlt, B.row, K.row, h4, hok, hd0]; exact ⟨rfl, rfl⟩) ?_
        refine opCD (c47' t[i].k) (by simp [h4]) (by rfl) (by simp [h0, h3, hlt, B.row, K.row]) ?_
        iterate 11 refine opTD (by simp [h0, h3, hlt, B.row, K.row, h4, hok, hd0]) (by simp [h0, h3, hlt, B.row, K.row, h4, hok, hd0]; exact ⟨rfl, rfl⟩) ?_
        iterate 10 refine opFD (by simp [h0, h3, hlt, B.row, K.row, h4, hok, hd0]) ?_
        iterate 2 refine opTD (by simp [h0, h3, hlt, B.row, K.row, h4, hok, hd0]) (by simp [h0, h3, hlt, B.row, K.row, h4, hok, hd0]; exact ⟨rfl, rfl⟩) ?_
        iterate 17 refine opFD (by simp [h0, h3, hlt, B.row, K.row, h4, hok, hd0]) ?_
        refine opTD (by simp [h0, h3, hlt, B.row, K.row, h4, hok, hd0]) (by simp [h0, h3, hlt, B.row, K.row, h4, hok, hd0]; exact ⟨rfl, rfl⟩) ?_
        refine opED ?_
        refine ⟨.inl ?_, by simp [h0], by simp [h3], by simp⟩
        iterate 51 refine accApp ?_ rfl
        exact rfl
      · have hd0' : 0 ≤ t[i].d := by omega
        by_cases hi0 : i = 0
        · subst hi0
          by_cases hz : t[0].d = 0
          · have hb : badAt t 0 t[0] = false := by simp [badAt, hok, hz, ha, mostAt]
            rw [hb]
            iterate 9 refine opTD (by simp [h0, h3, hlt, B.row, K.row, h4, hok, hd0, hz]) (by simp [h0, h3, hlt, B.row, K.row, h4, hok, hd0, hz]; exact ⟨rfl, rfl⟩) ?_
            refine opCD (c47' t[0].k) (by simp [h4]) (by rfl) (by simp [h0, h3, hlt, B.row, K.row]) ?_
            iterate 26 refine opTD (by simp [h0, h3, hlt, B.row, K.row, h4, hok, hd0, hz]) (by simp [h0, h3, hlt, B.row, K.row, h4, hok, hd0, hz]; exact ⟨rfl, rfl⟩) ?_
            iterate 13 refine opFD (by simp [h0, h3, hlt, B.row, K.row, h4, hok, hd0, hz]) ?_
            iterate 2 refine opTD (by simp [h0, h3, hlt, B.row, K.row, h4, hok, hd0, hz]) (by simp [h0, h3, hlt, B.row, K.row, h4, hok, hd0, hz]; exact ⟨rfl, rfl⟩) ?_
            refine opED ?_
            refine ⟨.inl ?_, by simp [h0], by simp [h3], by simp⟩
            iterate 51 refine accApp ?_ rfl
            exact rfl
          · have hb : badAt t 0 t[0] = true := by
              have : (0 : Int) < t[0].d := by omega
              simp [badAt, mostAt, this]
            rw [hb]
            iterate 9 refine opTD (by simp [h0, h3, hlt, B.row, K.row, h4, hok, hd0, hz]) (by simp [h0, h3, hlt, B.row, K.row, h4, hok, hd0, hz]; exact ⟨rfl, rfl⟩) ?_
            refine opCD (c47' t[0].k) (by simp [h4]) (by rfl) (by simp [h0, h3, hlt, B.row, K.row]) ?_
            iterate 23 refine opTD (by simp [h0, h3, hlt, B.row, K.row, h4, hok, hd0, hz]) (by simp [h0, h3, hlt, B.row, K.row, h4, hok, hd0, hz]; exact ⟨rfl, rfl⟩) ?_
            iterate 17 refine opFD (by simp [h0, h3, hlt, B.row, K.row, h4, hok, hd0, hz]) ?_
            refine opTD (by simp [h0, h3, hlt, B.row, K.row, h4, hok, hd0, hz]) (by simp [h0, h3, hlt, B.row, K.row, h4, hok, hd0, hz]; exact ⟨rfl, rfl⟩) ?_
            refine opED ?_
            refine ⟨.inl ?_, by simp [h0], by simp [h3], by simp⟩
            iterate 51 refine accApp ?_ rfl
            exact rfl
        · have hp : i - 1 < t.length := by omega
          have hdp := hd t[i - 1] (by omega) (List.getElem?_eq_getElem hp)
          have hw2 := wrap64 (n := (i : Int) - 1) (by omega) (by omega)
          have hw3 := wrap64 (n := t[i - 1].d + 1) (by omega) (by omega)
          have hn1 : ((i : Int) - 1).toNat = i - 1 := by omega
          have hn2 : (1 : Int) ≤ i := by omega
          have hn3 : (0 : Int) < i := by omega
          have hn4 : ¬ ((i : Int) = 0) := by omega
          have hn5 : 0 < i := by omega
          have hm : mostAt t i = t[i - 1].d + 1 := by obtain ⟨q, rfl⟩ : ∃ q, i = q + 1 := ⟨i - 1, by omega⟩; simp [mostAt, show q < t.length by omega]
          by_cases hz : t[i - 1].d + 1 < t[i].d
          · have hb : badAt t i t[i] = true := by simp [badAt, hm, hz]
            rw [hb]
            iterate 9 refine opTD (by simp [h0, h3, hlt, B.row, K.row, h4, hok, hd0, hi0, hp, hw2, hw3, hn1, hn2, hn3, hn4, hn5, hz]) (by simp [h0, h3, hlt, B.row, K.row, h4, hok, hd0, hi0, hp, hw2, hw3, hn1, hn2, hn3, hn4, hn5, hz]; exact ⟨rfl, rfl⟩) ?_
            refine opCD (c47' t[i].k) (by simp [h4]) (by rfl) (by simp [h0, h3, hlt, B.row, K.row]) ?_
            iterate 14 refine opTD (by simp [h0, h3, hlt, B.row, K.row, h4, hok, hd0, hi0, hp, hw2, hw3, hn1, hn2, hn3, hn4, hn5, hz]) (by simp [h0, h3, hlt, B.row, K.row, h4, hok, hd0, hi0, hp, hw2, hw3, hn1, hn2, hn3, hn4, hn5, hz]; exact ⟨rfl, rfl⟩) ?_
            iterate 6 refine opFD (by simp [h0, h3, hlt, B.row, K.row, h4, hok, hd0, hi0, hp, hw2, hw3, hn1, hn2, hn3, hn4, hn5, hz]) ?_
            iterate 21 refine opTD (by simp [h0, h3, hlt, B.row, K.row, h4, hok, hd0, hi0, hp, hw2, hw3, hn1, hn2, hn3, hn4, hn5, hz]) (by simp [h0, h3, hlt, B.row, K.row, h4, hok, hd0, hi0, hp, hw2, hw3, hn1, hn2, hn3, hn4, hn5, hz]; exact ⟨rfl, rfl⟩) ?_
            refine opED ?_
            refine ⟨.inl ?_, by simp [h0], by simp [h3], by simp⟩
            iterate 51 refine accApp ?_ rfl
            exact rfl
          · have hb : badAt t i t[i] = false := by simp [badAt, hm, hz, hok, ha, hd0']
            rw [hb]
            iterate 9 refine opTD (by simp [h0, h3, hlt, B.row, K.row, h4, hok, hd0, hi0, hp, hw2, hw3, hn1, hn2, hn3, hn4, hn5, hz]) (by simp [h0, h3, hlt, B.row, K.row, h4, hok, hd0, hi0, hp, hw2, hw3, hn1, hn2, hn3, hn4, hn5, hz]; exact ⟨rfl, rfl⟩) ?_
            refine opCD (c47' t[i].k) (by simp [h4]) (by rfl) (by simp [h0, h3, hlt, B.row, K.row]) ?_
            iterate 14 refine opTD (by simp [h0, h3, hlt, B.row, K.row, h4, hok, hd0, hi0, hp, hw2, hw3, hn1, hn2, hn3, hn4, hn5, hz]) (by simp [h0, h3, hlt, B.row, K.row, h4, hok, hd0, hi0, hp, hw2, hw3, hn1, hn2, hn3, hn4, hn5, hz]; exact ⟨rfl, rfl⟩) ?_
            iterate 6 refine opFD (by simp [h0, h3, hlt, B.row, K.row, h4, hok, hd0, hi0, hp, hw2, hw3, hn1, hn2, hn3, hn4, hn5, hz]) ?_
            iterate 21 refine opTD (by simp [h0, h3, hlt, B.row, K.row, h4, hok, hd0, hi0, hp, hw2, hw3, hn1, hn2, hn3, hn4, hn5, hz]) (by simp [h0, h3, hlt, B.row, K.row, h4, hok, hd0, hi0, hp, hw2, hw3, hn1, hn2, hn3, hn4, hn5, hz]; exact ⟨rfl, rfl⟩) ?_
            refine opED ?_
            refine ⟨.inl ?_, by simp [h0], by simp [h3], by simp⟩
            iterate 51 refine accApp ?_ rfl
            exact rfl
  · have hb : badAt t i t[i] = true := by simp [badAt, ha]
    rw [hb]
    have hji : ¬ (((at? t t[i].k).getD 0 : Nat) : Int) = i := by omega
    iterate 4 refine opTD (by simp [h0, h3, hlt, B.row, K.row, h4, hji]) (by simp [h0, h3, hlt, B.row, K.row, h4, hji]; exact ⟨rfl, rfl⟩) ?_
    iterate 7 refine opFD (by simp [h0, h3, hlt, B.row, K.row, h4, hji]) ?_
    iterate 2 refine opTD (by simp [h0, h3, hlt, B.row, K.row, h4, hji]) (by simp [h0, h3, hlt, B.row, K.row, h4, hji]; exact ⟨rfl, rfl⟩) ?_
    iterate 6 refine opFD (by simp [h0, h3, hlt, B.row, K.row, h4, hji]) ?_
    iterate 2 refine opTD (by simp [h0, h3, hlt, B.row, K.row, h4, hji]) (by simp [h0, h3, hlt, B.row, K.row, h4, hji]; exact ⟨rfl, rfl⟩) ?_
    iterate 10 refine opFD (by simp [h0, h3, hlt, B.row, K.row, h4, hji]) ?_
    iterate 2 refine opTD (by simp [h0, h3, hlt, B.row, K.row, h4, hji]) (by simp [h0, h3, hlt, B.row, K.row, h4, hji]; exact ⟨rfl, rfl⟩) ?_
    iterate 17 refine opFD (by simp [h0, h3, hlt, B.row, K.row, h4, hji]) ?_
    refine opTD (by simp [h0, h3, hlt, B.row, K.row, h4, hji]) (by simp [h0, h3, hlt, B.row, K.row, h4, hji]; exact ⟨rfl, rfl⟩) ?_
    refine opED ?_
    refine ⟨.inl ?_, by simp [h0], by simp [h3], by simp⟩
    iterate 51 refine accApp ?_ rfl
    exact rfl

theorem chk_step (t : List B) (i : Nat) (hlt : i < t.length) : chkT ((t.take i).map (·.k)) (mostAt t i) (t.drop i) = (!(badAt t i t[i]) && chkT ((t.take (i + 1)).map (·.k)) (mostAt t (i + 1)) (t.drop (i + 1))) := by
  have h2 : (t.take (i + 1)).map (·.k) = (t.take i).map (·.k) ++ [t[i].k] := by rw [List.take_add_one, List.map_append, List.getElem?_eq_getElem hlt]; rfl
  have h3 : mostAt t (i + 1) = t[i].d + 1 := by simp [mostAt, hlt]
  have h1 : decide (t[i].k ∈ (t.take i).map (·.k)) = decide ((at? t t[i].k).getD 0 ≠ i) := by
    rcases at?_self hlt with ⟨ha, hnm⟩ | ⟨j, hj, ha, hnm⟩
    · simp only [hnm, ha]; simp
    · simp only [hnm, ha]; simp; omega
  rw [List.drop_eq_getElem_cons hlt]
  simp only [chkT, h1, h2, h3, badAt]
  cases t[i].k.ok <;> by_cases hd : t[i].d < 0 <;> by_cases hm : mostAt t i < t[i].d <;> by_cases ha : (at? t t[i].k).getD 0 = i <;> simp [hd, hm, ha] <;> omega

theorem c18 (t : List B) (ht : t.length ≤ 1000000) : PureC Try.prog 18 [tl t] (.bool (isT t)) := by
  refine fun_ok Try.func18 a18_ok (by simp [a18]) ?_
  by_cases hl : 512 < t.length
  · have : isT t = false := by simp [isT]; omega
    have hl' : (512 : Int) < t.length := by omega
    simp [a18, hl', this]
  · have hl' : ¬ (512 : Int) < t.length := by omega
    simp [a18, hl']
    refine awp_loop (fun n s => ∃ i, i ≤ t.length ∧ n = t.length - i ∧ isT t = chkT ((t.take i).map (·.k)) (mostAt t i) (t.drop i) ∧ (∀ p, 0 < i → t[i - 1]? = some p → 0 ≤ p.d ∧ p.d ≤ (i : Int) - 1) ∧ s.e 0 = tl t ∧ s.e 3 = iv i) t.length ?_ ?_
    · refine ⟨0, ?_⟩
      simp [isT, mostAt]
      omega
    · rintro n ⟨e, m, nx⟩ ⟨i, hi, rfl, hT, hd, h0, h3⟩
      simp only at h0 h3
      by_cases hlt : i < t.length
      · have hw := wrap64 (n := (i : Int) + 1) (by omega) (by omega)
        rw [chk_step t i hlt] at hT
        refine seqI (seqI (regI ?_))
        iterate 4 refine opT (by simp [h0, h3]) (by simp [h0, h3]; exact ⟨rfl, rfl⟩) ?_
        refine opE ?_
        refine condT (by simp [hlt]) (skipI ?_)
        refine seqI (blockI (seqI (regCut (fun e m => e 0 = tl t ∧ e 3 = iv i ∧ e 4 = iv ((at? t t[i].k).getD 0 : Nat)) ?_ ?_)))
        · skip
          iterate 6 refine opT (by simp [h0, h3, hlt, B.row, K.row]) (by simp [h0, h3, hlt, B.row, K.row]; exact ⟨rfl, rfl⟩) ?_
          refine opC (c21 t t[i].k ht) (by simp) (by rfl) (by simp [h0, K.row]) ?_
          iterate 5 refine opT (by simp [h0, h3, hlt, B.row, K.row]) (by simp [h0, h3, hlt, B.row, K.row]; exact ⟨rfl, rfl⟩) ?_
          refine opE ?_
          exact ⟨by simp [h0], by simp [h3], by simp⟩
        · clear h0 h3
          rintro e m ⟨h0, h3, h4⟩
          refine seqI (dregCut (fun e m => e 0 = tl t ∧ e 3 = iv i ∧ e 75 = .bool (badAt t i t[i])) (w18 t i hlt ht hd e m _ h0 h3 h4) ?_)
          clear h0 h3 h4
          rintro e m ⟨h0, h3, h75⟩
          cases hb : badAt t i t[i] with
          | true =>
            have : isT t = false := by rw [hT, hb]; rfl
            rw [hb] at h75
            refine condT (by simp [h75]) (seqI (regI ?_))
            refine opT (by simp) (by simp; exact ⟨rfl, rfl⟩) ?_
            refine opE (retI ?_)
            simp [this]
          | false =>
            have hk : isT t = chkT ((t.take (i + 1)).map (·.k)) (mostAt t (i + 1)) (t.drop (i + 1)) := by rw [hT, hb]; rfl
            rw [hb] at h75
            refine condF (by simp [h75]) (skipI (regI ?_))
            iterate 3 refine opT (by simp) (by simp [h3, hw]; exact ⟨rfl, rfl⟩) ?_
            refine opE ⟨t.length - (i + 1), by omega, i + 1, by omega, rfl, hk, ?_, by simp [h0], by simp⟩
            intro p _ hp
            simp [hlt] at hp; subst hp
            simp only [badAt, Bool.or_eq_false_iff, decide_eq_false_iff_not] at hb
            obtain ⟨_, _, hb1, hb2⟩ := hb
            refine ⟨by omega, ?_⟩
            cases i with
            | zero => simp [mostAt] at hb2; simp; omega
            | succ q =>
              have hq : q < t.length := by omega
              have := hd t[q] (by omega) (by simp [hq])
              simp [mostAt, hq] at hb2
              simp; omega
      · have : isT t = true := by rw [hT, List.drop_eq_nil_of_le (by omega)]; rfl
        simp [h0, h3, hlt, this]

end Go.Proofs.Ytpgkpdojpmikkaa.Eng

/-
  Contracts: the document's Mark and Move.
-/
import Derived.Test.YtpgkpdojpmikkaaC9
set_option linter.unusedVariables false
set_option linter.unusedSimpArgs false
set_option maxRecDepth 100000
namespace Go.Proofs.Ytpgkpdojpmikkaa.Eng
open Go Go.Proofs

def markS (t : List B) (k : K) (on : Bool) : List B × Int := if isT t && k.ok then match at? t k with
  | none => (t, 7)
  | some i => (t.set i { t[i]?.getD default with m := on }, 0)
  else (t, 2)

@[simp] theorem rfR_set_B (t : List B) (i : Nat) (b : B) : rfR ((t.map B.row).set i b.row) = true := by rw [← List.map_set]; exact rfR_tl _

theorem set_parts {α : Type} (t : List α) (i : Nat) (b : α) (hi : i < t.length) : (t.take i ++ t.drop (i + 1)).take i ++ b :: (t.take i ++ t.drop (i + 1)).drop i = t.set i b := by
  have h1 : (t.take i).length = i := by simp; omega
  rw [List.take_append_of_le_length (by omega), List.take_of_length_le (by omega), List.drop_append_of_le_length (by omega), List.drop_of_length_le (by omega), List.set_eq_take_append_cons_drop, if_pos hi]
  simp

set_option maxHeartbeats 4000000 in
theorem c45 (t : List B) (k : K) (on : Bool) (ht : t.length ≤ 1000000) : PureC Try.prog 45 [tl t, k.av, .bool on] (ans (markS t k on)) := by
  refine fun_ok Try.func45 a45_ok (by simp [a45]) ?_
  refine seqI (regI ?_)
  iterate 3 refine opT (by simp) (by simp [K.row]; exact ⟨rfl, rfl⟩) ?_
  refine opE (seqI (regCut (fun e m => e 0 = tl t ∧ e 2 = .bool on ∧ e 4 = .ptr (0, 1) 1 0 0 ∧ e 8 = iv ((at? t k).getD 0 : Nat) ∧ e 9 = .bool (at? t k).isSome ∧ m (0, 1) = some ⟨2, [k.row], true⟩ ∧ ∀ i, m (6004, i) = none) ?_ ?_))
  · iterate 2 refine opT (by simp) (by simp [K.row]; exact ⟨rfl, rfl⟩) ?_
    refine opC (c21 t k ht) (by simp) (by rfl) (by simp [K.row]) ?_
    iterate 5 refine opT (by simp) (by simp; exact ⟨rfl, rfl⟩) ?_
    refine opE ?_
    simp [K.row]
  rintro e m ⟨h0, h2, h4, h8, h9, m0, m6⟩
  refine seqI (seqI (regCut (fun e m => e 0 = tl t ∧ e 2 = .bool on ∧ e 8 = iv ((at? t k).getD 0 : Nat) ∧ e 9 = .bool (at? t k).isSome ∧ e 24 = .bool (!(isT t && k.ok)) ∧ ∀ i, m (6004, i) = none) ?_ ?_))
  · cases hT : isT t with
    | false =>
      refine opT (by simp [h0, h4, m0, K.row, hT]) (by simp [h0, h4, m0, K.row, hT]; exact ⟨rfl, rfl⟩) ?_
      refine opC (c18 t ht) (by simp) (by rfl) (by simp [h0]) ?_
      iterate 2 refine opT (by simp [h0, h4, m0, K.row, hT]) (by simp [h0, h4, m0, K.row, hT]; exact ⟨rfl, rfl⟩) ?_
      iterate 3 refine opF (by simp [h0, h4, m0, K.row, hT]) ?_
      refine opT (by simp [h0, h4, m0, K.row, hT]) (by simp [h0, h4, m0, K.row, hT]; exact ⟨rfl, rfl⟩) ?_
      refine opE ?_
      simp [h0, h2, h8, h9, m6]
    | true =>
      refine opT (by simp [h0, h4, m0, K.row, hT]) (by simp [h0, h4, m0, K.row, hT]; exact ⟨rfl, rfl⟩) ?_
      refine opC (c18 t ht) (by simp) (by rfl) (by simp [h0]) ?_
      iterate 3 refine opT (by simp [h0, h4, m0, K.row, hT]) (by simp [h0, h4, m0, K.row, hT]; exact ⟨rfl, rfl⟩) ?_
      refine opC (c47' k) (by simp [hT]) (by rfl) (by simp [h4, m0, K.row]) ?_
      iterate 2 refine opT (by simp [h0, h4, m0, K.row, hT]) (by simp [h0, h4, m0, K.row, hT]; exact ⟨rfl, rfl⟩) ?_
      refine opE ?_
      simp [h0, h2, h8, h9, m6]
  clear h0 h2 h4 h8 h9 m0 m6
  rintro e m ⟨h0, h2, h8, h9, h24, m6⟩
  cases hok : (isT t && k.ok) with
  | false =>
    rw [hok] at h24
    refine condT (by simp [h24]) (seqI (regI ?_))
    iterate 3 refine opT (by simp) (by simp [h0]; exact ⟨rfl, rfl⟩) ?_
    refine opE (retI ?_)
    simp [a45, markS, hok]
  | true =>
    rw [hok] at h24
    refine condF (by simp [h24]) (skipI ?_)
    cases ha : at? t k with
    | none =>
      rw [ha] at h9
      simp [h0, h9, markS, hok, ha, a45]
    | some i =>
      have hi := at?_lt ha
      rw [ha] at h9 h8
      simp [h0, h2, h8, h9, hi, m6, B.row, K.row]
      refine callP (c68 t i hi ht) (by simp) ?_
      simp [h0, h2, h8, h9, hi, m6, B.row, K.row]
      refine callP (c67 (t.take i ++ t.drop (i + 1)) i ⟨t[i].k, t[i].d, on⟩ (by simp; omega) (by simp; omega)) (by simp [B.row]) ?_
      rw [set_parts t i _ hi]
      simp [a45, markS, hok, ha, hi]

def movS (t : List B) (f k : K) : List B × Int := if isT t && (f.ok && k.ok) then match at? t f with
  | none => (t, 7)
  | some i => if (at? t k).isSome then (t, 8) else (t.set i { t[i]?.getD default with k := k }, 0)
  else (t, 2)

set_option maxHeartbeats 4000000 in
theorem c44 (t : List B) (f k : K) (ht : t.length ≤ 1000000) : PureC Try.prog 44 [tl t, f.av, k.av] (ans (movS t f k)) := by
  refine fun_ok Try.func44 a44_ok (by simp [a44]) ?_
  refine seqI (regI ?_)
  iterate 4 refine opT (by simp) (by simp [K.row]; exact ⟨rfl, rfl⟩) ?_
  refine opE (seqI (regI ?_))
  iterate 2 refine opT (by simp) (by simp [K.row]; exact ⟨rfl, rfl⟩) ?_
  refine opC (c21 t f ht) (by simp) (by rfl) (by simp [K.row]) ?_
  iterate 5 refine opT (by simp) (by simp; exact ⟨rfl, rfl⟩) ?_
  refine opE (seqI (regCut (fun e m => e 0 = tl t ∧ e 4 = .ptr (0, 1) 1 0 0 ∧ e 5 = .ptr (1, 1) 1 0 0 ∧ e 8 = iv ((at? t f).getD 0 : Nat) ∧ e 9 = .bool (at? t f).isSome ∧ e 11 = .bool (at? t k).isSome ∧ m (0, 1) = some ⟨2, [f.row], true⟩ ∧ m (1, 1) = some ⟨2, [k.row], true⟩ ∧ ∀ i, m (9004, i) = none) ?_ ?_))
  · iterate 2 refine opT (by simp) (by simp [K.row]; exact ⟨rfl, rfl⟩) ?_
    refine opC (c21 t k ht) (by simp) (by rfl) (by simp [K.row]) ?_
    iterate 5 refine opT (by simp) (by simp; exact ⟨rfl, rfl⟩) ?_
    refine opE ?_
    simp [K.row]
  rintro e m ⟨h0, h4, h5, h8, h9, h11, m0, m1, m9⟩
  refine seqI (seqI (regCut (fun e m => e 0 = tl t ∧ e 5 = .ptr (1, 1) 1 0 0 ∧ e 8 = iv ((at? t f).getD 0 : Nat) ∧ e 9 = .bool (at? t f).isSome ∧ e 11 = .bool (at? t k).isSome ∧ e 37 = .bool (!(isT t && (f.ok && k.ok))) ∧ m (1, 1) = some ⟨2, [k.row], true⟩ ∧ ∀ i, m (9004, i) = none) ?_ ?_))
  · cases hT : isT t with
    | false =>
      refine opT (by simp [h0, h4, h5, m0, m1, K.row, hT]) (by simp [h0, h4, h5, m0, m1, K.row, hT]; exact ⟨rfl, rfl⟩) ?_
      refine opC (c18 t ht) (by simp) (by rfl) (by simp [h0]) ?_
      iterate 2 refine opT (by simp [h0, h4, h5, m0, m1, K.row, hT]) (by simp [h0, h4, h5, m0, m1, K.row, hT]; exact ⟨rfl, rfl⟩) ?_
      iterate 3 refine opF (by simp [h0, h4, h5, m0, m1, K.row, hT]) ?_
      iterate 2 refine opT (by simp [h0, h4, h5, m0, m1, K.row, hT]) (by simp [h0, h4, h5, m0, m1, K.row, hT]; exact ⟨rfl, rfl⟩) ?_
      iterate 3 refine opF (by simp [h0, h4, h5, m0, m1, K.row, hT]) ?_
      refine opT (by simp [h0, h4, h5, m0, m1, K.row, hT]) (by simp [h0, h4, h5, m0, m1, K.row, hT]; exact ⟨rfl, rfl⟩) ?_
      refine opE ?_
      simp [h0, h5, h8, h9, h11, m1, m9]
    | true =>
      cases hf : f.ok with
      | false =>
        refine opT (by simp [h0, h4, h5, m0, m1, K.row, hT, hf]) (by simp [h0, h4, h5, m0, m1, K.row, hT, hf]; exact ⟨rfl, rfl⟩) ?_
        refine opC (c18 t ht) (by simp) (by rfl) (by simp [h0]) ?_
        iterate 3 refine opT (by simp [h0, h4, h5, m0, m1, K.row, hT, hf]) (by simp [h0, h4, h5, m0, m1, K.row, hT, hf]; exact ⟨rfl, rfl⟩) ?_
        refine opC (c47' f) (by simp [hT]) (by rfl) (by simp [h4, m0, K.row]) ?_
        iterate 3 refine opT (by simp [h0, h4, h5, m0, m1, K.row, hT, hf]) (by simp [h0, h4, h5, m0, m1, K.row, hT, hf]; exact ⟨rfl, rfl⟩) ?_
        iterate 3 refine opF (by simp [h0, h4, h5, m0, m1, K.row, hT, hf]) ?_
        refine opT (by simp [h0, h4, h5, m0, m1, K.row, hT, hf]) (by simp [h0, h4, h5, m0, m1, K.row, hT, hf]; exact ⟨rfl, rfl⟩) ?_
        refine opE ?_
        simp [h0, h5, h8, h9, h11, m1, m9]
      | true =>
        refine opT (by simp [h0, h4, h5, m0, m1, K.row, hT, hf]) (by simp [h0, h4, h5, m0, m1, K.row, hT, hf]; exact ⟨rfl, rfl⟩) ?_
        refine opC (c18 t ht) (by simp) (by rfl) (by simp [h0]) ?_
        iterate 3 refine opT (by simp [h0, h4, h5, m0, m1, K.row, hT, hf]) (by simp [h0, h4, h5, m0, m1, K.row, hT, hf]; exact ⟨rfl, rfl⟩) ?_
        refine opC (c47' f) (by simp [hT]) (by rfl) (by simp [h4, m0, K.row]) ?_
        iterate 4 refine opT (by simp [h0, h4, h5, m0, m1, K.row, hT, hf]) (by simp [h0, h4, h5, m0, m1, K.row, hT, hf]; exact ⟨rfl, rfl⟩) ?_
        refine opC (c47' k) (by simp [hT, hf]) (by rfl) (by simp [h5, m1, K.row]) ?_
        iterate 2 refine opT (by simp [h0, h4, h5, m0, m1, K.row, hT, hf]) (by simp [h0, h4, h5, m0, m1, K.row, hT, hf]; exact ⟨rfl, rfl⟩) ?_
        refine opE ?_
        simp [h0, h5, h8, h9, h11, m1, m9]
  clear h0 h4 h5 h8 h9 h11 m0 m1 m9
  rintro e m ⟨h0, h5, h8, h9, h11, h37, m1, m9⟩
  cases hok : (isT t && (f.ok && k.ok)) with
  | false =>
    rw [hok] at h37
    refine condT (by simp [h37]) (seqI (regI ?_))
    iterate 3 refine opT (by simp) (by simp [h0]; exact ⟨rfl, rfl⟩) ?_
    refine opE (retI ?_)
    simp [a44, movS, hok]
  | true =>
    rw [hok] at h37
    refine condF (by simp [h37]) (skipI ?_)
    cases haf : at? t f with
    | none =>
      rw [haf] at h9
      simp [h0, h9, movS, hok, haf, a44]
    | some i =>
      have hi := at?_lt haf
      rw [haf] at h9 h8
      cases ha : at? t k with
      | some j =>
        rw [ha] at h11
        simp [h0, h9, h11, movS, hok, haf, ha, a44]
      | none =>
        rw [ha] at h11
        simp [h0, h5, h8, h9, h11, m1, m9, hi, B.row, K.row]
        refine callP (c68 t i hi ht) (by simp) ?_
        simp [h0, h5, h8, h9, h11, m1, m9, hi, B.row, K.row]
        refine callP (c67 (t.take i ++ t.drop (i + 1)) i ⟨k, t[i].d, t[i].m⟩ (by simp; omega) (by simp; omega)) (by simp [B.row]) ?_
        rw [set_parts t i _ hi]
        simp [a44, movS, hok, haf, ha, hi]

end Go.Proofs.Ytpgkpdojpmikkaa.Eng

/-
  Contracts: the document's Insert.
-/
import Derived.Test.YtpgkpdojpmikkaaC8
set_option linter.unusedVariables false
set_option linter.unusedSimpArgs false
set_option maxRecDepth 100000
namespace Go.Proofs.Ytpgkpdojpmikkaa.Eng
open Go Go.Proofs

set_option maxHeartbeats 4000000 in
theorem c42 (t : List B) (f k : K) (ht : t.length ≤ 1000000) : PureC Try.prog 42 [tl t, f.av, k.av] (ans (insS t f k)) := by
  refine fun_ok Try.func42 a42_ok (by simp [a42]) ?_
  refine seqI (regI ?_)
  iterate 4 refine opT (by simp) (by simp [K.row]; exact ⟨rfl, rfl⟩) ?_
  refine opE (seqI (regI ?_))
  iterate 2 refine opT (by simp) (by simp [K.row]; exact ⟨rfl, rfl⟩) ?_
  refine opC (c21 t f ht) (by simp) (by rfl) (by simp [K.row]) ?_
  iterate 5 refine opT (by simp) (by simp; exact ⟨rfl, rfl⟩) ?_
  refine opE (seqI (regCut (fun e m => e 0 = tl t ∧ e 4 = .ptr (0, 1) 1 0 0 ∧ e 5 = .ptr (1, 1) 1 0 0 ∧ e 8 = iv ((at? t f).getD 0 : Nat) ∧ e 9 = .bool (at? t f).isSome ∧ e 11 = .bool (at? t k).isSome ∧ m (0, 1) = some ⟨2, [f.row], true⟩ ∧ m (1, 1) = some ⟨2, [k.row], true⟩) ?_ ?_))
  · iterate 2 refine opT (by simp) (by simp [K.row]; exact ⟨rfl, rfl⟩) ?_
    refine opC (c21 t k ht) (by simp) (by rfl) (by simp [K.row]) ?_
    iterate 5 refine opT (by simp) (by simp; exact ⟨rfl, rfl⟩) ?_
    refine opE ?_
    simp [K.row]
  rintro e m ⟨h0, h4, h5, h8, h9, h11, m0, m1⟩
  refine seqI (seqI (regCut (fun e m => e 0 = tl t ∧ e 5 = .ptr (1, 1) 1 0 0 ∧ e 8 = iv ((at? t f).getD 0 : Nat) ∧ e 9 = .bool (at? t f).isSome ∧ e 11 = .bool (at? t k).isSome ∧ e 36 = .bool (!(isT t && (f.ok && k.ok))) ∧ m (1, 1) = some ⟨2, [k.row], true⟩) ?_ ?_))
  · cases hT : isT t with
    | false =>
      refine opT (by simp [h0, h4, h5, m0, m1, K.row, hT]) (by simp [h0, h4, h5, m0, m1, K.row, hT]; exact ⟨rfl, rfl⟩) ?_
      refine opC (c18 t ht) (by simp) (by rfl) (by simp [h0]) ?_
      iterate 2 refine opT (by simp [h0, h4, h5, m0, m1, K.row, hT]) (by simp [h0, h4, h5, m0, m1, K.row, hT]; exact ⟨rfl, rfl⟩) ?_
      iterate 3 refine opF (by simp [h0, h4, h5, m0, m1, K.row, hT]) ?_
      iterate 2 refine opT (by simp [h0, h4, h5, m0, m1, K.row, hT]) (by simp [h0, h4, h5, m0, m1, K.row, hT]; exact ⟨rfl, rfl⟩) ?_
      iterate 3 refine opF (by simp [h0, h4, h5, m0, m1, K.row, hT]) ?_
      refine opT (by simp [h0, h4, h5, m0, m1, K.row, hT]) (by simp [h0, h4, h5, m0, m1, K.row, hT]; exact ⟨rfl, rfl⟩) ?_
      refine opE ?_
      simp [h0, h5, h8, h9, h11, m1]
    | true =>
      cases hf : f.ok with
      | false =>
        refine opT (by simp [h0, h4, h5, m0, m1, K.row, hT, hf]) (by simp [h0, h4, h5, m0, m1, K.row, hT, hf]; exact ⟨rfl, rfl⟩) ?_
        refine opC (c18 t ht) (by simp) (by rfl) (by simp [h0]) ?_
        iterate 3 refine opT (by simp [h0, h4, h5, m0, m1, K.row, hT, hf]) (by simp [h0, h4, h5, m0, m1, K.row, hT, hf]; exact ⟨rfl, rfl⟩) ?_
        refine opC (c47' f) (by simp [hT]) (by rfl) (by simp [h4, m0, K.row]) ?_
        iterate 3 refine opT (by simp [h0, h4, h5, m0, m1, K.row, hT, hf]) (by simp [h0, h4, h5, m0, m1, K.row, hT, hf]; exact ⟨rfl, rfl⟩) ?_
        iterate 3 refine opF (by simp [h0, h4, h5, m0, m1, K.row, hT, hf]) ?_
        refine opT (by simp [h0, h4, h5, m0, m1, K.row, hT, hf]) (by simp [h0, h4, h5, m0, m1, K.row, hT, hf]; exact ⟨rfl, rfl⟩) ?_
        refine opE ?_
        simp [h0, h5, h8, h9, h11, m1]
      | true =>
        refine opT (by simp [h0, h4, h5, m0, m1, K.row, hT, hf]) (by simp [h0, h4, h5, m0, m1, K.row, hT, hf]; exact ⟨rfl, rfl⟩) ?_
        refine opC (c18 t ht) (by simp) (by rfl) (by simp [h0]) ?_
        iterate 3 refine opT (by simp [h0, h4, h5, m0, m1, K.row, hT, hf]) (by simp [h0, h4, h5, m0, m1, K.row, hT, hf]; exact ⟨rfl, rfl⟩) ?_
        refine opC (c47' f) (by simp [hT]) (by rfl) (by simp [h4, m0, K.row]) ?_
        iterate 4 refine opT (by simp [h0, h4, h5, m0, m1, K.row, hT, hf]) (by simp [h0, h4, h5, m0, m1, K.row, hT, hf]; exact ⟨rfl, rfl⟩) ?_
        refine opC (c47' k) (by simp [hT, hf]) (by rfl) (by simp [h5, m1, K.row]) ?_
        iterate 2 refine opT (by simp [h0, h4, h5, m0, m1, K.row, hT, hf]) (by simp [h0, h4, h5, m0, m1, K.row, hT, hf]; exact ⟨rfl, rfl⟩) ?_
        refine opE ?_
        simp [h0, h5, h8, h9, h11, m1]
  clear h0 h4 h5 h8 h9 h11 m0 m1
  rintro e m ⟨h0, h5, h8, h9, h11, h36, m1⟩
  cases hok : (isT t && (f.ok && k.ok)) with
  | false =>
    rw [hok] at h36
    refine condT (by simp [h36]) (seqI (regI ?_))
    iterate 3 refine opT (by simp) (by simp [h0]; exact ⟨rfl, rfl⟩) ?_
    refine opE (retI ?_)
    simp [a42, insS, hok]
  | true =>
    rw [hok] at h36
    refine condF (by simp [h36]) (skipI ?_)
    have hT : isT t = true := by cases h : isT t <;> simp [h] at hok ⊢
    cases haf : at? t f with
    | none =>
      rw [haf] at h9
      simp [h0, h9, insS, hok, haf, a42]
    | some i =>
      have hi := at?_lt haf
      have hd := isT_d hT (List.getElem?_eq_getElem hi)
      have hw1 := wrap64 (n := (i : Int) + 1) (by omega) (by omega)
      have hw2 := wrap64 (n := t[i].d + 1) (by omega) (by omega)
      rw [haf] at h9 h8
      cases ha : at? t k with
      | some j =>
        rw [ha] at h11
        simp [h0, h9, h11, insS, addS, hok, haf, ha, a42]
      | none =>
        rw [ha] at h11
        by_cases hl : 512 ≤ t.length
        · have hl' : (512 : Int) ≤ t.length := by omega
          have hl2 : ¬ (t.length : Int) < 512 := by omega
          simp [h0, h9, h11, insS, addS, hok, haf, ha, hl, hl', hl2, a42]
        · have hl' : ¬ (512 : Int) ≤ t.length := by omega
          have hl2 : (t.length : Int) < 512 := by omega
          simp [h0, h5, h8, h9, h11, m1, hl', hl2, hi, hw1, hw2, B.row, K.row]
          refine callP (c67 t (i + 1) ⟨k, t[i].d + 1, false⟩ (by omega) ht) (by simp [B.row]) ?_
          simp [a42, B.row, insS, addS, hok, haf, ha, hl, hi]

end Go.Proofs.Ytpgkpdojpmikkaa.Eng

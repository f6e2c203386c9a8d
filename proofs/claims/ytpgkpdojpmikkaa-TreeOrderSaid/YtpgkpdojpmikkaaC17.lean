/-
  Contracts: Remove; does.
-/
import Derived.Test.YtpgkpdojpmikkaaC16
set_option linter.unusedVariables false
set_option linter.unusedSimpArgs false
set_option maxRecDepth 100000
namespace Go.Proofs.Ytpgkpdojpmikkaa.Eng
open Go Go.Proofs

set_option maxHeartbeats 4000000 in
theorem c31 (t : List B) (k : K) (ht : t.length ≤ 1000000) : PureC Try.prog 31 [tl t, k.av] (ans (remS t k)) := by
  refine fun_ok Try.func31 a31_ok (by simp [a31]) ?_
  simp [a31, K.row]
  refine callP (c56 h17 t [k] ht (by simp)) (by simp [K.row]) ?_
  cases hok : (isT t && k.ok) with
  | false => simp [remS, hok]
  | true =>
    simp [hok]
    refine callP (c20 t k ht) (by simp [K.row]) ?_
    cases ha : at? t k with
    | none => simp [remS, hok, ha]
    | some i =>
      have hi := at?_lt ha
      simp
      refine callP (c52 t i) (by simp) ?_
      simp
      refine awp_range (fun j nx m => j = 0 ∧ nx = 5 ∧ (∀ a n, 5 < n → m (a, n) = none) ∧ m (0, 1) = some ⟨1, [[tl t]], true⟩ ∧ m (2, 1) = some ⟨1, [[.sl 4 true []]], true⟩ ∧ m (3, 1) = some ⟨1, [[iv 0]], true⟩) (c70 t i hi ht) (caps := [.rp [tl t], .rp [iv i]]) (by simp) (by simp) (kr_mem (n := 1)) ?_ ?_ ?_
      · simp
        intro a n hn
        have : n ≠ 1 := by omega
        simp [this]
      · rintro j v nx m hv ⟨rfl, rfl, hfr, h1, h2, h3⟩
        obtain ⟨hj, rfl⟩ := kr_get hv
        rw [bel_length hi] at hj
        simp [h1, h2, h3, remS, hok, ha, hj]
      · rintro nx m ⟨h0, rfl, hfr, h1, h2, h3⟩
        have h0 : cnt t i = 0 := by simpa [bel_length hi] using h0
        have hw1 := wrap64 (n := (i : Int) + 1) (by omega) (by omega)
        have hn1 : ((i : Int) + 1).toNat = i + 1 := by omega
        have hp1 : (0 : Int) ≤ (i : Int) + 1 := by omega
        have hle : i + 1 ≤ t.length := by omega
        have hle2 : i ≤ t.length := by omega
        have f1 : m (8008, 6) = none := hfr _ _ (by omega)
        have hb : (i + (t.length - (i + 1))) * 32 ≤ 140737488355328 := by omega
        have hmin : min i t.length = i := by omega
        by_cases hn : t.length ≤ i + 1
        · simp [h1, h2, h3, f1, hw1, hn1, hp1, hle, hle2, hn, hb, hmin, take_all, remS, hok, ha, h0]
        · simp [h1, h2, h3, f1, hw1, hn1, hp1, hle, hle2, hn, hb, hmin, take_all, remS, hok, ha, h0]

end Go.Proofs.Ytpgkpdojpmikkaa.Eng

/-
  What the arguments of the tree's laws read ar: keys, acts, lists of branches and of acts.
-/
import Derived.Test.YtpgkpdojpmikkaaC19
import Derived.Test.YtpgkpdojpmikkaaE18
import Derived.Test.YtpgkpdojpmikkaaRows
set_option linter.unusedVariables false
set_option linter.unusedSimpArgs false
set_option maxRecDepth 100000
namespace Go.Proofs.Ytpgkpdojpmikkaa.Eng
open Go Go.Proofs Go.ChangeShapes Go.WideShapes Go.ChangeAt Go.RowKit

theorem ow : ownKnob Try.prog.godebug = none := by kernel_rfl
theorem lo : laidOutB Try.prog = true := by kernel_rfl
theorem u3 : Try.prog.underlying 3 = some (.int .i64) := by kernel_rfl
theorem u4 : Try.prog.underlying 4 = some .bool := by kernel_rfl
theorem u22 : Try.prog.underlying 22 = some (.slice 54) := by kernel_rfl
theorem u44 : Try.prog.underlying 44 = some (.slice 26) := by kernel_rfl
theorem u24 : Try.prog.underlying 24 = some (.struct #[⟨"Obj", 3, 0, false, "", "", 0⟩, ⟨"Slot", 3, 1, false, "", "", 8⟩]) := by kernel_rfl
theorem u26 : Try.prog.underlying 26 = some (.struct #[⟨"Kind", 3, 0, false, "", "", 0⟩, ⟨"A", 24, 1, false, "", "", 8⟩, ⟨"B", 24, 3, false, "", "", 24⟩, ⟨"On", 4, 5, false, "", "", 40⟩]) := by kernel_rfl
theorem u54 : Try.prog.underlying 54 = some (.struct #[⟨"Key", 24, 0, false, "", "", 0⟩, ⟨"Depth", 3, 2, false, "", "", 16⟩, ⟨"Mark", 4, 3, false, "", "", 24⟩]) := by kernel_rfl
theorem z3 : Try.prog.cellsOf 3 = 1 := by kernel_rfl
theorem z4 : Try.prog.cellsOf 4 = 1 := by kernel_rfl
theorem z24 : Try.prog.cellsOf 24 = 2 := by kernel_rfl
theorem z26 : Try.prog.cellsOf 26 = 6 := by kernel_rfl
theorem z54 : Try.prog.cellsOf 54 = 4 := by kernel_rfl

theorem sh3 {n : Nat} {ar : List AV} (h : Shp Try.prog (n + 1) 3 ar) : ∃ x, ar = [iv x] := by
  simp only [Shp, u3] at h
  obtain ⟨x, h, _⟩ := h
  exact ⟨x, h⟩
theorem sh4 {n : Nat} {ar : List AV} (h : Shp Try.prog (n + 1) 4 ar) : ∃ x, ar = [.bool x] := by
  simpa only [Shp, u4] using h
theorem sh24 {n : Nat} {ar : List AV} (h : Shp Try.prog (n + 2) 24 ar) : ∃ k : K, ar = k.row := by
  unfold Shp at h
  simp only [u24, z24] at h
  obtain ⟨hl, h⟩ := h
  obtain ⟨x, hx⟩ := sh3 (h ⟨"Obj", 3, 0, false, "", "", 0⟩ (by simp))
  obtain ⟨y, hy⟩ := sh3 (h ⟨"Slot", 3, 1, false, "", "", 8⟩ (by simp))
  simp only [z3] at hx hy
  rcases ar with _ | ⟨a, _ | ⟨b, _ | ⟨c, ar⟩⟩⟩ <;> simp at hl hx hy
  subst hx; subst hy
  exact ⟨⟨x, y⟩, rfl⟩
theorem sh54 {n : Nat} {ar : List AV} (h : Shp Try.prog (n + 3) 54 ar) : ∃ b : B, ar = b.row := by
  unfold Shp at h
  simp only [u54, z54] at h
  obtain ⟨hl, h⟩ := h
  obtain ⟨x, hx⟩ := sh24 (h ⟨"Key", 24, 0, false, "", "", 0⟩ (by simp))
  obtain ⟨y, hy⟩ := sh3 (h ⟨"Depth", 3, 2, false, "", "", 16⟩ (by simp))
  obtain ⟨z, hz⟩ := sh4 (h ⟨"Mark", 4, 3, false, "", "", 24⟩ (by simp))
  simp only [z3, z4, z24] at hx hy hz
  rcases ar with _ | ⟨a, _ | ⟨b, _ | ⟨c, _ | ⟨d, _ | ⟨e, ar⟩⟩⟩⟩⟩ <;> simp [K.row] at hl hx hy hz
  obtain ⟨rfl, rfl⟩ := hx
  subst hy; subst hz
  exact ⟨⟨x, y, z⟩, rfl⟩
theorem sh26 {n : Nat} {ar : List AV} (h : Shp Try.prog (n + 3) 26 ar) : ∃ x : Ac, ar = x.row := by
  unfold Shp at h
  simp only [u26, z26] at h
  obtain ⟨hl, h⟩ := h
  obtain ⟨x, hx⟩ := sh3 (h ⟨"Kind", 3, 0, false, "", "", 0⟩ (by simp))
  obtain ⟨y, hy⟩ := sh24 (h ⟨"A", 24, 1, false, "", "", 8⟩ (by simp))
  obtain ⟨z, hz⟩ := sh24 (h ⟨"B", 24, 3, false, "", "", 24⟩ (by simp))
  obtain ⟨u, hu⟩ := sh4 (h ⟨"On", 4, 5, false, "", "", 40⟩ (by simp))
  simp only [z3, z4, z24] at hx hy hz hu
  rcases ar with _ | ⟨a, _ | ⟨b, _ | ⟨c, _ | ⟨d, _ | ⟨e, _ | ⟨f, _ | ⟨g, ar⟩⟩⟩⟩⟩⟩⟩ <;> simp [K.row] at hl hx hy hz hu
  obtain ⟨rfl, rfl⟩ := hy
  obtain ⟨rfl, rfl⟩ := hz
  subst hx; subst hu
  exact ⟨⟨x, y, z, u⟩, rfl⟩
theorem rowsOf {X : Type} {R : List AV → Prop} (f : X → List AV) (h : ∀ ar, R ar → ∃ x, ar = f x) : ∀ (rows : List (List AV)), (∀ r ∈ rows, R r) → ∃ l : List X, rows = l.map f
  | [], _ => ⟨[], rfl⟩
  | r :: rows, hr => by
    obtain ⟨x, rfl⟩ := h r (hr r (by simp))
    obtain ⟨l, rfl⟩ := rowsOf f h rows (fun r' h' => hr r' (by simp [h']))
    exact ⟨x :: l, rfl⟩

theorem sA3 {a : AV} (h : ShA Try.prog 8 3 a) : ∃ x, a = iv x := by
  simp only [ShA, u3] at h
  simpa using sh3 h
theorem sA24 {a : AV} (h : ShA Try.prog 8 24 a) : ∃ k : K, a = k.av := by
  simp only [ShA, u24] at h
  obtain ⟨ar, rfl, h⟩ := h
  obtain ⟨k, rfl⟩ := sh24 h
  exact ⟨k, rfl⟩
theorem sA26 {a : AV} (h : ShA Try.prog 8 26 a) : ∃ x : Ac, a = x.av := by
  simp only [ShA, u26] at h
  obtain ⟨ar, rfl, h⟩ := h
  obtain ⟨k, rfl⟩ := sh26 h
  exact ⟨k, rfl⟩
theorem sA22 {a : AV} (h : ShA Try.prog 8 22 a) : ∃ t : List B, a = tl t := by
  simp only [ShA, u22] at h
  unfold Shp at h
  simp only [u22, z54] at h
  obtain ⟨rows, ha, h⟩ := h
  obtain ⟨l, rfl⟩ := rowsOf B.row (fun ar h => sh54 h) rows h
  exact ⟨l, by simpa using ha⟩
theorem sA44 {a : AV} (h : ShA Try.prog 8 44 a) : ∃ l : List Ac, a = al l := by
  simp only [ShA, u44] at h
  unfold Shp at h
  simp only [u44, z26] at h
  obtain ⟨rows, ha, h⟩ := h
  obtain ⟨l, rfl⟩ := rowsOf Ac.row (fun ar h => sh26 h) rows h
  exact ⟨l, by simpa using ha⟩
theorem ShAll.nil {n : Nat} {ar : List AV} (h : ShAll Try.prog n [] ar) : ar = [] := by
  cases ar <;> simp_all [ShAll]
theorem ShAll.cons {n : Nat} {t : TypeId} {ts : List TypeId} {ar : List AV} (h : ShAll Try.prog n (t :: ts) ar) : ∃ a r, ar = a :: r ∧ ShA Try.prog n t a ∧ ShAll Try.prog n ts r := by
  cases ar with
  | nil => simp [ShAll] at h
  | cons a r => exact ⟨a, r, rfl, h.1, h.2⟩

end Go.Proofs.Ytpgkpdojpmikkaa.Eng

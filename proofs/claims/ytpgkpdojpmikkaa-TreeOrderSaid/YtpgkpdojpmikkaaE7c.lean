/-
  THE ENGINE, part 7c: make; pointers that are compared with nil.
-/
import Derived.Test.YtpgkpdojpmikkaaE7b
import Derived.Laws.MakeOwn
set_option linter.unusedVariables false
set_option linter.unusedSimpArgs false
namespace Go.Proofs.Ytpgkpdojpmikkaa.Eng
open Go Go.RowKit

/-- make([]T, n). -/
def eMksl (by_ : Nat) (zs : List AV) (id : Bid) (m : Mem) : AV → AV → Option Eff
  | .int _ a, .int _ b => if a = b ∧ 0 ≤ a ∧ a * by_ ≤ 281474976710656 ∧ m id = none then some ⟨.own id a.toNat, [(id, ⟨zs.length, List.replicate a.toNat zs, true⟩)]⟩ else none
  | _, _ => none

theorem madeCells_get {zc : Array Value} {n z : Nat} (hz : zc.size = z) (z0 : 0 < z) {p j : Nat} (hp : p < n) (hj : j < z) : (madeCells zc (n * z))[p * z + j]? = zc[j]? := by
  have hlt := row_lt hp hj
  have hmod : (p * z + j) % z = j := by rw [Nat.add_comm, Nat.add_mul_mod_self_right, Nat.mod_eq_of_lt hj]
  simp [madeCells, hlt, hz, hmod, hj]

theorem eMksl_ok {P : Program} {w0 : Gd} {S0 : Nat → Nat → Prop} {c : Cx} (hi : Inv w0 S0 c) {id : Bid} (hiy : id ≠ yB) {T e : TypeId} {z by_ : Nat} (ht : tsl P T = some (e, z, by_)) {zs : List AV} (hzs : tzero P e = some zs) {x y : AV} {v u : Value} (hx : Rep c x v) (hy : Rep c y u) {f : Eff} (h : eMksl by_ zs id c.m x y = some f) :
    OpOk P w0 S0 c (Instr.makeSlice T v u) f := by
  unfold eMksl at h
  split at h <;> try (simp at h; done)
  rename_i ka a kb b
  split at h <;> simp only [reduceCtorEq, Option.some.injEq] at h
  rename_i hc
  obtain ⟨rfl, h0, hby, hm⟩ := hc
  subst h
  cases hx; cases hy
  obtain ⟨hu, hze, hbe, z0, b0⟩ := tsl_ok ht
  obtain ⟨i, zv, hinf, hzero, hl, hvl, hrep⟩ := tzero_ok hzs
  have hsz : i.size = z := by unfold tz at hze; rw [hinf] at hze; simpa using hze
  have hbz : i.bytes = by_ := by unfold tby at hbe; rw [hinf] at hbe; simpa using hbe
  have hb1 : (1 : Int) ≤ by_ := by omega
  have ha : a ≤ 281474976710656 := by
    have : a * 1 ≤ a * by_ := Int.mul_le_mul_of_nonneg_left hb1 h0
    omega
  have hrun := run_make (P := P) c.w T e i zv hu hinf hzero ka kb a a h0 (Int.le_refl _) (by rw [hbz, Int.mul_comm]; exact hby) (by omega)
  have hzl : zs.length = z := by omega
  have hzc : zv.cells.size = z := by omega
  have hrow : ∀ (p j : Nat) (r : List AV) (x : AV), (List.replicate a.toNat zs)[p]? = some r → r[j]? = some x → ∃ v, (madeCells zv.cells (a.toNat * i.size))[p * zs.length + j]? = some v ∧ v.oneCell' = true ∧ Rep c x v := by
    intro p j r x h1 h2
    have hp : p < a.toNat := by have := (List.getElem?_eq_some_iff.1 h1).1; simpa using this
    rw [List.getElem?_replicate, if_pos hp] at h1
    cases h1
    have hj := (List.getElem?_eq_some_iff.1 h2).1
    rw [hsz, hzl, madeCells_get hzc z0 hp (by omega)]
    obtain ⟨q1, q2⟩ := hrep c
    exact q1.cell q2 h2
  obtain ⟨hI, hE⟩ := hi.new id ⟨zs.length, List.replicate a.toNat zs, true⟩ (c.w.alloc (.cells (madeCells zv.cells (a.toNat * i.size)) e)) _ e a.toNat hiy rfl rfl rfl rfl (fun k hk => by simp [hm] at hk) (by show 0 < zs.length; omega)
    (fun r hr => by rw [List.eq_of_mem_replicate hr]) (by simp [size_madeCells, hsz, hzl]) (by simp) hrow
  refine ⟨_, _, hrun, rfl, hI, hE, ?_⟩
  have := Rep.own (c := ⟨c.S, updB c.β id c.w.heap.size, c.w.alloc (.cells (madeCells zv.cells (a.toNat * i.size)) e), updB c.m id (some ⟨zs.length, List.replicate a.toNat zs, true⟩)⟩) id a.toNat a.toNat ⟨zs.length, List.replicate a.toNat zs, true⟩ (by simp) (by show 0 < zs.length; omega) (by simp)
    ⟨madeCells zv.cells (a.toNat * i.size), e, by show (c.w.heap.push _)[updB c.β id c.w.heap.size id]? = _; simp, by simp [size_madeCells, hsz, hzl]⟩
  simpa using this

/-- Is it nil? -/
def eNilpt (b : Bool) (m : Mem) : AV → Option AV
  | .nilp => some (.bool (!b))
  | .rp _ => some (.bool b)
  | .ptr i n _ _ => match m i with
    | some k => if k.rows.length = n then some (.bool b) else none
    | none => none
  | _ => none

theorem run_equalIn_nilpt {P : Program} (w : World) (d : Nat) (t : TypeId) (A : Option Addr) {E : TypeId} (h : P.underlying t = some (.pointer E)) :
    (Op.equalIn (d + 1) t (.pointer A) (.pointer none)).run P w = .ok A.isNone w := by
  cases A <;> simp [Op.equalIn, run_underlying h]

theorem run_equal_nilpt {P : Program} (w : World) (t : TypeId) (A : Option Addr) {E : TypeId} (h : P.underlying t = some (.pointer E)) :
    (Op.equal t (.pointer A) (.pointer none)).run P w = .ok A.isNone w :=
  run_equalIn_nilpt w 9999 t A h

theorem run_makeMapH {P : Program} {t k e : TypeId} (ht : P.underlying t = some (.map k e)) (kd : IntKind) (n : Int) (w : World) : (Instr.makeMap t (some (.int kd n))).run P w = .ok (.map (some w.heap.size)) (w.alloc (.map #[] 0)) := by
  have := run_makeMap (P := P) t w
  simp [Instr.makeMap] at this
  simp [Instr.makeMap, run_underlying ht, asInt, asIntOf, this]

theorem nilpt_ok {P : Program} {w0 : Gd} {S0 : Nat → Nat → Prop} {c : Cx} (hi : Inv w0 S0 c) {T E : TypeId} (hT : P.underlying T = some (.pointer E)) (x y : Operand) {op : BinOp} (hop : op = .eql ∨ op = .neq) {a : Act} {xa r : AV} {vx : Value} (hye : a.eval y = .pointer none) (hr : Rep c xa vx) (h : eNilpt (op == .neq) c.m xa = some r) :
    ∃ q, (do eqGuard op T x y vx (a.eval y); binOp op T vx (a.eval y) : Sem Value).run P c.w = .ok q c.w ∧ Rep c r q := by
  have hs : ∃ A, vx = .pointer A ∧ r = .bool (if op == .neq then A.isSome else A.isNone) := by
    unfold eNilpt at h
    split at h <;> try (simp at h; done)
    · simp only [Option.some.injEq] at h
      cases hr
      exact ⟨none, rfl, by rw [← h]; rcases hop with rfl | rfl <;> rfl⟩
    · simp only [Option.some.injEq] at h
      cases hr with
      | rp cs b o vs _ _ => exact ⟨some ⟨b, o, none⟩, rfl, by rw [← h]; rcases hop with rfl | rfl <;> rfl⟩
    · rename_i i n r' o
      split at h <;> try (simp at h; done)
      rename_i k hk
      split at h <;> simp only [reduceCtorEq, Option.some.injEq] at h
      rename_i hn
      cases hr with
      | ptr _ _ _ _ k' hm' hz' hn' => exact ⟨_, rfl, by rw [← h]; rcases hop with rfl | rfl <;> rfl⟩
      | ptrOld _ _ _ _ k' _ hm' hz' hlt => rw [hk] at hm'; cases hm'; omega
  obtain ⟨A, rfl, rfl⟩ := hs
  have heq := run_equal_nilpt (P := P) c.w T A hT
  rw [hye]
  rcases hop with rfl | rfl
  · exact ⟨.bool A.isNone, by simp [eqGuard, binOp, heq], .bool _⟩
  · exact ⟨.bool A.isSome, by simp [eqGuard, binOp, heq], .bool _⟩

end Go.Proofs.Ytpgkpdojpmikkaa.Eng

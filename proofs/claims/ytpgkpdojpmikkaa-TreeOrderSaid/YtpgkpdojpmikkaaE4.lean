/-
  THE ENGINE, part 4: the operations that make or write memory.
-/
import Derived.Test.YtpgkpdojpmikkaaE3
import Derived.Laws.CopyRow
import Derived.Laws.Tables
import Derived.Laws.AppendOwn
set_option linter.unusedVariables false
set_option linter.unusedSimpArgs false
namespace Go.Proofs.Ytpgkpdojpmikkaa.Eng
open Go Go.RowKit

/-! ### lists -/
def splice {α : Type} (l : List α) (o : Nat) (vs : List α) : List α := l.take o ++ vs ++ l.drop (o + vs.length)

theorem splice_length {α : Type} (l : List α) (o : Nat) (vs : List α) (h : o + vs.length ≤ l.length) : (splice l o vs).length = l.length := by
  simp [splice]; omega

theorem splice_get {α : Type} (l : List α) (o : Nat) (vs : List α) (h : o + vs.length ≤ l.length) (q : Nat) :
    (splice l o vs)[q]? = if q < o then l[q]? else if q < o + vs.length then vs[q - o]? else l[q]? := by
  unfold splice
  by_cases h1 : q < o
  · rw [if_pos h1, List.getElem?_append_left (by simp; omega), List.getElem?_append_left (by simp; omega), List.getElem?_take, if_pos h1]
  · rw [if_neg h1]
    by_cases h2 : q < o + vs.length
    · rw [if_pos h2, List.getElem?_append_left (by simp; omega), List.getElem?_append_right (by simp; omega)]
      simp; congr 1; omega
    · rw [if_neg h2, List.getElem?_append_right (by simp; omega)]
      simp; congr 1; omega

theorem row_ne {p r z j o : Nat} (h : p ≠ r) (hj : j < z) (ho : o < z) : p * z + j ≠ r * z + o := by
  intro e
  rcases Nat.lt_or_gt_of_ne h with h | h
  · have := Nat.mul_le_mul_right z (show p + 1 ≤ r by omega)
    rw [Nat.succ_mul] at this; omega
  · have := Nat.mul_le_mul_right z (show r + 1 ≤ p by omega)
    rw [Nat.succ_mul] at this; omega

theorem row_lt {p n z j : Nat} (h : p < n) (hj : j < z) : p * z + j < n * z := by
  have := Nat.mul_le_mul_right z (show p + 1 ≤ n by omega)
  rw [Nat.succ_mul] at this; omega

theorem setRow_other' (w : World) (g : Nat) (cs : Array Value) : ∀ h, h < w.heap.size → h ≠ g → (w.setRow g cs).heap[h]? = w.heap[h]? := fun h _ hn => setRow_other w g h cs hn

/-- The cells of one block of one's own are written. -/
theorem Inv.store {w0 : Gd} {S0 : Nat → Nat → Prop} {c : Cx} (hi : Inv w0 S0 c) {i : Bid} {k : ABlk} (hm : c.m i = some k) (hz0 : 0 < k.z) (hs : k.sole = true) {r off : Nat} {row xs : List AV} {us : List Value} (hr : k.rows[r]? = some row) (hfit : off + xs.length ≤ row.length)
    (hu : RepL c xs us) (h1 : ∀ u, u ∈ us → u.oneCell' = true) {cs : Array Value} {T : TypeId} (hg : c.w.heap[c.β i]? = some (.cells cs T (0, 0))) :
    Inv w0 S0 ⟨c.S, updB c.β i (c.β i), c.w.setRow (c.β i) (splice cs.toList (r * k.z + off) us).toArray, updB c.m i (some { k with rows := k.rows.set r (splice row off xs) })⟩ ∧
      c.Ext ⟨c.S, updB c.β i (c.β i), c.w.setRow (c.β i) (splice cs.toList (r * k.z + off) us).toArray, updB c.m i (some { k with rows := k.rows.set r (splice row off xs) })⟩ := by
  have hb := hi.blkC hm hz0
  obtain ⟨cs', T', cap, hg', hs', hl, hc⟩ := hb.cells
  rw [hg] at hg'
  simp only [Option.some.injEq, Obj.cells.injEq] at hg'
  obtain ⟨rfl, rfl, _⟩ := hg'
  have hrl := (List.getElem?_eq_some_iff.1 hr).1
  have hrz : row.length = k.z := hb.len row (List.mem_of_getElem? hr)
  have hlu : us.length = xs.length := hu.1
  have hfit2 : r * k.z + off + us.length ≤ cs.toList.length := by
    have := row_lt (z := k.z) (j := k.z - 1) hrl (by have := hb.z0; omega)
    have h2 := Nat.mul_le_mul_right k.z hl
    simp [hs']; omega
  refine hi.put i { k with rows := k.rows.set r (splice row off xs) } (c.β i) _ (splice cs.toList (r * k.z + off) us).toArray T cap (hi.ney hm hz0) rfl rfl rfl (by simp) (setRow_other' c.w (c.β i) _) (setRow_heap c.w (c.β i) cs _ T (0, 0) hg)
    hb.base hb.z0 ?_ ?_ (by simpa using hl) (.inr ⟨k, hm, rfl⟩) ?_ ?_ ?_ ?_
  · intro q hq
    rcases List.mem_or_eq_of_mem_set hq with hq | rfl
    · exact hb.len q hq
    · rw [splice_length _ _ _ hfit]; exact hrz
  · rw [List.size_toArray, splice_length _ _ _ hfit2]; simpa using hs'
  · intro k2 hk2
    rw [hm] at hk2
    simp only [Option.some.injEq] at hk2
    subst hk2
    refine ⟨rfl, by simp, fun _ => ⟨rfl, fun cap2 hcap2 => ?_⟩⟩
    obtain ⟨cs2, T2, hg2, hs2⟩ := hcap2
    rw [hg] at hg2
    simp only [Option.some.injEq, Obj.cells.injEq] at hg2
    obtain ⟨rfl, _, _⟩ := hg2
    exact Nat.eq_of_mul_eq_mul_right hb.z0 (hs2.symm.trans hs')
  · intro o ho
    exact absurd ho (hi.excl i k o hm (hi.ney hm hz0) (.inl hs))
  · intro o ho
    exact hi.excl i k o hm (hi.ney hm hz0) (.inl hs)
  · intro p j q a hq ha
    simp only [List.getElem?_set] at hq
    have hold : p ≠ r → ∃ v, (splice cs.toList (r * k.z + off) us).toArray[p * k.z + j]? = some v ∧ v.oneCell' = true ∧ Rep c a v := by
      intro hpr
      rw [if_neg (Ne.symm hpr)] at hq
      obtain ⟨v, h2, h3, h4⟩ := hc p j q a hq ha
      refine ⟨v, ?_, h3, h4⟩
      have hj : j < k.z := by rw [← hb.len q (List.mem_of_getElem? hq)]; exact (List.getElem?_eq_some_iff.1 ha).1
      rw [List.getElem?_toArray, splice_get _ _ _ hfit2]
      have e : cs.toList[p * k.z + j]? = some v := by simpa using h2
      by_cases c1 : p * k.z + j < r * k.z + off
      · rw [if_pos c1]; exact e
      · rw [if_neg c1]
        by_cases c2 : p * k.z + j < r * k.z + off + us.length
        · exact absurd (show p * k.z + j = r * k.z + (p * k.z + j - r * k.z) by omega) (row_ne hpr hj (by omega))
        · rw [if_neg c2]; exact e
    by_cases hpr : p = r
    · subst hpr
      simp only [if_true, hrl, Option.some.injEq] at hq
      subst hq
      rw [splice_get _ _ _ hfit] at ha
      simp only [List.getElem?_toArray, splice_get _ _ _ hfit2]
      by_cases c1 : j < off
      · rw [if_pos c1] at ha
        obtain ⟨v, h2, h3, h4⟩ := hc p j row a hr ha
        exact ⟨v, by rw [if_pos (by omega)]; simpa using h2, h3, h4⟩
      · rw [if_neg c1] at ha
        by_cases c2 : j < off + xs.length
        · rw [if_pos c2] at ha
          obtain ⟨v, hv, hrep⟩ := hu.get ha
          refine ⟨v, ?_, h1 v (List.mem_of_getElem? hv), hrep⟩
          rw [if_neg (by omega), if_pos (by omega), ← hv]
          congr 1; omega
        · rw [if_neg c2] at ha
          obtain ⟨v, h2, h3, h4⟩ := hc p j row a hr ha
          exact ⟨v, by rw [if_neg (by omega), if_neg (by omega)]; simpa using h2, h3, h4⟩
    · exact hold hpr

def effStore (P : Program) (T : TypeId) (m : Mem) (p x : AV) : Option Eff := match tz P T, p with
  | some z, .ptr b n r off => match m b with
    | some k => if k.sole = true ∧ k.rows.length = n ∧ x.okv m = true ∧ x.cells.length = z then match k.rows[r]? with
        | some row => if off + z ≤ row.length then some ⟨.undef, [(b, { k with rows := k.rows.set r (splice row off x.cells) })]⟩ else none
        | none => none
      else none
    | none => none
  | _, _ => none

theorem updB_id (f : Bid → Nat) (i : Bid) : updB f i (f i) = f := by
  funext j; simp only [updB]; split <;> simp_all

theorem effStore_ok {P : Program} {w0 : Gd} {S0 : Nat → Nat → Prop} {c : Cx} (hi : Inv w0 S0 c) {T : TypeId} {p x : AV} {v u : Value} {f : Eff} (hp : Rep c p v) (hx : Rep c x u) (h : effStore P T c.m p x = some f) :
    ∃ c', (Instr.storeAt T v u).run P c.w = .ok () c'.w ∧ c'.m = applyW c.m f.ws ∧ Inv w0 S0 c' ∧ c.Ext c' ∧ f.v = .undef := by
  unfold effStore at h
  split at h <;> try (simp at h; done)
  rename_i z b n r off hz
  split at h <;> try (simp at h; done)
  rename_i k hm
  split at h <;> try (simp at h; done)
  rename_i hcond
  obtain ⟨h1, h2, h3, h4⟩ := hcond
  split at h <;> try (simp at h; done)
  rename_i row hrow
  split at h <;> try (simp at h; done)
  rename_i hfit
  simp only [Option.some.injEq] at h
  subst h
  have hz0 : 0 < k.z := by
    cases hp with
    | ptr _ _ _ _ k' hm' hz' hn =>
      rw [hm] at hm'; simp only [Option.some.injEq] at hm'; subst hm'; exact hz'
    | ptrOld _ _ _ _ k' _ hm' hz' hn =>
      rw [hm] at hm'; simp only [Option.some.injEq] at hm'; subst hm'; exact hz'
  have hb := hi.blkC hm hz0
  obtain ⟨hu, hone⟩ := hx.okv h3
  obtain ⟨cs, T', cap, hg, hs, hl, hc⟩ := hb.cells
  have hv : v = .pointer (some ⟨c.β b, r * k.z + off, none⟩) := by
    cases hp with
    | ptr _ _ _ _ k' hm' hz' hn =>
      rw [hm] at hm'; simp only [Option.some.injEq] at hm'; subst hm'; rfl
    | ptrOld _ _ _ _ k' _ hm' hz' hn =>
      rw [hm] at hm'; simp only [Option.some.injEq] at hm'; subst hm'; omega
  subst hv
  have hrl := (List.getElem?_eq_some_iff.1 hrow).1
  have hrz : row.length = k.z := hb.len row (List.mem_of_getElem? hrow)
  have hlu : u.cells.size = z := by have := hu.1; simp at this; omega
  have hfit2 : r * k.z + off + 0 + u.cells.toList.length ≤ cs.size := by
    have := row_lt (z := k.z) (j := k.z - 1) hrl (by have := hb.z0; omega)
    have h2 := Nat.mul_le_mul_right k.z hl
    simp [hs]; omega
  have hst := run_storeCells_at (P := P) (c.β b) (r * k.z + off) T' u.cells.toList 0 cs c.w hg hfit2 hone
  have hI := hi.store (off := off) hm hz0 h1 hrow (by omega) hu hone hg
  refine ⟨_, ?_, ?_, hI.1, hI.2, rfl⟩
  · simp only [Nat.add_zero] at hst
    simp [Instr.storeAt, Instr.sureAddr, storeVar, run_sizeOf' hz, hlu, hst, splice]
  · rfl

/-- A block is made anew, or moved to a new place. -/
theorem Inv.new {w0 : Gd} {S0 : Nat → Nat → Prop} {c : Cx} (hi : Inv w0 S0 c) (i : Bid) (k' : ABlk) (w' : World) (cs : Array Value) (T : TypeId) (cap : Nat) (hiy : i ≠ yB)
    (hos : w'.os = c.w.os) (htape : w'.tape = c.w.tape) (hout : w'.output = c.w.output) (hheap : w'.heap = c.w.heap.push (.cells cs T (0, 0)))
    (hm : ∀ k, c.m i = some k → k'.z = k.z ∧ k.rows.length < k'.rows.length)
    (hz : 0 < k'.z) (hlen : ∀ r, r ∈ k'.rows → r.length = k'.z) (hcap : cs.size = cap * k'.z) (hle : k'.rows.length ≤ cap)
    (hcont : ∀ (p j : Nat) (r : List AV) (a : AV), k'.rows[p]? = some r → r[j]? = some a → ∃ v, cs[p * k'.z + j]? = some v ∧ v.oneCell' = true ∧ Rep c a v) :
    Inv w0 S0 ⟨c.S, updB c.β i c.w.heap.size, w', updB c.m i (some k')⟩ ∧ c.Ext ⟨c.S, updB c.β i c.w.heap.size, w', updB c.m i (some k')⟩ := by
  have hno : ∀ o, ¬ c.S c.w.heap.size o := fun o h => absurd (hi.sdom _ _ h) (by omega)
  refine hi.put i k' c.w.heap.size w' cs T cap hiy hos htape hout (by rw [hheap]; simp) (fun h hh hn => by rw [hheap, Array.getElem?_push, if_neg (by omega)]) (by rw [hheap]; simp) (fun hp => by have := w0.lt _ _ hi.q _ hp; omega) hz hlen hcap hle (.inl (Nat.le_refl _)) ?_ ?_ ?_ hcont
  · intro k hk
    obtain ⟨h1, h2⟩ := hm k hk
    exact ⟨h1, by omega, fun e => by omega⟩
  · intro o ho; exact absurd ho (hno o)
  · intro o _; exact hno o

theorem RepL.cell {c : Cx} {as : List AV} {vs : Array Value} (h : RepL c as vs.toList) (h1 : ∀ u, u ∈ vs.toList → u.oneCell' = true) {j : Nat} {a : AV} (ha : as[j]? = some a) : ∃ v, vs[j]? = some v ∧ v.oneCell' = true ∧ Rep c a v := by
  obtain ⟨v, hv, hr⟩ := h.get ha
  exact ⟨v, by simpa using hv, h1 v (List.mem_of_getElem? hv), hr⟩

/-- One row, made anew. -/
theorem Inv.newRow {w0 : Gd} {S0 : Nat → Nat → Prop} {c : Cx} (hi : Inv w0 S0 c) (i : Bid) (hiy : i ≠ yB) (hm : c.m i = none) (as : List AV) (vs : Array Value) (T : TypeId) (h0 : as ≠ []) (hr : RepL c as vs.toList) (h1 : ∀ u, u ∈ vs.toList → u.oneCell' = true) :
    Inv w0 S0 ⟨c.S, updB c.β i c.w.heap.size, c.w.alloc (.cells vs T), updB c.m i (some ⟨as.length, [as], true⟩)⟩ ∧ c.Ext ⟨c.S, updB c.β i c.w.heap.size, c.w.alloc (.cells vs T), updB c.m i (some ⟨as.length, [as], true⟩)⟩ := by
  refine hi.new i ⟨as.length, [as], true⟩ (c.w.alloc (.cells vs T)) vs T 1 hiy rfl rfl rfl rfl (fun k hk => by simp [hm] at hk) ?_ ?_ ?_ (by simp) ?_
  · exact List.length_pos_iff.2 h0
  · intro r hr; simp at hr; subst hr; rfl
  · have := hr.1; simpa using this
  · intro p j r a hp ha
    cases p with
    | zero =>
      simp at hp; subst hp
      simpa using hr.cell h1 ha
    | succ p => simp at hp

def effAlloc (P : Program) (T : TypeId) (id : Bid) (m : Mem) : Option Eff := match tzero P T with
  | some zs => if zs ≠ [] ∧ m id = none then some ⟨.ptr id 1 0 0, [(id, ⟨zs.length, [zs], true⟩)]⟩ else none
  | none => none

theorem effAlloc_ok {P : Program} {w0 : Gd} {S0 : Nat → Nat → Prop} {c : Cx} (hi : Inv w0 S0 c) {T : TypeId} {id : Bid} (hiy : id ≠ yB) {f : Eff} (h : (match tzero P T with
  | some zs => if zs ≠ [] ∧ c.m id = none then some (⟨.ptr id 1 0 0, [(id, ⟨zs.length, [zs], true⟩)]⟩ : Eff) else none
  | none => none) = some f) : OpOk P w0 S0 c (Instr.alloc T true (.tuple #[])) f := by
  split at h <;> try (simp at h; done)
  rename_i zs hz
  split at h <;> try (simp at h; done)
  rename_i hcond
  simp only [Option.some.injEq] at h
  subst h
  obtain ⟨i, v, hinf, hzero, hl, hvl, hrep⟩ := tzero_ok hz
  obtain ⟨hr, h1⟩ := hrep c
  obtain ⟨hI, hE⟩ := hi.newRow id hiy hcond.2 zs v.cells T hcond.1 hr h1
  refine ⟨.pointer (some ⟨c.w.heap.size, 0, none⟩), _, ?_, rfl, hI, hE, ?_⟩
  · simp [Instr.alloc, zeroValue, typeInfo, hinf, hzero, newVar, Go.newRow]
  · have := Rep.ptr (c := ⟨c.S, updB c.β id c.w.heap.size, c.w.alloc (.cells v.cells T), updB c.m id (some ⟨zs.length, [zs], true⟩)⟩) id 1 0 0 ⟨zs.length, [zs], true⟩ (by simp) (List.length_pos_iff.2 hcond.1) (by simp)
    simpa using this

def effBox (P : Program) (T : TypeId) (id : Bid) (m : Mem) (x : AV) : Option Eff := match tz P T with
  | some z => if x.okv m = true ∧ x.cells.length = z ∧ x.cells ≠ [] ∧ m id = none then some ⟨.ptr id 1 0 0, [(id, ⟨x.cells.length, [x.cells], true⟩)]⟩ else none
  | none => none

theorem effBox_ok {P : Program} {w0 : Gd} {S0 : Nat → Nat → Prop} {c : Cx} (hi : Inv w0 S0 c) {T : TypeId} {id : Bid} (hiy : id ≠ yB) {x : AV} {v : Value} {f : Eff} (hx : Rep c x v) (h : effBox P T id c.m x = some f) : OpOk P w0 S0 c (Instr.box T v) f := by
  unfold effBox at h
  split at h <;> try (simp at h; done)
  rename_i z hz
  split at h <;> try (simp at h; done)
  rename_i hcond
  obtain ⟨h1, h2, h3, h4⟩ := hcond
  simp only [Option.some.injEq] at h
  subst h
  obtain ⟨hr, hone⟩ := hx.okv h1
  obtain ⟨hI, hE⟩ := hi.newRow id hiy h4 x.cells v.cells T h3 hr hone
  refine ⟨.pointer (some ⟨c.w.heap.size, 0, none⟩), _, ?_, rfl, hI, hE, ?_⟩
  · simp [Instr.box, newVar, Go.newRow]
  · have := Rep.ptr (c := ⟨c.S, updB c.β id c.w.heap.size, c.w.alloc (.cells v.cells T), updB c.m id (some ⟨x.cells.length, [x.cells], true⟩)⟩) id 1 0 0 ⟨x.cells.length, [x.cells], true⟩ (by simp) (List.length_pos_iff.2 h3) (by simp)
    simpa using this

/-! ### append -/
/-- What is appended, as the machine's law wants it. -/
theorem src_of {P : Program} {T e : TypeId} {z by_ : Nat} (ht : tsl P T = some (e, z, by_)) {w0 : Gd} {S0 : Nat → Nat → Prop} {c : Cx} (hi : Inv w0 S0 c) {x : AV} {v : Value} {xr : List (List AV)} (hx : Rep c x v) (h : rdSl c.m x = some (z, xr)) :
    ∃ (us : Nat → Value), Src P z T v xr.length ((List.range (xr.length * z)).map us) c.w ∧ (∀ (i j : Nat) (r : List AV) (a : AV), xr[i]? = some r → r[j]? = some a → (us (i * z + j)).oneCell' = true ∧ Rep c a (us (i * z + j))) := by
  obtain ⟨hu, hz, _, z0, _⟩ := tsl_ok ht
  obtain ⟨A, cap, b, o, vs, rfl, hle, hA, hlen, hcell⟩ := rdSl_ok hi hx h
  have full : ∀ q, q < xr.length * z → ∃ r a, xr[q / z]? = some r ∧ r[q % z]? = some a := by
    intro q hq
    have h1 : q / z < xr.length := Nat.div_lt_of_lt_mul (by rw [Nat.mul_comm]; exact hq)
    have h2 : q % z < (xr[q / z]).length := by rw [hlen _ (List.getElem_mem h1)]; exact Nat.mod_lt _ z0
    exact ⟨xr[q / z], xr[q / z][q % z], List.getElem?_eq_getElem h1, List.getElem?_eq_getElem h2⟩
  have hq : ∀ q : Nat, q / z * z + q % z = q := fun q => by rw [Nat.mul_comm]; exact Nat.div_add_mod q z
  refine ⟨vs, ?_, fun i j r a h1 h2 => (hcell i j r a h1 h2).2⟩
  by_cases hxr : xr = []
  · subst hxr
    simp only [List.length_nil, Nat.zero_mul, List.range_zero, List.map_nil]
    cases A with
    | none => exact Src.ofNil c.w hu cap
    | some ad => exact Src.ofSlice c.w hu ad 0 cap [] (by simp) (fun j u h => by simp at h) (fun u h => by simp at h)
  · rw [hA hxr]
    refine Src.ofSlice c.w hu ⟨b, o, none⟩ _ cap _ (by simp) (fun q u h => ?_) (fun u h => ?_)
    · have hql : q < xr.length * z := by have := (List.getElem?_eq_some_iff.1 h).1; simpa using this
      simp only [List.getElem?_map, List.getElem?_range hql, Option.map_some, Option.some.injEq] at h
      subst h
      obtain ⟨r, a, h1, h2⟩ := full q hql
      have := (hcell _ _ _ _ h1 h2).1
      rw [Nat.add_assoc, hq] at this
      rw [Addr.add_lit]
      exact this
    · simp only [List.mem_map, List.mem_range] at h
      obtain ⟨q, hql, rfl⟩ := h
      obtain ⟨r, a, h1, h2⟩ := full q hql
      have := (hcell _ _ _ _ h1 h2).2.1
      rwa [hq] at this

def effAppend (P : Program) (T TX : TypeId) (id : Bid) (m : Mem) (s x : AV) : Option Eff := match tsl P T, rdSl m x, tsl P TX with
  | some (e, z, by_), some (zx, xr), some (ex, zx', _) => if zx = z ∧ zx' = z ∧ (tzero P e).isSome = true then
      if xr = [] then match rdSl m s with
        | some _ => some ⟨s, []⟩
        | none => none
      else match s with
        | .sl zs true rows => if zs = z ∧ m id = none ∧ (rows.length + xr.length) * by_ ≤ 140737488355328 then some ⟨.own id (rows.length + xr.length), [(id, ⟨z, rows ++ xr, true⟩)]⟩ else none
        | .own b n => match m b with
          | some k => if k.rows.length = n ∧ k.z = z ∧ (n + xr.length) * by_ ≤ 140737488355328 then some ⟨.own b (n + xr.length), [(b, { k with rows := k.rows ++ xr })]⟩ else none
          | none => none
        | _ => none
    else none
  | _, _, _ => none

theorem append_cont {c : Cx} {z : Nat} {rows xr : List (List AV)} {cs : Nat → Option Value} {us : Nat → Value} (z0 : 0 < z)
    (hold : ∀ (p j : Nat) (r : List AV) (a : AV), rows[p]? = some r → r[j]? = some a → ∃ v, cs (p * z + j) = some v ∧ v.oneCell' = true ∧ Rep c a v)
    (hlen : ∀ r, r ∈ xr → r.length = z)
    (hnew : ∀ q, q < xr.length * z → cs (rows.length * z + q) = some (us q))
    (hus : ∀ (i j : Nat) (r : List AV) (a : AV), xr[i]? = some r → r[j]? = some a → (us (i * z + j)).oneCell' = true ∧ Rep c a (us (i * z + j))) :
    ∀ (p j : Nat) (r : List AV) (a : AV), (rows ++ xr)[p]? = some r → r[j]? = some a → ∃ v, cs (p * z + j) = some v ∧ v.oneCell' = true ∧ Rep c a v := by
  intro p j r a hp ha
  by_cases h : p < rows.length
  · rw [List.getElem?_append_left h] at hp
    exact hold p j r a hp ha
  · rw [List.getElem?_append_right (by omega)] at hp
    have hj : j < z := by rw [← hlen r (List.mem_of_getElem? hp)]; exact (List.getElem?_eq_some_iff.1 ha).1
    have hpl := (List.getElem?_eq_some_iff.1 hp).1
    obtain ⟨h1, h2⟩ := hus _ _ _ _ hp ha
    refine ⟨_, ?_, h1, h2⟩
    have e : p * z + j = rows.length * z + ((p - rows.length) * z + j) := by
      rw [← Nat.add_assoc, ← Nat.add_mul]; congr 2; omega
    rw [e]
    exact hnew _ (row_lt hpl hj)

theorem setCells_eq_setRow {P : Program} (w : World) (g o : Nat) (t : TypeId) (vs : List Value) (cur : Array Value) (hg : w.heap[g]? = some (.cells cur t (0, 0))) (hl : o + vs.length ≤ cur.size) (h1 : ∀ v ∈ vs, v.oneCell' = true) :
    w.setCells g o vs = w.setRow g (splice cur.toList o vs).toArray := by
  have a := run_storeCells_at (P := P) g o t vs 0 cur w hg (by omega) h1
  have b := run_storeCells_cells (P := P) g o vs 0 w (fun j hj => by simp only [Nat.add_zero]; rw [cell_of_heap hg]; simp; omega) (fun j hj => by simp [World.frozen?, hg]) h1
  rw [a] at b
  simp only [Nat.add_zero, Result.ok.injEq, true_and] at b
  rw [← b]; rfl

/-- The arm of append that makes a new row. -/
theorem append_grows {P : Program} {w0 : Gd} {S0 : Nat → Nat → Prop} {c : Cx} (hi : Inv w0 S0 c) {T TX ty e : TypeId} {z by_ : Nat} (ht : tsl P T = some (e, z, by_)) {zs : List AV} (hz : tzero P e = some zs)
    (id : Bid) (hiy : id ≠ yB) (sole : Bool) {rows xr : List (List AV)} {us : Nat → Value} {u : Value} (hsrc : Src P z TX u xr.length ((List.range (xr.length * z)).map us) c.w)
    (hus : ∀ (i j : Nat) (r : List AV) (a : AV), xr[i]? = some r → r[j]? = some a → (us (i * z + j)).oneCell' = true ∧ Rep c a (us (i * z + j)))
    {A : Option Addr} {cap b o : Nat} {vs : Nat → Value} (hcap : rows.length ≤ cap) (hA : rows ≠ [] → A = some ⟨b, o, none⟩) (hlen : ∀ r, r ∈ rows → r.length = z) (hlenx : ∀ r, r ∈ xr → r.length = z)
    (hcell : ∀ (i j : Nat) (r : List AV) (x : AV), rows[i]? = some r → r[j]? = some x → c.w.cell? ⟨b, o + i * z + j, none⟩ = some (vs (i * z + j)) ∧ (vs (i * z + j)).oneCell' = true ∧ Rep c x (vs (i * z + j)))
    (hm : ∀ k, c.m id = some k → z = k.z ∧ k.rows.length < (rows ++ xr).length)
    (hg : cap < rows.length + xr.length) (hby : (rows.length + xr.length) * by_ ≤ 140737488355328) :
    ∃ c', (Builtin.append_ #[T, TX] ty #[.slice A rows.length cap, u]).run P c.w = .ok (.slice (some ⟨c.w.heap.size, 0, none⟩) (rows.length + xr.length) (grownCap c.w (rows.length + xr.length) cap e)) c'.w ∧
      c'.m = updB c.m id (some ⟨z, rows ++ xr, sole⟩) ∧ c'.β id = c.w.heap.size ∧ c'.room c.w.heap.size z (grownCap c.w (rows.length + xr.length) cap e) ∧ Inv w0 S0 c' ∧ c.Ext c' := by
  obtain ⟨hu, hze, hbe, z0, b0⟩ := tsl_ok ht
  obtain ⟨i, v, hinf, hzero, hl, hvl, hrep⟩ := tzero_ok hz
  have hsz : i.size = z := by
    unfold tz at hze; rw [hinf] at hze; simpa using hze
  have hbz : i.bytes = by_ := by
    unfold tby at hbe; rw [hinf] at hbe; simpa using hbe
  have hsrc2 : Src P i.size TX u xr.length ((List.range (xr.length * z)).map us) c.w := by rw [hsz]; exact hsrc
  have full : ∀ q, q < rows.length * z → ∃ r a, rows[q / z]? = some r ∧ r[q % z]? = some a := by
    intro q hq
    have h1 : q / z < rows.length := Nat.div_lt_of_lt_mul (by rw [Nat.mul_comm]; exact hq)
    have h2 : q % z < (rows[q / z]).length := by rw [hlen _ (List.getElem_mem h1)]; exact Nat.mod_lt _ z0
    exact ⟨rows[q / z], rows[q / z][q % z], List.getElem?_eq_getElem h1, List.getElem?_eq_getElem h2⟩
  have hdm : ∀ q : Nat, q / z * z + q % z = q := fun q => by rw [Nat.mul_comm]; exact Nat.div_add_mod q z
  have hold : (Builtin.firstCells i.size rows.length (.slice A rows.length cap)).run P c.w.drew = .ok ((List.range (rows.length * z)).map vs).toArray c.w.drew := by
    by_cases hr0 : rows = []
    · subst hr0
      cases A with
      | none => simpa using run_firstCells_none (P := P) c.w.drew i.size 0 0 cap
      | some ad => simpa using run_firstCells_some (P := P) c.w.drew i.size 0 ad 0 cap [] (by simp) (fun j v h => by simp at h)
    · rw [hA hr0]
      refine run_firstCells_some (P := P) c.w.drew i.size rows.length ⟨b, o, none⟩ rows.length cap _ (by simp [hsz]) (fun q u h => ?_)
      have hql : q < rows.length * z := by have := (List.getElem?_eq_some_iff.1 h).1; simpa using this
      simp only [List.getElem?_map, List.getElem?_range hql, Option.map_some, Option.some.injEq] at h
      subst h
      obtain ⟨r, a, h1, h2⟩ := full q hql
      have := (hcell _ _ _ _ h1 h2).1
      rw [Nat.add_assoc, hdm] at this
      rw [Addr.add_lit]
      exact this
  have hn63 : rows.length + xr.length ≤ 140737488355328 := Nat.le_trans (Nat.le_mul_of_pos_right _ b0) hby
  have hrun := run_append_grow_src (P := P) c.w T TX ty e i v hu hinf hzero A rows.length cap _ hold u xr.length _ hsrc2 hg (by omega) (growslice_fits hg (by rw [hbz]; exact hby))
  have hgc := grownCap_ge c.w (rows.length + xr.length) cap e
  generalize hcs : ((List.range (rows.length * z)).map vs ++ (List.range (xr.length * z)).map us).toArray ++ Builtin.zeroCells v.cells (grownCap c.w (rows.length + xr.length) cap e - (rows.length + xr.length)) = cs at hrun
  have hcsz : cs.size = grownCap c.w (rows.length + xr.length) cap e * z := by
    rw [← hcs]
    simp [size_zeroCells, hvl, hsz]
    rw [← Nat.add_mul, ← Nat.add_mul]
    congr 1; omega
  have hget : ∀ q, q < rows.length * z → cs[q]? = some (vs q) := by
    intro q hq
    rw [← hcs, Array.getElem?_append_left (by simp; omega), List.getElem?_toArray, List.getElem?_append_left (by simpa using hq)]
    simp [hq]
  have hget2 : ∀ q, q < xr.length * z → cs[rows.length * z + q]? = some (us q) := by
    intro q hq
    rw [← hcs, Array.getElem?_append_left (by simp; omega), List.getElem?_toArray, List.getElem?_append_right (by simp)]
    simp [hq]
  obtain ⟨hI, hE⟩ := hi.new id ⟨z, rows ++ xr, sole⟩ (c.w.drew.alloc (.cells cs e)) cs e (grownCap c.w (rows.length + xr.length) cap e) hiy rfl rfl rfl rfl hm z0
    (fun r hr => by rcases List.mem_append.1 hr with hr | hr; exact hlen r hr; exact hlenx r hr) hcsz (by simpa using hgc)
    (append_cont (cs := fun q => cs[q]?) z0 (fun p j r a h1 h2 => by
      have hj : j < z := by rw [← hlen r (List.mem_of_getElem? h1)]; exact (List.getElem?_eq_some_iff.1 h2).1
      have hpl := (List.getElem?_eq_some_iff.1 h1).1
      exact ⟨_, hget _ (row_lt hpl hj), (hcell p j r a h1 h2).2⟩) hlenx hget2 hus)
  refine ⟨_, hrun, rfl, by simp, ?_, hI, hE⟩
  exact ⟨cs, e, by show (c.w.heap.push _)[c.w.heap.size]? = _; simp, hcsz⟩

theorem effAppend_ok {P : Program} {w0 : Gd} {S0 : Nat → Nat → Prop} {c : Cx} (hi : Inv w0 S0 c) {T TX ty : TypeId} {id : Bid} (hiy : id ≠ yB) {s x : AV} {v u : Value} {f : Eff} (hs : Rep c s v) (hx : Rep c x u) (h : effAppend P T TX id c.m s x = some f) :
    OpOk P w0 S0 c (Builtin.append_ #[T, TX] ty #[v, u]) f := by
  unfold effAppend at h
  split at h <;> try (simp at h; done)
  rename_i e z by_ zx xr ex zx' bx ht hrd htx
  split at h <;> try (simp at h; done)
  rename_i hcond
  obtain ⟨e1, e2, hze⟩ := hcond
  subst zx
  subst zx'
  obtain ⟨zs, hzs⟩ := Option.isSome_iff_exists.1 hze
  obtain ⟨hu, hzz, hbe, z0, b0⟩ := tsl_ok ht
  obtain ⟨i, zv, hinf, hzero, hl, hvl, _⟩ := tzero_ok hzs
  have hsz : i.size = z := by
    unfold tz at hzz; rw [hinf] at hzz; simpa using hzz
  obtain ⟨us, hsrc, hus⟩ := src_of htx hi hx hrd
  have hlenx : ∀ r, r ∈ xr → r.length = z := by
    obtain ⟨_, _, _, _, _, _, _, _, hl, _⟩ := rdSl_ok hi hx hrd
    exact hl
  split at h
  · rename_i hnil
    subst hnil
    split at h <;> try (simp at h; done)
    rename_i zr hrs
    simp only [Option.some.injEq] at h
    subst h
    obtain ⟨A, cap, b, o, vs, rfl, hle, _⟩ := rdSl_ok hi hs hrs
    refine OpOk.same hi (run_append_nothing c.w T TX ty e i hu hinf A _ cap hle u ?_) hs
    rw [hsz]
    simpa using hsrc
  · rename_i hne
    split at h <;> try (simp at h; done)
    · rename_i zs' rows
      split at h <;> try (simp at h; done)
      rename_i hc
      obtain ⟨rfl, hid, hby⟩ := hc
      simp only [Option.some.injEq] at h
      subst h
      have hfull : ∃ A cap b o vs, v = .slice A rows.length cap ∧ cap = rows.length ∧ (rows ≠ [] → A = some ⟨b, o, none⟩) ∧ (∀ r, r ∈ rows → r.length = zs') ∧
          (∀ (i j : Nat) (r : List AV) (x : AV), rows[i]? = some r → r[j]? = some x → c.w.cell? ⟨b, o + i * zs' + j, none⟩ = some ((vs : Nat → Value) (i * zs' + j)) ∧ (vs (i * zs' + j)).oneCell' = true ∧ Rep c x (vs (i * zs' + j))) := by
        cases hs with
        | sl z full rows A cap b o vs hc hf hz hA hcell hrep =>
          exact ⟨A, cap, b, o, vs, rfl, hf rfl, hA, hz, fun i j r x h1 h2 => ⟨(hcell i j r x h1 h2).1, (hcell i j r x h1 h2).2.2, hrep i j r x h1 h2⟩⟩
      obtain ⟨A, cap, b, o, vs, rfl, rfl, hA, hlen, hcell⟩ := hfull
      have hxl : 0 < xr.length := List.length_pos_iff.2 hne
      obtain ⟨c', hrun, hm', hβ, hroom, hI, hE⟩ := append_grows (ty := ty) hi ht hzs id hiy true hsrc hus (Nat.le_refl _) hA hlen hlenx hcell (fun k hk => by simp [hid] at hk) (by omega) hby
      refine ⟨_, c', hrun, by rw [hm']; rfl, hI, hE, ?_⟩
      rw [← hβ] at hroom ⊢
      exact .own id _ _ ⟨zs', rows ++ xr, true⟩ (by rw [hm']; simp) z0 (by simp) hroom
    · rename_i bb n
      split at h <;> try (simp at h; done)
      rename_i k hm
      split at h <;> try (simp at h; done)
      rename_i hc
      obtain ⟨rfl, rfl, hby⟩ := hc
      simp only [Option.some.injEq] at h
      subst h
      have hb := hi.blkC hm z0
      have hby' := hi.ney hm z0
      obtain ⟨cs, T', cap, hg, hcs, hcl, hcont⟩ := hb.cells
      have hv : v = .slice (some ⟨c.β bb, 0, none⟩) k.rows.length cap := by
        cases hs with
        | own _ _ cap2 k2 hm2 hz2 hn2 hr2 =>
          rw [hm] at hm2; simp only [Option.some.injEq] at hm2; subst hm2
          obtain ⟨cs2, T2, hg2, hs2⟩ := hr2
          rw [hg] at hg2
          simp only [Option.some.injEq, Obj.cells.injEq] at hg2
          obtain ⟨rfl, _, _⟩ := hg2
          rw [Nat.eq_of_mul_eq_mul_right hb.z0 (hs2.symm.trans hcs)]
        | ownOld _ _ k2 _ hm2 hz2 hn2 =>
          rw [hm] at hm2; simp only [Option.some.injEq] at hm2; subst hm2; omega
      subst hv
      have hxl : 0 < xr.length := List.length_pos_iff.2 hne
      by_cases hroom : k.rows.length + xr.length ≤ cap
      · have hfit : k.rows.length * k.z + xr.length * k.z ≤ cs.size := by
          rw [hcs, ← Nat.add_mul]; exact Nat.mul_le_mul_right _ hroom
        have h1 : ∀ u ∈ (List.range (xr.length * k.z)).map us, u.oneCell' = true := hsrc.one
        have hsrc2 : Src P i.size TX u xr.length ((List.range (xr.length * k.z)).map us) c.w := by rw [hsz]; exact hsrc
        have hrun := run_append_room_src (P := P) c.w T TX ty e i hu hinf (c.β bb) 0 k.rows.length cap u xr.length _ hsrc2 hroom
          (fun j hj => by simp only [Nat.zero_add]; rw [cell_of_heap hg]; simp at hj ⊢; rw [hsz]; omega) (fun j hj => by simp [World.frozen?, hg])
        rw [Nat.zero_add, hsz, setCells_eq_setRow (P := P) c.w (c.β bb) (k.rows.length * k.z) T' _ cs hg (by simpa using hfit) h1] at hrun
        have hsp := splice_length cs.toList (k.rows.length * k.z) ((List.range (xr.length * k.z)).map us) (by simpa using hfit)
        have hgetl : ∀ q, q < k.rows.length * k.z → (splice cs.toList (k.rows.length * k.z) ((List.range (xr.length * k.z)).map us)).toArray[q]? = cs[q]? := by
          intro q hq
          rw [List.getElem?_toArray, splice_get _ _ _ (by simpa using hfit), if_pos hq]; simp
        obtain ⟨hI, hE⟩ := hi.put bb { k with rows := k.rows ++ xr } (c.β bb) (c.w.setRow (c.β bb) (splice cs.toList (k.rows.length * k.z) ((List.range (xr.length * k.z)).map us)).toArray) _ T' cap hby' rfl rfl rfl (by simp) (setRow_other' c.w (c.β bb) _) (setRow_heap c.w (c.β bb) cs _ T' (0, 0) hg) hb.base hb.z0
          (fun r hr => by rcases List.mem_append.1 hr with hr | hr; exact hb.len r hr; exact hlenx r hr) (by rw [List.size_toArray, hsp]; simpa using hcs) (by simpa using hroom) (.inr ⟨k, hm, rfl⟩)
          (fun k2 hk2 => by rw [hm] at hk2; simp only [Option.some.injEq] at hk2; subst hk2; exact ⟨rfl, by simp, fun e => by simp at e; exact absurd e (by simpa using hne)⟩)
          (fun o ho => by
            have hlt : o < k.rows.length * k.z := Nat.lt_of_not_le fun hle => hi.excl bb k o hm hby' (.inr hle) ho
            rw [cell_of_heap (setRow_heap c.w (c.β bb) cs _ T' (0, 0) hg), cell_of_heap hg, hgetl o hlt])
          (fun o ho => hi.excl bb k o hm hby' (ho.imp (fun h => h) fun h => by
            have := Nat.mul_le_mul_right k.z (show k.rows.length ≤ (k.rows ++ xr).length by simp)
            simp only at h; omega))
          (append_cont (cs := fun q => (splice cs.toList (k.rows.length * k.z) ((List.range (xr.length * k.z)).map us)).toArray[q]?) hb.z0 (fun p j r a h1 h2 => by
            have hj : j < k.z := by rw [← hb.len r (List.mem_of_getElem? h1)]; exact (List.getElem?_eq_some_iff.1 h2).1
            have hpl := (List.getElem?_eq_some_iff.1 h1).1
            obtain ⟨v, e1, e2, e3⟩ := hcont p j r a h1 h2
            exact ⟨v, by dsimp only; rw [hgetl _ (row_lt hpl hj)]; exact e1, e2, e3⟩) hlenx
            (fun q hq => by
              dsimp only
              rw [List.getElem?_toArray, splice_get _ _ _ (by simpa using hfit), if_neg (by omega), if_pos (by simpa using hq)]
              simp [hq]) hus)
        refine ⟨_, _, hrun, rfl, hI, hE, ?_⟩
        have := Rep.own (c := ⟨c.S, updB c.β bb (c.β bb), c.w.setRow (c.β bb) (splice cs.toList (k.rows.length * k.z) ((List.range (xr.length * k.z)).map us)).toArray, updB c.m bb (some { k with rows := k.rows ++ xr })⟩) bb (k.rows.length + xr.length) cap { k with rows := k.rows ++ xr } (by simp) z0 (by simp)
          ⟨_, T', by simpa using setRow_heap c.w (c.β bb) cs _ T' (0, 0) hg, by rw [List.size_toArray, hsp]; simpa using hcs⟩
        simpa using this
      · have hcell : ∀ (p j : Nat) (r : List AV) (x : AV), k.rows[p]? = some r → r[j]? = some x → c.w.cell? ⟨c.β bb, 0 + p * k.z + j, none⟩ = some (cs.getD (p * k.z + j) undef) ∧ (cs.getD (p * k.z + j) undef).oneCell' = true ∧ Rep c x (cs.getD (p * k.z + j) undef) := by
          intro p j r x h1 h2
          obtain ⟨v, e1, e2, e3⟩ := hcont p j r x h1 h2
          have e : cs.getD (p * k.z + j) undef = v := by simp [Array.getD_eq_getD_getElem?, e1]
          rw [e, Nat.zero_add, cell_of_heap hg]
          exact ⟨e1, e2, e3⟩
        obtain ⟨c', hrun, hm', hβ, hroom', hI, hE⟩ := append_grows (ty := ty) hi ht hzs bb hby' k.sole hsrc hus hcl (fun _ => rfl) hb.len hlenx (vs := fun q => cs.getD q undef) hcell (fun k2 hk => by
          rw [hm] at hk; simp only [Option.some.injEq] at hk; subst hk; exact ⟨rfl, by simp; omega⟩) (by omega) hby
        refine ⟨_, c', hrun, by rw [hm']; rfl, hI, hE, ?_⟩
        rw [← hβ] at hroom' ⊢
        exact .own bb _ _ ⟨k.z, k.rows ++ xr, k.sole⟩ (by rw [hm']; simp) z0 (by simp) hroom'

end Go.Proofs.Ytpgkpdojpmikkaa.Eng

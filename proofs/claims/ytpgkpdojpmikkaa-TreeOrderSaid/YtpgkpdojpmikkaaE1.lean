/-
  THE ENGINE, part 1: abstract values, how they lie in the machine's world, and that this lasts while the world grows.
-/
import Derived.WalkKit
import Derived.WalkSpells
import Derived.Deep.AppendSrc
import Derived.Deep.Upon
import Derived.RangeFuncOwn
set_option linter.unusedVariables false
set_option linter.unusedSimpArgs false
namespace Go.Proofs.Ytpgkpdojpmikkaa.Eng
open Go Go.RowKit

/-- A block of the abstract memory: where it was made, and when. -/
abbrev Bid := Nat × Nat

/-- Abstract values. 'sl': a slice that is only read (full: no spare capacity); 'rp': a pointer to what is only read; 'own': the slice of a block of one's own, n rows long; 'ptr': a pointer into such a block (n: how many rows it has); 'mp': a map of one's own; 'yld': yield, within the function that is ranged over. -/
inductive AV where
  | undef
  | bool (b : Bool)
  | int (k : IntKind) (n : Int)
  | agg (cs : List AV)
  | tup (vs : List AV)
  | sl (z : Nat) (full : Bool) (rows : List (List AV))
  | rp (cs : List AV)
  | own (b : Bid) (n : Nat)
  | ptr (b : Bid) (n r off : Nat)
  | fn (f : FuncId) (caps : List AV)
  | nilp
  | mp (b : Bid)
  | yld (l : Nat)
  deriving Inhabited

def AV.cells : AV → List AV
  | .agg cs => cs
  | a => [a]

/-- A block: z cells a row; z = 0: a map, each row a key's cells and the value. 'sole': nobody else reads it. -/
structure ABlk where
  z : Nat
  rows : List (List AV)
  sole : Bool

abbrev Mem := Bid → Option ABlk

/-- The name of no block: what stands there is what has been yielded so far. -/
def yB : Bid := (0, 0)

/-- Nothing (what the machine keeps of loops over functions is kept by 'Gd'). -/
def isBook : Obj → Bool := fun _ => false

structure KeepsBook (W W' : World) : Prop where
  size : W.heap.size ≤ W'.heap.size
  same : ∀ (k : Nat) (o : Obj), W.heap[k]? = some o → isBook o = true → W'.heap[k]? = some o

theorem KeepsBook.refl (W : World) : KeepsBook W W := ⟨Nat.le_refl _, fun _ _ h _ => h⟩
theorem KeepsBook.trans {A B C : World} (h : KeepsBook A B) (k : KeepsBook B C) : KeepsBook A C :=
  ⟨Nat.le_trans h.size k.size, fun i o hi ho => k.same i o (h.same i o hi ho) ho⟩

/-- Where things lie: S: cells that don't change any more; β: the blocks. -/
structure Cx where
  S : Nat → Nat → Prop
  β : Bid → Nat
  w : World
  m : Mem

/-- How many rows of z cells a block has room for. -/
def Cx.room (c : Cx) (g z cap : Nat) : Prop := ∃ cs T, c.w.heap[g]? = some (.cells cs T (0, 0)) ∧ cs.size = cap * z

inductive Rep (c : Cx) : AV → Value → Prop
  | undef (v : Value) : Rep c .undef v
  | bool (b : Bool) : Rep c (.bool b) (.bool b)
  | int (k : IntKind) (n : Int) : Rep c (.int k n) (.int k n)
  | agg (cs : List AV) (vs : Array Value) (hl : vs.size = cs.length) (h : ∀ (i : Nat) (a : AV) (v : Value), cs[i]? = some a → vs[i]? = some v → Rep c a v) : Rep c (.agg cs) (.agg vs)
  | tup (cs : List AV) (vs : Array Value) (hl : vs.size = cs.length) (h : ∀ (i : Nat) (a : AV) (v : Value), cs[i]? = some a → vs[i]? = some v → Rep c a v) : Rep c (.tup cs) (.tuple vs)
  | sl (z : Nat) (full : Bool) (rows : List (List AV)) (A : Option Addr) (cap b o : Nat) (vs : Nat → Value) (hc : rows.length ≤ cap) (hf : full = true → cap = rows.length)
      (hz : ∀ r, r ∈ rows → r.length = z) (hA : rows ≠ [] → A = some ⟨b, o, none⟩)
      (hcell : ∀ (i j : Nat) (r : List AV) (a : AV), rows[i]? = some r → r[j]? = some a → c.w.cell? ⟨b, o + i * z + j, none⟩ = some (vs (i * z + j)) ∧ c.S b (o + i * z + j) ∧ (vs (i * z + j)).oneCell' = true)
      (h : ∀ (i j : Nat) (r : List AV) (a : AV), rows[i]? = some r → r[j]? = some a → Rep c a (vs (i * z + j))) : Rep c (.sl z full rows) (.slice A rows.length cap)
  | rp (cs : List AV) (b o : Nat) (vs : Nat → Value) (hcell : ∀ (j : Nat) (a : AV), cs[j]? = some a → c.w.cell? ⟨b, o + j, none⟩ = some (vs j) ∧ c.S b (o + j) ∧ (vs j).oneCell' = true)
      (h : ∀ (j : Nat) (a : AV), cs[j]? = some a → Rep c a (vs j)) : Rep c (.rp cs) (.pointer (some ⟨b, o, none⟩))
  | own (i : Bid) (n cap : Nat) (k : ABlk) (hm : c.m i = some k) (hz : 0 < k.z) (hn : n = k.rows.length) (hr : c.room (c.β i) k.z cap) : Rep c (.own i n) (.slice (some ⟨c.β i, 0, none⟩) n cap)
  | ownOld (i : Bid) (n : Nat) (k : ABlk) (v : Value) (hm : c.m i = some k) (hz : 0 < k.z) (hn : n < k.rows.length) : Rep c (.own i n) v
  | ptr (i : Bid) (n r off : Nat) (k : ABlk) (hm : c.m i = some k) (hz : 0 < k.z) (hn : n = k.rows.length) : Rep c (.ptr i n r off) (.pointer (some ⟨c.β i, r * k.z + off, none⟩))
  | ptrOld (i : Bid) (n r off : Nat) (k : ABlk) (v : Value) (hm : c.m i = some k) (hz : 0 < k.z) (hn : n < k.rows.length) : Rep c (.ptr i n r off) v
  | fn (f : FuncId) (cs : List AV) (vs : Array Value) (hl : vs.size = cs.length) (h : ∀ (i : Nat) (a : AV) (v : Value), cs[i]? = some a → vs[i]? = some v → Rep c a v) : Rep c (.fn f cs) (.func (.func f) #[] vs)
  | nilp : Rep c .nilp (.pointer none)
  | mp (i : Bid) (k : ABlk) (hi : i ≠ yB) (hm : c.m i = some k) (hz : k.z = 0) : Rep c (.mp i) (.map (some (c.β i)))
  | yld (l : Nat) : Rep c (.yld l) (.func (.yield l) #[] #[])

/-- c' is behind c. -/
structure Cx.Ext (c c' : Cx) : Prop where
  s : ∀ b o, c.S b o → c'.S b o ∧ c'.w.cell? ⟨b, o, none⟩ = c.w.cell? ⟨b, o, none⟩
  m : ∀ i k, c.m i = some k → ∃ k', c'.m i = some k' ∧ k'.z = k.z ∧ (k.z = 0 → c'.β i = c.β i) ∧ (0 < k.z → k.rows.length ≤ k'.rows.length ∧ (k'.rows.length = k.rows.length → c'.β i = c.β i ∧ ∀ cap, c.room (c.β i) k.z cap → c'.room (c.β i) k.z cap))
  k : KeepsBook c.w c'.w

theorem Cx.Ext.refl (c : Cx) : c.Ext c := ⟨fun _ _ h => ⟨h, rfl⟩, fun _ k h => ⟨k, h, rfl, fun _ => rfl, fun _ => ⟨Nat.le_refl _, fun _ => ⟨rfl, fun _ h => h⟩⟩⟩, .refl _⟩

theorem Cx.Ext.trans {a b c : Cx} (h : a.Ext b) (k : b.Ext c) : a.Ext c :=
  ⟨fun x o hs => ⟨(k.s _ _ (h.s _ _ hs).1).1, (k.s _ _ (h.s _ _ hs).1).2.trans (h.s _ _ hs).2⟩, fun i q hq => by
    obtain ⟨q1, h1, z1, b1, r1⟩ := h.m i q hq
    obtain ⟨q2, h2, z2, b2, r2⟩ := k.m i q1 h1
    refine ⟨q2, h2, z2.trans z1, fun e => (b2 (by omega)).trans (b1 e), fun hz => ?_⟩
    obtain ⟨l1, r1⟩ := r1 hz
    obtain ⟨l2, r2⟩ := r2 (by omega)
    refine ⟨Nat.le_trans l1 l2, fun e => ?_⟩
    obtain ⟨e1, f1⟩ := r1 (by omega)
    obtain ⟨e2, f2⟩ := r2 (by omega)
    refine ⟨e2.trans e1, fun cap hc => ?_⟩
    have := f2 cap
    rw [e1, z1] at this
    exact this (f1 cap hc), h.k.trans k.k⟩

theorem Rep.ext {c c' : Cx} (hx : c.Ext c') {a : AV} {v : Value} (h : Rep c a v) : Rep c' a v := by
  induction h with
  | undef v => exact .undef v
  | bool b => exact .bool b
  | int k n => exact .int k n
  | agg cs vs hl _ ih => exact .agg cs vs hl ih
  | tup cs vs hl _ ih => exact .tup cs vs hl ih
  | sl z full rows A cap b o vs hc hf hz hA hcell _ ih =>
    refine .sl z full rows A cap b o vs hc hf hz hA (fun i j r a hr ha => ?_) ih
    obtain ⟨h1, h2, h3⟩ := hcell i j r a hr ha
    exact ⟨(hx.s _ _ h2).2.trans h1, (hx.s _ _ h2).1, h3⟩
  | rp cs b o vs hcell _ ih =>
    refine .rp cs b o vs (fun j a ha => ?_) ih
    obtain ⟨h1, h2, h3⟩ := hcell j a ha
    exact ⟨(hx.s _ _ h2).2.trans h1, (hx.s _ _ h2).1, h3⟩
  | own i n cap k hm hz0 hn hr =>
    obtain ⟨k', hm', hz, _, hk⟩ := hx.m i k hm
    obtain ⟨hl, hk⟩ := hk hz0
    by_cases e : k'.rows.length = k.rows.length
    · obtain ⟨e1, e2⟩ := hk e
      rw [← e1]
      exact .own i n cap k' hm' (by omega) (by omega) (by rw [e1, hz]; exact e2 cap hr)
    · exact .ownOld i n k' _ hm' (by omega) (by omega)
  | ownOld i n k v hm hz0 hn =>
    obtain ⟨k', hm', hz, _, hk⟩ := hx.m i k hm
    have := (hk hz0).1
    exact .ownOld i n k' _ hm' (by omega) (by omega)
  | ptr i n r off k hm hz0 hn =>
    obtain ⟨k', hm', hz, _, hk⟩ := hx.m i k hm
    obtain ⟨hl, hk⟩ := hk hz0
    by_cases e : k'.rows.length = k.rows.length
    · obtain ⟨e1, e2⟩ := hk e
      rw [← e1, ← hz]
      exact .ptr i n r off k' hm' (by omega) (by omega)
    · exact .ptrOld i n r off k' _ hm' (by omega) (by omega)
  | ptrOld i n r off k v hm hz0 hn =>
    obtain ⟨k', hm', hz, _, hk⟩ := hx.m i k hm
    have := (hk hz0).1
    exact .ptrOld i n r off k' _ hm' (by omega) (by omega)
  | fn f cs vs hl _ ih => exact .fn f cs vs hl ih
  | nilp => exact .nilp
  | mp i k hi hm hz =>
    obtain ⟨k', hm', hz', hb, _⟩ := hx.m i k hm
    rw [← hb hz]
    exact .mp i k' hi hm' (by omega)
  | yld l => exact .yld l

/-- A list of values. -/
def RepL (c : Cx) (as : List AV) (vs : List Value) : Prop := vs.length = as.length ∧ ∀ (i : Nat) (a : AV) (v : Value), as[i]? = some a → vs[i]? = some v → Rep c a v

theorem RepL.ext {c c' : Cx} (hx : c.Ext c') {as : List AV} {vs : List Value} (h : RepL c as vs) : RepL c' as vs := ⟨h.1, fun i a v ha hv => (h.2 i a v ha hv).ext hx⟩

theorem RepL.nil (c : Cx) : RepL c [] [] := ⟨rfl, fun _ _ _ h => by simp at h⟩
theorem RepL.cons {c : Cx} {a : AV} {v : Value} {as : List AV} {vs : List Value} (h : Rep c a v) (hs : RepL c as vs) : RepL c (a :: as) (v :: vs) :=
  ⟨by simp [hs.1], fun i x y hx hy => by
    cases i with
    | zero => simp at hx hy; subst hx; subst hy; exact h
    | succ i => simp at hx hy; exact hs.2 i x y hx hy⟩
theorem RepL.nil_inv {c : Cx} {vs : List Value} (h : RepL c [] vs) : vs = [] := List.eq_nil_of_length_eq_zero h.1
theorem RepL.cons_inv {c : Cx} {a : AV} {as : List AV} {vs : List Value} (h : RepL c (a :: as) vs) : ∃ v r, vs = v :: r ∧ Rep c a v ∧ RepL c as r := by
  cases vs with
  | nil => have := h.1; simp at this
  | cons v r => exact ⟨v, r, rfl, h.2 0 a v rfl rfl, by have := h.1; simpa using this, fun i x y hx hy => h.2 (i + 1) x y hx hy⟩
theorem RepL.get {c : Cx} {as : List AV} {vs : List Value} (h : RepL c as vs) {i : Nat} {a : AV} (ha : as[i]? = some a) : ∃ v, vs[i]? = some v ∧ Rep c a v := by
  have hi : i < vs.length := by rw [h.1]; exact (List.getElem?_eq_some_iff.1 ha).1
  exact ⟨vs[i], List.getElem?_eq_getElem hi, h.2 i a _ ha (List.getElem?_eq_getElem hi)⟩
theorem RepL.append {c : Cx} {as bs : List AV} {vs us : List Value} (h : RepL c as vs) (k : RepL c bs us) : RepL c (as ++ bs) (vs ++ us) := by
  induction as generalizing vs with
  | nil => rw [h.nil_inv]; exact k
  | cons a as ih => obtain ⟨v, r, rfl, h1, h2⟩ := h.cons_inv; exact RepL.cons h1 (ih h2)
theorem RepL.drop {c : Cx} {as : List AV} {vs : List Value} (h : RepL c as vs) (n : Nat) : RepL c (as.drop n) (vs.drop n) :=
  ⟨by simp [h.1], fun i a v ha hv => h.2 (n + i) a v (by simpa using ha) (by simpa using hv)⟩
theorem RepL.take {c : Cx} {as : List AV} {vs : List Value} (h : RepL c as vs) (n : Nat) : RepL c (as.take n) (vs.take n) :=
  ⟨by simp [h.1], fun i a v ha hv => by
    rw [List.getElem?_take] at ha hv
    split at ha
    · rename_i hi; rw [if_pos hi] at hv; exact h.2 i a v ha hv
    · simp at ha⟩

/-- A value's cells. -/
theorem Rep.cells {c : Cx} {a : AV} {v : Value} (h : Rep c a v) (ha : a ≠ .undef) (ho : ∀ i n, a ≠ .own i n) (hp : ∀ i n r o, a ≠ .ptr i n r o) : RepL c a.cells v.cells.toList := by
  cases h with
  | undef => exact absurd rfl ha
  | agg cs vs hl h => exact ⟨by simpa [AV.cells, Value.cells] using hl, fun i a v h1 h2 => h i a v h1 (by simpa [Value.cells] using h2)⟩
  | ownOld i n k v hm hz hn => exact absurd rfl (ho i n)
  | ptrOld i n r off k v hm hz hn => exact absurd rfl (hp i n r off)
  | own i n cap k hm hz hn hr => exact absurd rfl (ho i n)
  | ptr i n r off k hm hz hn => exact absurd rfl (hp i n r off)
  | mp i k hi hm hz => exact RepL.cons (.mp i k hi hm hz) (RepL.nil c)
  | yld l => exact RepL.cons (.yld l) (RepL.nil c)
  | bool b => exact RepL.cons (.bool b) (RepL.nil c)
  | int k n => exact RepL.cons (.int k n) (RepL.nil c)
  | tup cs vs hl h => exact RepL.cons (.tup cs vs hl h) (RepL.nil c)
  | sl z full rows A cap b o vs hc hf hz hA hcell h => exact RepL.cons (.sl z full rows A cap b o vs hc hf hz hA hcell h) (RepL.nil c)
  | rp cs b o vs hcell h => exact RepL.cons (.rp cs b o vs hcell h) (RepL.nil c)
  | fn f cs vs hl h => exact RepL.cons (.fn f cs vs hl h) (RepL.nil c)
  | nilp => exact RepL.cons .nilp (RepL.nil c)

/-- May it lie in a cell, and is it still what it was. -/
def AV.okc (m : Mem) : AV → Bool
  | .bool _ | .int _ _ | .sl .. | .rp _ | .fn .. | .nilp | .mp _ => true
  | .own b n | .ptr b n _ _ => match m b with | some k => k.rows.length == n | none => false
  | _ => false

theorem Rep.one {c : Cx} {a : AV} {v : Value} (h : Rep c a v) (ha : a.okc c.m = true) : v.oneCell' = true := by
  cases h <;> first | rfl | (simp [AV.okc] at ha; done) | skip
  case ownOld k hm hz hn => simp [AV.okc, hm] at ha; omega
  case ptrOld k hm hz hn => simp [AV.okc, hm] at ha; omega

/-- A value whose cells may all lie in memory. -/
def AV.okv (m : Mem) (a : AV) : Bool := a.cells.all (·.okc m)

theorem Rep.okv {c : Cx} {a : AV} {v : Value} (h : Rep c a v) (ha : a.okv c.m = true) : RepL c a.cells v.cells.toList ∧ ∀ u, u ∈ v.cells.toList → u.oneCell' = true := by
  have key : RepL c a.cells v.cells.toList := by
    cases h with
    | undef => simp [AV.okv, AV.cells, AV.okc] at ha
    | agg cs vs hl h => exact ⟨by simpa [AV.cells, Value.cells] using hl, fun i a v h1 h2 => h i a v h1 (by simpa [Value.cells] using h2)⟩
    | ownOld i n k v hm hz hn => simp [AV.okv, AV.cells, AV.okc, hm] at ha; omega
    | ptrOld i n r off k v hm hz hn => simp [AV.okv, AV.cells, AV.okc, hm] at ha; omega
    | own i n cap k hm hz hn hr => exact RepL.cons (.own i n cap k hm hz hn hr) (RepL.nil c)
    | ptr i n r off k hm hz hn => exact RepL.cons (.ptr i n r off k hm hz hn) (RepL.nil c)
    | mp i k hi hm hz => exact RepL.cons (.mp i k hi hm hz) (RepL.nil c)
    | yld l => simp [AV.okv, AV.cells, AV.okc] at ha
    | bool b => exact RepL.cons (.bool b) (RepL.nil c)
    | int k n => exact RepL.cons (.int k n) (RepL.nil c)
    | tup cs vs hl h => simp [AV.okv, AV.cells, AV.okc] at ha
    | sl z full rows A cap b o vs hc hf hz hA hcell h => exact RepL.cons (.sl z full rows A cap b o vs hc hf hz hA hcell h) (RepL.nil c)
    | rp cs b o vs hcell h => exact RepL.cons (.rp cs b o vs hcell h) (RepL.nil c)
    | fn f cs vs hl h => exact RepL.cons (.fn f cs vs hl h) (RepL.nil c)
    | nilp => exact RepL.cons .nilp (RepL.nil c)
  refine ⟨key, fun u hu => ?_⟩
  obtain ⟨i, hi, rfl⟩ := List.getElem_of_mem hu
  have hi' : i < a.cells.length := by rw [← key.1]; exact hi
  refine (key.2 i a.cells[i] _ (List.getElem?_eq_getElem hi') (List.getElem?_eq_getElem hi)).one ?_
  simp only [AV.okv, List.all_eq_true] at ha
  exact ha _ (List.getElem_mem hi')

end Go.Proofs.Ytpgkpdojpmikkaa.Eng

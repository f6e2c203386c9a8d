/-
  THE ENGINE, part 14: loops over functions: what is kept while the rounds go by.
-/
import Derived.Test.YtpgkpdojpmikkaaE13
import Derived.RangeFuncRecord
import Derived.LoopNIn
set_option linter.unusedVariables false
set_option linter.unusedSimpArgs false
namespace Go.Proofs.Ytpgkpdojpmikkaa.Eng
open Go Go.RowKit

/-- The same memory in another world, under another guard. -/
theorem Inv.move {G G' : Gd} {S0 : Nat → Nat → Prop} {c : Cx} (hi : Inv G S0 c) (w' : World) (hsz : c.w.heap.size ≤ w'.heap.size)
    (hown : ∀ i k, c.m i = some k → i ≠ yB → w'.heap[c.β i]? = c.w.heap[c.β i]? ∧ ¬ G'.prot (c.β i))
    (hS : ∀ b o, c.S b o → w'.cell? ⟨b, o, none⟩ = c.w.cell? ⟨b, o, none⟩ ∧ (S0 b o ∨ ¬ G'.prot b))
    (hQ : G'.Q ((c.m yB).map (·.rows)) w') : Inv G' S0 ⟨c.S, c.β, w', c.m⟩ ∧ c.Ext ⟨c.S, c.β, w', c.m⟩ := by
  have hx : c.Ext ⟨c.S, c.β, w', c.m⟩ := by
    refine ⟨fun b o h => ⟨h, (hS b o h).1⟩, fun i k h => ⟨k, h, rfl, fun _ => rfl, fun hz => ⟨Nat.le_refl _, fun _ => ⟨rfl, fun cap hr => ?_⟩⟩⟩, ⟨hsz, fun _ _ _ h => by cases h⟩⟩
    obtain ⟨cs, T, hg, hs⟩ := hr
    exact ⟨cs, T, (hown i k h (hi.ney h hz)).1.trans hg, hs⟩
  refine ⟨⟨fun i k h hy => ?_, hi.excl, hi.inj, fun b o h => Nat.lt_of_lt_of_le (hi.sdom b o h) hsz, hi.s0, fun b o h => (hS b o h).2, hi.gh, hQ⟩, hx⟩
  obtain ⟨h1, h2⟩ := hown i k h hy
  have hb := hi.blk i k h hy
  refine ⟨h2, hb.len', fun hz => ?_, fun hz => (hb.map hz).ext hx h1⟩
  obtain ⟨cs, T, cap, hg, hs, hl, hc⟩ := hb.cells' hz
  refine ⟨cs, T, cap, h1.trans hg, hs, hl, fun p j r a hr ha => ?_⟩
  obtain ⟨v, hv, ho, hrep⟩ := hc p j r a hr ha
  exact ⟨v, hv, ho, hrep.ext hx⟩

/-- Some blocks more stay as they are in A. -/
def Gd.lock (G : Gd) (Z : Nat → Prop) (A : World) : Gd where
  prot b := G.prot b ∨ Z b
  Q y w := G.Q y w ∧ ∀ b, Z b → b < A.heap.size ∧ w.heap[b]? = A.heap[b]?
  lt y w h b hb := by
    rcases hb with hb | hb
    · exact G.lt y w h.1 b hb
    · obtain ⟨h1, h2⟩ := h.2 b hb
      rw [Array.getElem?_eq_getElem h1] at h2
      exact (Array.getElem?_eq_some_iff.1 h2).1
  cl y w w' h h1 h2 h3 h4 h5 := ⟨G.cl y w w' h.1 h1 h2 h3 h4 (fun b hb => h5 b (.inl hb)), fun b hb => ⟨(h.2 b hb).1, (h5 b (.inr hb)).trans (h.2 b hb).2⟩⟩

def Gd.mark (G : Gd) (D : Nat) : Gd where
  prot b := G.prot b ∨ b = D
  Q y w := G.Q y w ∧ w.heap[D]? = some (.deferred (some []))
  lt y w h b hb := by
    rcases hb with hb | rfl
    · exact G.lt y w h.1 b hb
    · exact (Array.getElem?_eq_some_iff.1 h.2).1
  cl y w w' h h1 h2 h3 h4 h5 := ⟨G.cl y w w' h.1 h1 h2 h3 h4 (fun b hb => h5 b (.inl hb)), (h5 D (.inr rfl)).trans h.2⟩

def Gd.marks (G : Gd) : List Nat → Gd
  | [] => G
  | D :: Ds => (G.marks Ds).mark D

theorem Gd.marks_prot {G : Gd} : ∀ {Ds : List Nat} {b : Nat}, (G.marks Ds).prot b ↔ G.prot b ∨ b ∈ Ds
  | [], b => by simp [Gd.marks]
  | D :: Ds, b => by
    show (G.marks Ds).prot b ∨ b = D ↔ _
    rw [Gd.marks_prot (Ds := Ds)]; simp [or_assoc, or_comm]

theorem Gd.marks_Q {G : Gd} : ∀ {Ds : List Nat} {y : Option (List (List AV))} {w : World}, (G.marks Ds).Q y w ↔ G.Q y w ∧ ∀ D, D ∈ Ds → w.heap[D]? = some (.deferred (some []))
  | [], y, w => by simp [Gd.marks]
  | D :: Ds, y, w => by
    show (G.marks Ds).Q y w ∧ _ ↔ _
    rw [Gd.marks_Q (Ds := Ds)]; simp only [List.mem_cons, forall_eq_or_imp]; exact ⟨fun ⟨⟨p, q⟩, r⟩ => ⟨p, r, q⟩, fun ⟨p, r, q⟩ => ⟨⟨p, q⟩, r⟩⟩

def Ym (Y0 : Gd → Prop) (Ds : List Nat) (G : Gd) : Prop := ∃ G0, Y0 G0 ∧ Ds.Nodup ∧ (∀ D, D ∈ Ds → ¬ G0.prot D) ∧ G = G0.marks Ds

theorem Ym.nil {Y0 : Gd → Prop} {G : Gd} : Ym Y0 [] G ↔ Y0 G := ⟨fun ⟨G0, h, _, _, e⟩ => by rw [e]; exact h, fun h => ⟨G, h, List.nodup_nil, (fun _ h => by cases h), rfl⟩⟩

theorem InvS.nil {Y0 : Gd → Prop} {S0 : Nat → Nat → Prop} {c : Cx} : InvS (Ym Y0 []) S0 c ↔ InvS Y0 S0 c :=
  ⟨fun ⟨G, h, hi⟩ => ⟨G, Ym.nil.1 h, hi⟩, fun ⟨G, h, hi⟩ => ⟨G, Ym.nil.2 h, hi⟩⟩

def mkD (D : Nat) : Deferred := { target := .collected D, args := #[] }

/-- c' is behind c, as far as the caller (of whom it is walked) needs. -/
structure Cx.ExtM (md : Md) (c c' : Cx) : Prop where
  s : ∀ b o, c.S b o → c'.S b o ∧ c'.w.cell? ⟨b, o, none⟩ = c.w.cell? ⟨b, o, none⟩
  m : ∀ i k, (md = .round ∨ i.2 = 0) → c.m i = some k → ∃ k', c'.m i = some k' ∧ k'.z = k.z ∧ (k.z = 0 → c'.β i = c.β i) ∧ (0 < k.z → k.rows.length ≤ k'.rows.length ∧ (k'.rows.length = k.rows.length → c'.β i = c.β i ∧ ∀ cap, c.room (c.β i) k.z cap → c'.room (c.β i) k.z cap))
  k : KeepsBook c.w c'.w

theorem Cx.Ext.M {c c' : Cx} (h : c.Ext c') (md : Md) : c.ExtM md c' := ⟨h.s, fun i k _ => h.m i k, h.k⟩
theorem Cx.ExtM.full {c c' : Cx} (h : c.ExtM .round c') : c.Ext c' := ⟨h.s, fun i k => h.m i k (.inl rfl), h.k⟩
theorem Cx.ExtM.trans' {md : Md} {a b c : Cx} (h : a.ExtM md b) (k : b.Ext c) : a.ExtM md c := by
  refine ⟨fun x o hs => ⟨(k.s _ _ (h.s _ _ hs).1).1, (k.s _ _ (h.s _ _ hs).1).2.trans (h.s _ _ hs).2⟩, fun i q hp hq => ?_, h.k.trans k.k⟩
  obtain ⟨q1, h1, z1, b1, r1⟩ := h.m i q hp hq
  obtain ⟨q2, h2, z2, b2, r2⟩ := k.m i q1 h1
  refine ⟨q2, h2, z2.trans z1, fun e => (b2 (by omega)).trans (b1 e), fun hz => ?_⟩
  obtain ⟨l1, r1⟩ := r1 hz
  obtain ⟨l2, r2⟩ := r2 (by omega)
  refine ⟨Nat.le_trans l1 l2, fun e => ?_⟩
  obtain ⟨e1, f1⟩ := r1 (by omega)
  obtain ⟨e2, f2⟩ := r2 (by omega)
  refine ⟨e2.trans e1, fun cap hc => ?_⟩
  have := f2 cap
  rw [e1, z1] at this
  exact this (f1 cap hc)

theorem clL_mem {m : Mem} : ∀ {cs : List AV}, clL m cs = true → ∀ {i : Nat} {a : AV}, cs[i]? = some a → a.cl m = true
  | [], _, i, a, h => by simp at h
  | b :: cs, h, 0, a, ha => by simp only [clL, Bool.and_eq_true] at h; simp at ha; subst ha; exact h.1
  | b :: cs, h, i + 1, a, ha => by simp only [clL, Bool.and_eq_true] at h; exact clL_mem h.2 (by simpa using ha)
theorem clR_mem {m : Mem} : ∀ {rows : List (List AV)}, clR m rows = true → ∀ {i : Nat} {r : List AV}, rows[i]? = some r → clL m r = true
  | [], _, i, a, h => by simp at h
  | b :: cs, h, 0, a, ha => by simp only [clR, Bool.and_eq_true] at h; simp at ha; subst ha; exact h.1
  | b :: cs, h, i + 1, a, ha => by simp only [clR, Bool.and_eq_true] at h; exact clR_mem h.2 (by simpa using ha)

/-- What names only blocks that are still known reads the same. -/
theorem Rep.fgt {c : Cx} {m' : Mem} (hm : ∀ i k, m' i = some k → c.m i = some k) {a : AV} {v : Value} (h : Rep c a v) (hf : a.cl m' = true) : Rep ⟨c.S, c.β, c.w, m'⟩ a v := by
  have get : ∀ {i k}, c.m i = some k → (m' i).isSome = true → m' i = some k := fun {i k} h1 h2 => by
    obtain ⟨k', hk'⟩ := Option.isSome_iff_exists.1 h2
    rw [hm i k' hk'] at h1
    cases h1
    exact hk'
  induction h with
  | undef v => exact .undef v
  | bool b => exact .bool b
  | int k n => exact .int k n
  | agg cs vs hl _ ih => exact .agg cs vs hl (fun i a v h1 h2 => ih i a v h1 h2 (clL_mem (by simpa [AV.cl] using hf) h1))
  | tup cs vs hl _ ih => exact .tup cs vs hl (fun i a v h1 h2 => ih i a v h1 h2 (clL_mem (by simpa [AV.cl] using hf) h1))
  | sl z full rows A cap b o vs hc hf' hz hA hcell _ ih =>
    exact .sl z full rows A cap b o vs hc hf' hz hA hcell (fun i j r a hr ha => ih i j r a hr ha (clL_mem (clR_mem (by simpa [AV.cl] using hf) hr) ha))
  | rp cs b o vs hcell _ ih => exact .rp cs b o vs hcell (fun j a ha => ih j a ha (clL_mem (by simpa [AV.cl] using hf) ha))
  | own i n cap k hm' hz hn hr => exact .own i n cap k (get hm' (by simpa [AV.cl] using hf)) hz hn hr
  | ownOld i n k v hm' hz hn => exact .ownOld i n k v (get hm' (by simpa [AV.cl] using hf)) hz hn
  | ptr i n r off k hm' hz hn => exact .ptr (c := ⟨c.S, c.β, c.w, m'⟩) i n r off k (get hm' (by simpa [AV.cl] using hf)) hz hn
  | ptrOld i n r off k v hm' hz hn => exact .ptrOld i n r off k v (get hm' (by simpa [AV.cl] using hf)) hz hn
  | fn f cs vs hl _ ih => exact .fn f cs vs hl (fun i a v h1 h2 => ih i a v h1 h2 (clL_mem (by simpa [AV.cl] using hf) h1))
  | nilp => exact .nilp
  | mp i k hi hm' hz => exact .mp (c := ⟨c.S, c.β, c.w, m'⟩) i k hi (get hm' (by simpa [AV.cl] using hf)) hz
  | yld l => exact .yld l

theorem Inv.fgt {G : Gd} {S0 : Nat → Nat → Prop} {c : Cx} (hi : Inv G S0 c) {m' : Mem} (hm : ∀ i k, m' i = some k → c.m i = some k) (hz : m' yB = c.m yB) (hcm : ∀ i k, m' i = some k → clR m' k.rows = true) : Inv G S0 ⟨c.S, c.β, c.w, m'⟩ := by
  refine ⟨fun i k hk hy => ?_, fun i k o hk hy => hi.excl i k o (hm i k hk) hy, fun i j k l h1 h2 => hi.inj i j k l (hm i k h1) (hm j l h2), hi.sdom, hi.s0, hi.sn, fun k hk => hi.gh k (hm yB k hk), by show G.Q ((m' yB).map (·.rows)) c.w; rw [hz]; exact hi.q⟩
  have hb := hi.blk i k (hm i k hk) hy
  have hc := hcm i k hk
  refine ⟨hb.base, hb.len', fun h0 => ?_, fun h0 => ?_⟩
  · obtain ⟨cs, T, cap, hg, hs, hl, hcell⟩ := hb.cells' h0
    refine ⟨cs, T, cap, hg, hs, hl, fun p j r a hr ha => ?_⟩
    obtain ⟨v, h1, h2, h3⟩ := hcell p j r a hr ha
    exact ⟨v, h1, h2, h3.fgt hm (clL_mem (clR_mem hc hr) ha)⟩
  · obtain ⟨es, cl, hg, hs, hrow⟩ := hb.map h0
    refine ⟨es, cl, hg, hs, fun p e r h1 h2 => ?_⟩
    obtain ⟨k1, v1, rfl, h3, h4⟩ := hrow p e r h1 h2
    have := clR_mem hc h2
    exact ⟨k1, v1, rfl, h3.fgt hm (clL_mem this (i := 0) rfl), h4.fgt hm (clL_mem this (i := 1) rfl)⟩

def Sim (Y0 : Gd → Prop) (S0 : Nat → Nat → Prop) (c0 : Cx) (md : Md) (N : Nat) (s : St) (a : Act) (w : World) : Prop :=
  a.tmps.size = N ∧ ∃ Ds, a.defers = Ds.map mkD ∧ (md ≠ .fn → Ds = []) ∧ ∃ c : Cx, c.w = w ∧ c.m = s.m ∧ InvS (Ym Y0 Ds) S0 c ∧ EnvOk c s.e a ∧ c0.ExtM md c

theorem Sim.fgt {Y0 : Gd → Prop} {S0 : Nat → Nat → Prop} {c0 : Cx} {md : Md} (hmd : md ≠ .round) {N : Nat} {s s' : St} {a : Act} {w : World} (h : Sim Y0 S0 c0 md N s a w) (hf : s' = s ∨ Fgt s s') : Sim Y0 S0 c0 md N s' a w := by
  rcases hf with rfl | hf
  · exact h
  obtain ⟨hN, Ds, hdf, hDs, c, rfl, hm, ⟨G, hG, hi⟩, hE, hx⟩ := h
  have hm' : ∀ i k, s'.m i = some k → c.m i = some k := fun i k hk => by rw [hm]; exact hf.m i k hk
  refine ⟨hN, Ds, hdf, hDs, ⟨c.S, c.β, c.w, s'.m⟩, rfl, rfl, ⟨G, hG, hi.fgt hm' (by rw [hm]; exact hf.z yB rfl) hf.cm⟩, fun i => ?_, ?_⟩
  · rcases hf.e i with he | he
    · have := hf.ce i
      rw [he] at this
      rw [he]
      exact (hE i).fgt hm' this
    · rw [he]; exact .undef _
  · refine ⟨hx.s, fun i k hp hk => ?_, hx.k⟩
    rcases hp with hp | hp
    · exact absurd hp hmd
    · obtain ⟨k', h1, h2⟩ := hx.m i k (.inr hp) hk
      exact ⟨k', by rw [← h1, hm]; exact hf.z i hp, h2⟩

def LQ (Y0 : Gd → Prop) (S0 : Nat → Nat → Prop) (c0 : Cx) (md : Md) (N : Nat) (Q : AExit → St → Prop) : Exit → Act → World → Prop
  | .normal, a, w => ∃ s, Q .normal s ∧ Sim Y0 S0 c0 md N s a w
  | .exit id, a, w => ∃ s, Q (.exit id) s ∧ Sim Y0 S0 c0 md N s a w
  | .ret, a, w => ∃ s, Q .ret s ∧ Sim Y0 S0 c0 md N s a w
  | _, _, _ => False

/-- What the caller's part is between two rounds. T: what the iterator has made. -/
structure RCore (G : Gd) (S0 : Nat → Nat → Prop) (c1 : Cx) (D : Nat) (T : Nat → Prop) (A : World) (c' : Cx) : Prop where
  w : c'.w = A
  x : c1.Ext c'
  inv : Inv G S0 c'
  own : ∀ i k, c'.m i = some k → i ≠ yB → ¬ (c'.β i = D ∨ c'.β i = D + 1 ∨ T (c'.β i))
  sc : ∀ b o, (b = D ∨ b = D + 1 ∨ T b) → ¬ c'.S b o
  d : A.heap[D]? = some (.deferred (some []))
  t : ∀ b, T b → D + 2 ≤ b ∧ b < A.heap.size
  np : ∀ b, D ≤ b → ¬ G.prot b

/-- The iterator does something. -/
theorem RCore.step {G : Gd} {S0 : Nat → Nat → Prop} {c1 c' : Cx} {D : Nat} {T : Nat → Prop} {A A' : World} (h : RCore G S0 c1 D T A c') (hl : D + 1 < A.heap.size)
    (h1 : A'.os = A.os) (h2 : A'.tape = A.tape) (h3 : A'.output = A.output) (h4 : A.heap.size ≤ A'.heap.size) (h5 : ∀ b, b < A.heap.size → ¬ T b → A'.heap[b]? = A.heap[b]?) :
    RCore G S0 c1 D (fun b => T b ∨ (A.heap.size ≤ b ∧ b < A'.heap.size)) A' ⟨c'.S, c'.β, A', c'.m⟩ ∧ A'.heap[D + 1]? = A.heap[D + 1]? := by
  have hD : D < A.heap.size := by omega
  have hnT : ∀ b, b < D + 2 → ¬ T b := fun b hb ht => by have := (h.t b ht).1; omega
  have hw := h.w
  subst hw
  obtain ⟨hi, hE⟩ := h.inv.move (G' := G) A' h4
    (fun i k hk hy => ⟨h5 _ (h.inv.blk i k hk hy).lt (fun ht => h.own i k hk hy (.inr (.inr ht))), (h.inv.blk i k hk hy).base⟩)
    (fun b o hs => ⟨cell_same (h5 b (h.inv.sdom b o hs) (fun ht => h.sc b o (.inr (.inr ht)) hs)) o, h.inv.sn b o hs⟩)
    (G.cl _ c'.w A' h.inv.q h1 h2 h3 h4 (fun b hb => by
      have hbD : b < D := Nat.lt_of_not_le fun hle => h.np b hle hb
      exact h5 b (by omega) (hnT b (by omega))))
  refine ⟨⟨rfl, h.x.trans hE, hi, fun i k hk hy hh => ?_, fun b o hb hs => ?_, (h5 D hD (hnT D (by omega))).trans h.d, fun b hb => ?_, h.np⟩, h5 (D + 1) hl (hnT _ (by omega))⟩
  · have hlt := (h.inv.blk i k hk hy).lt
    rcases hh with hh | hh | hh | hh
    · exact h.own i k hk hy (.inl hh)
    · exact h.own i k hk hy (.inr (.inl hh))
    · exact h.own i k hk hy (.inr (.inr hh))
    · have : c'.w.heap.size ≤ c'.β i := hh.1; omega
  · have hlt := h.inv.sdom b o hs
    rcases hb with hb | hb | hb | hb
    · exact h.sc b o (.inl hb) hs
    · exact h.sc b o (.inr (.inl hb)) hs
    · exact h.sc b o (.inr (.inr hb)) hs
    · have := hb.1; omega
  · rcases hb with hb | hb
    · have := h.t b hb; exact ⟨this.1, by omega⟩
    · exact ⟨by omega, hb.2⟩

/-- The loop's record is written. -/
theorem RCore.set {G : Gd} {S0 : Nat → Nat → Prop} {c1 c' : Cx} {D : Nat} {T : Nat → Prop} {A : World} (h : RCore G S0 c1 D T A c') (o' : Obj) :
    RCore G S0 c1 D T (A.putObj (D + 1) o') ⟨c'.S, c'.β, A.putObj (D + 1) o', c'.m⟩ := by
  have hw := h.w
  subst hw
  obtain ⟨hi, hE⟩ := h.inv.move (G' := G) (c'.w.putObj (D + 1) o') (by simp)
    (fun i k hk hy => ⟨World.putObj_heap_other (fun e => h.own i k hk hy (.inr (.inl e))), (h.inv.blk i k hk hy).base⟩)
    (fun b o hs => ⟨cell_same (World.putObj_heap_other (fun e => h.sc b o (.inr (.inl e)) hs)) o, h.inv.sn b o hs⟩)
    (G.cl _ c'.w _ h.inv.q rfl rfl rfl (by simp) (fun b hb => World.putObj_heap_other (fun e => h.np b (by omega) hb)))
  exact ⟨rfl, h.x.trans hE, hi, h.own, h.sc, (World.putObj_heap_other (by omega)).trans h.d, fun b hb => by have := h.t b hb; simpa using this, h.np⟩

theorem putPs_ok {c : Cx} {N : Nat} : ∀ (ps : List Nat) (vs : List AV) (us : List Value) (e : AEnv) (t : Array Value), (ps.all fun p => decide (p < N)) = true → t.size = N → RepL c vs us → (∀ i, Rep c (e i) (t.getD i undef)) →
    ((ps.zip us).foldl (fun t (p, v) => t.setIfInBounds p v) t).size = N ∧ ∀ i, Rep c (putPs e ps vs i) (((ps.zip us).foldl (fun t (p, v) => t.setIfInBounds p v) t).getD i undef)
  | [], vs, us, e, t, _, hN, _, he => by cases vs <;> exact ⟨by simpa using hN, by simpa [putPs] using he⟩
  | p :: ps, [], us, e, t, _, hN, hv, he => by rw [hv.nil_inv]; exact ⟨by simpa using hN, by simpa [putPs] using he⟩
  | p :: ps, v :: vs, us, e, t, hp, hN, hv, he => by
    obtain ⟨u, r, rfl, h1, h2⟩ := hv.cons_inv
    simp only [List.all_cons, Bool.and_eq_true, decide_eq_true_eq] at hp
    simp only [List.zip_cons_cons, List.foldl_cons, putPs]
    refine putPs_ok ps vs r (putE e (some p) v) (t.setIfInBounds p u) hp.2 (by simpa using hN) h2 (fun i => ?_)
    have := (EnvOk.put (c := c) (e := e) (a := { tmps := t, defers := [] }) he (d := some p) (x := v) (v := u) (fun q hq => by cases hq; simp; omega) h1) i
    exact this

theorem wpIn_loop_ghost {F : Fence} {n : Nat} {P : Program} {Q : Exit → Act → World → Prop} {a : Act} {w : World} {c : Code} (I : Nat → Act → World → Prop) (n₀ : Nat) (h₀ : I n₀ a w)
    (round : ∀ k a w, I k a w → c.wpIn F n P (Exit.then (fun a' w' => ∃ k', k' < k ∧ I k' a' w') Q) a w) : (Code.loop c).wpIn F n P Q a w := by
  refine wpIn_loop (fun a w => ∃ k, I k a w) (fun a w => leastOf (fun k => I k a w)) ⟨n₀, h₀⟩ ?_
  intro a w hI
  refine wpIn_mono (round _ a w (leastOf_spec hI).1) ?_
  intro e a' w' hq
  cases e with
  | normal =>
    obtain ⟨n', hlt, hI'⟩ := hq
    exact show (∃ k, I k a' w') ∧ leastOf (fun k => I k a' w') < leastOf (fun k => I k a w) from ⟨⟨n', hI'⟩, Nat.lt_of_le_of_lt ((leastOf_spec ⟨n', hI'⟩).2 n' hI') hlt⟩
  | exit id => exact hq
  | goto l => exact hq
  | ret => exact hq
  | panic ch => exact hq
  | outgrown => exact hq

theorem stepR_scope {P : Program} {b : Frame} {a : Act} {k : List Item} {cs : List Frame} {w : World} {c : Code} : step P (lone (b.atR a (.code (.scope c) :: k)) cs w) = .next (lone (b.atR a (.code c :: .inScope c :: k)) cs w) :=
  step_lone_go (by simp [stepG, stepG.exec, Frame.atR])
theorem stepR_inScope {P : Program} {b : Frame} {a : Act} {k : List Item} {cs : List Frame} {w : World} {c : Code} : step P (lone (b.atR a (.inScope c :: k)) cs w) = .next (lone (b.atR a k) cs w) :=
  step_lone_go (by simp [stepG, stepG.exec, Frame.atR])

theorem wpIn_scope_straight {F : Fence} {n : Nat} {P : Program} {Q : Exit → Act → World → Prop} {a : Act} {w : World} {c : Code} (h : c.wpIn F n P (Exit.noGoto Q) a w) : (Code.scope c).wpIn F n P Q a w := by
  intro b k cs hro hb hr
  obtain ⟨e, a₁, w₁, hq, harr⟩ := h b (.inScope c :: k) cs hro hb hr
  have s0 : StepsIn (Machine.fenced P F) P (lone (b.atR a (.code (.scope c) :: k)) cs w) (lone (b.atR a (.code c :: .inScope c :: k)) cs w) := .one (fenced_calm hb hr rfl) stepR_scope
  cases e with
  | normal => exact ⟨.normal, a₁, w₁, hq, StepsIn.trans s0 (StepsIn.trans harr (.one (fenced_calm hb hr rfl) stepR_inScope))⟩
  | exit id =>
    refine ⟨.exit id, a₁, w₁, hq, fun k' hk => StepsIn.trans s0 (harr.1 k' (by simp [exitTo, hk])), fun hr' hk => ?_⟩
    obtain ⟨k₁, h1, h2⟩ := harr.2 hr' (by simp [exitTo, hk])
    exact ⟨k₁, h1, StepsIn.trans s0 h2⟩
  | goto l => exact hq.elim
  | ret => exact ⟨_, a₁, w₁, hq, .of_steps s0 harr⟩
  | panic ch => exact ⟨_, a₁, w₁, hq, .of_steps s0 harr⟩
  | outgrown => exact ⟨_, a₁, w₁, hq, .of_steps s0 harr⟩

end Go.Proofs.Ytpgkpdojpmikkaa.Eng

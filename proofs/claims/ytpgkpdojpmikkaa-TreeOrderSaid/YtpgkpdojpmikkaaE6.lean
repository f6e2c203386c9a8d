/-
  THE ENGINE, part 6: values that are built, slices that are cut, and all operations together.
-/
import Derived.Test.YtpgkpdojpmikkaaE5
set_option linter.unusedVariables false
set_option linter.unusedSimpArgs false
namespace Go.Proofs.Ytpgkpdojpmikkaa.Eng
open Go Go.RowKit

/-! ### build -/
def tplaces (P : Program) (T : TypeId) : Option (List (Nat × Nat)) := match P.underlying T with
  | some (.struct fs) => fs.toList.mapM (fun f => (P.info? f.type).map fun i => (f.offset, i.size))
  | _ => none

def fillA (m : Mem) (places : List (Nat × Nat)) : List (Nat × AV) → List AV → Option (List AV)
  | [], cs => some cs
  | (i, x) :: r, cs => match places[i]? with
    | some (off, z) => if x.okv m = true ∧ x.cells.length = z ∧ off + z ≤ cs.length then fillA m places r (splice cs off x.cells) else none
    | none => none

theorem foldl_zipIdx : ∀ (l : List Value) (k off : Nat) (cs : Array Value), off + k + l.length ≤ cs.size →
    (l.zipIdx k).foldl (fun cs (p : Value × Nat) => cs.setIfInBounds (off + p.2) p.1) cs = (splice cs.toList (off + k) l).toArray
  | [], k, off, cs, _ => by simp [splice]
  | v :: l, k, off, cs, h => by
    simp only [List.length_cons] at h
    rw [List.zipIdx_cons, List.foldl_cons, foldl_zipIdx l (k + 1) off _ (by simp; omega)]
    congr 1
    apply List.ext_getElem?
    intro q
    rw [splice_get _ _ _ (by simp; omega), splice_get _ _ _ (by simp; omega)]
    simp only [Array.toList_setIfInBounds, List.getElem?_set, List.length_cons, Array.length_toList]
    by_cases h1 : q < off + k
    · rw [if_pos (by omega), if_pos h1, if_neg (by omega)]
    · by_cases h2 : q = off + k
      · subst h2
        rw [if_pos (show off + k < off + (k + 1) by omega), if_neg h1, if_pos (show off + k < off + k + (l.length + 1) by omega)]
        simp; omega
      · by_cases h3 : q < off + k + (l.length + 1)
        · rw [if_neg (by omega), if_pos (by omega), if_neg h1, if_pos h3]
          rw [show q - (off + k) = (q - (off + (k + 1))) + 1 by omega, List.getElem?_cons_succ]
        · rw [if_neg (by omega), if_neg (by omega), if_neg h1, if_neg h3, if_neg (by omega)]

theorem foldl_fill (v : Array Value) (off : Nat) (cs : Array Value) (h : off + v.size ≤ cs.size) : v.zipIdx.foldl (fun cs (p : Value × Nat) => cs.setIfInBounds (off + p.2) p.1) cs = (splice cs.toList off v.toList).toArray := by
  have := foldl_zipIdx v.toList 0 off cs (by simpa using h)
  rw [← Array.foldl_toList, Array.toList_zipIdx]
  simpa using this

theorem RepL.splice {c : Cx} {as xs : List AV} {vs us : List Value} (h : RepL c as vs) (k : RepL c xs us) (o : Nat) : RepL c (splice as o xs) (splice vs o us) := by
  unfold Eng.splice
  rw [k.1]
  exact ((h.take o).append k).append (h.drop _)

theorem fill_ok {c : Cx} (places : List (Nat × Nat)) : ∀ (ps : List (Nat × AV)) (vs : List (Nat × Value)) (cs cs' : List AV) (us : Array Value), vs.length = ps.length →
    (∀ (i : Nat) (p : Nat × AV) (q : Nat × Value), ps[i]? = some p → vs[i]? = some q → q.1 = p.1 ∧ Rep c p.2 q.2) → RepL c cs us.toList → fillA c.m places ps cs = some cs' →
    ∃ us', Instr.fill (fun x => places[x]?) us vs = some us' ∧ RepL c cs' us'.toList
  | [], vs, cs, cs', us, hl, _, hr, h => by
    simp only [fillA, Option.some.injEq] at h
    subst h
    rw [List.eq_nil_of_length_eq_zero hl]
    exact ⟨us, rfl, hr⟩
  | (i, x) :: ps, [], cs, cs', us, hl, _, _, _ => by simp at hl
  | (i, x) :: ps, (i', v) :: vs, cs, cs', us, hl, hp, hr, h => by
    obtain ⟨e, hx⟩ := hp 0 (i, x) (i', v) rfl rfl
    simp only at e hx
    subst e
    simp only [fillA] at h
    split at h <;> try (simp at h; done)
    rename_i off z hpl
    split at h <;> try (simp at h; done)
    rename_i hc
    obtain ⟨h1, h2, h3⟩ := hc
    obtain ⟨hcv, _⟩ := hx.okv h1
    have hz : v.cells.size = z := by have := hcv.1; simp at this; omega
    have hus : us.size = cs.length := by have := hr.1; simpa using this
    obtain ⟨us', h4, h5⟩ := fill_ok places ps vs _ cs' (splice us.toList off v.cells.toList).toArray (by simpa using hl) (fun j p q hj hq => hp (j + 1) p q hj hq) (by simpa using hr.splice hcv off) h
    refine ⟨us', ?_, h5⟩
    simp only [Instr.fill, hpl]
    rw [if_neg (by simp; omega), foldl_fill v.cells off us (by omega)]
    exact h4

def effBuild (P : Program) (T : TypeId) (m : Mem) (ps : List (Nat × AV)) : Option AV := match tzero P T, tplaces P T with
  | some zs, some pl => (fillA m pl ps zs).map .agg
  | _, _ => none

theorem effBuild_ok {P : Program} {c : Cx} {T : TypeId} {ps : List (Nat × AV)} {vs : Array (Nat × Value)} {r : AV} (hl : vs.size = ps.length)
    (hp : ∀ (i : Nat) (p : Nat × AV) (q : Nat × Value), ps[i]? = some p → vs[i]? = some q → q.1 = p.1 ∧ Rep c p.2 q.2) (h : effBuild P T c.m ps = some r) : ∃ q, (Instr.build T vs).run P c.w = .ok q c.w ∧ Rep c r q := by
  unfold effBuild at h
  split at h <;> try (simp at h; done)
  rename_i zs pl hz hpl
  simp only [Option.map_eq_some_iff] at h
  obtain ⟨cs', hf, rfl⟩ := h
  obtain ⟨i, zv, hinf, hzero, hzl, hvl, hrep⟩ := tzero_ok hz
  obtain ⟨hr, _⟩ := hrep c
  obtain ⟨us', hfill, hr'⟩ := fill_ok pl ps vs.toList zs cs' zv.cells (by simpa using hl) (fun j p q hj hq => hp j p q hj (by simpa using hq)) hr hf
  unfold tplaces at hpl
  split at hpl <;> try (simp at hpl; done)
  rename_i fs hun
  refine ⟨.agg us', run_build c.w T vs us' ?_, .agg _ _ (by have := hr'.1; simpa using this) (fun i a v h1 h2 => hr'.2 i a v h1 (by simpa using h2))⟩
  simp [Program.built, hinf, hun, hzero, hpl, hfill]

/-! ### slices that are written out -/
theorem flatten_get {α : Type} {z : Nat} : ∀ {rows : List (List α)}, (∀ r, r ∈ rows → r.length = z) → ∀ {i j : Nat} {r : List α} {a : α}, rows[i]? = some r → r[j]? = some a → rows.flatten[i * z + j]? = some a
  | [], _, i, j, r, a, h, _ => by simp at h
  | q :: rows, hl, 0, j, r, a, h, ha => by
    simp only [List.getElem?_cons_zero, Option.some.injEq] at h
    subst h
    rw [List.flatten_cons, Nat.zero_mul, Nat.zero_add, List.getElem?_append_left (List.getElem?_eq_some_iff.1 ha).1, ha]
  | q :: rows, hl, i + 1, j, r, a, h, ha => by
    simp only [List.getElem?_cons_succ] at h
    have hq := hl q (by simp)
    rw [List.flatten_cons, Nat.succ_mul, List.getElem?_append_right (by omega)]
    rw [show i * z + z + j - q.length = i * z + j by omega]
    exact flatten_get (fun r hr => hl r (by simp [hr])) h ha

theorem flatten_length {α : Type} {z : Nat} : ∀ {rows : List (List α)}, (∀ r, r ∈ rows → r.length = z) → rows.flatten.length = rows.length * z
  | [], _ => by simp
  | q :: rows, hl => by
    have := flatten_length (rows := rows) (fun r hr => hl r (by simp [hr]))
    have hq := hl q (by simp)
    rw [List.flatten_cons, List.length_append, this, hq, List.length_cons, Nat.succ_mul]; omega

theorem fillRows {z : Nat} : ∀ (vs : List (Nat × Value)) (k : Nat) (us : Array Value), vs.map (·.1) = (List.range vs.length).map (k + ·) → (∀ v, v ∈ vs → v.2.cells.size = z) → (k + vs.length) * z ≤ us.size →
    Instr.fill (fun i => some (i * z, z)) us vs = some (splice us.toList (k * z) (vs.map (·.2.cells.toList)).flatten).toArray
  | [], k, us, _, _, _ => by simp [Instr.fill, splice]
  | (i, v) :: vs, k, us, hk, hz, hl => by
    simp only [List.map_cons, List.length_cons, List.range_succ_eq_map, List.map_cons, Nat.add_zero, List.cons.injEq, List.map_map] at hk
    obtain ⟨rfl, hk2⟩ := hk
    have hv := hz (i, v) (by simp)
    simp only at hv
    have hl' : i * z + z + vs.length * z ≤ us.size := by
      have : (i + (vs.length + 1)) * z = i * z + z + vs.length * z := by rw [Nat.add_mul, Nat.succ_mul]; omega
      simp only [List.length_cons] at hl; omega
    have hs1 : i * z + v.cells.toList.length ≤ us.toList.length := by simp; omega
    have hfl : (vs.map (·.2.cells.toList)).flatten.length = vs.length * z := by
      rw [flatten_length (z := z) (by intro r hr; simp only [List.mem_map] at hr; obtain ⟨q, hq, rfl⟩ := hr; simpa using hz q (by simp [hq]))]; simp
    simp only [Instr.fill]
    rw [if_neg (by simp; omega), foldl_fill v.cells (i * z) us (by omega)]
    rw [fillRows vs (i + 1) _ (by rw [hk2]; apply List.map_congr_left; intro x _; simp; omega) (fun q hq => hz q (by simp [hq])) (by rw [List.size_toArray, splice_length _ _ _ hs1, Nat.add_mul, Nat.succ_mul]; simp; omega)]
    congr 2
    apply List.ext_getElem?
    intro q
    have hs2 : i * z + (((i, v) :: vs).map (·.2.cells.toList)).flatten.length ≤ us.toList.length := by
      rw [List.map_cons, List.flatten_cons, List.length_append, hfl]; simp; omega
    have hs3 : (i + 1) * z + (vs.map (·.2.cells.toList)).flatten.length ≤ (splice us.toList (i * z) v.cells.toList).length := by
      rw [splice_length _ _ _ hs1, hfl, Nat.succ_mul]; simp; omega
    rw [splice_get _ _ _ hs2, splice_get _ _ _ hs3, splice_get _ _ _ hs1]
    simp only [List.map_cons, List.flatten_cons, List.length_append, hfl, Array.length_toList, hv, Nat.succ_mul]
    by_cases h1 : q < i * z
    · rw [if_pos (by omega), if_pos h1, if_pos h1]
    · by_cases h2 : q < i * z + z
      · rw [if_pos h2, if_neg h1, if_pos h2, if_neg h1, if_pos (by omega), List.getElem?_append_left (by simp; omega)]
      · by_cases h3 : q < i * z + z + vs.length * z
        · rw [if_neg h2, if_pos h3, if_neg h1, if_pos (by omega), List.getElem?_append_right (by simp; omega)]
          congr 1; simp; omega
        · rw [if_neg h2, if_neg h3, if_neg h1, if_neg h2, if_neg h1, if_neg (by omega)]

def effBuildSlice (P : Program) (T : TypeId) (len : Nat) (m : Mem) (ps : List (Nat × AV)) : Option AV := match tsl P T with
  | some (e, z, _) => if (tzero P e).isSome = true ∧ len * z ≤ 2 ^ 24 ∧ ps.map (·.1) = List.range len ∧ (ps.all fun p => p.2.okv m && p.2.cells.length == z) = true then some (.sl z true (ps.map (·.2.cells))) else none
  | none => none

theorem effBuildSlice_ok {P : Program} {w0 : Gd} {S0 : Nat → Nat → Prop} {c : Cx} (hi : Inv w0 S0 c) {T : TypeId} {len : Nat} {ps : List (Nat × AV)} {vs : Array (Nat × Value)} {r : AV} (hl : vs.size = ps.length)
    (hp : ∀ (i : Nat) (p : Nat × AV) (q : Nat × Value), ps[i]? = some p → vs[i]? = some q → q.1 = p.1 ∧ Rep c p.2 q.2) (h : effBuildSlice P T len c.m ps = some r) : OpOk P w0 S0 c (Instr.buildSlice T len vs) ⟨r, []⟩ := by
  unfold effBuildSlice at h
  split at h <;> try (simp at h; done)
  rename_i e z by_ ht
  split at h <;> try (simp at h; done)
  rename_i hc
  obtain ⟨hze, hlen, hidx, hall⟩ := hc
  simp only [Option.some.injEq] at h
  subst h
  obtain ⟨zs, hzs⟩ := Option.isSome_iff_exists.1 hze
  obtain ⟨hun, hz, _, z0, _⟩ := tsl_ok ht
  obtain ⟨i, zv, hinf, hzero, hzl, hvl, _⟩ := tzero_ok hzs
  have hiz : i.size = z := by unfold tz at hz; rw [hinf] at hz; simpa using hz
  have hpl : ps.length = len := by have := congrArg List.length hidx; simpa using this
  have hvs : ∀ (i : Nat) (q : Nat × Value), vs.toList[i]? = some q → ∃ p, ps[i]? = some p ∧ q.1 = p.1 ∧ Rep c p.2 q.2 ∧ p.2.okv c.m = true ∧ p.2.cells.length = z := by
    intro i q hq
    have hil : i < ps.length := by have := (List.getElem?_eq_some_iff.1 hq).1; simp at this; omega
    obtain ⟨h1, h2⟩ := hp i ps[i] q (List.getElem?_eq_getElem hil) (by simpa using hq)
    simp only [List.all_eq_true, Bool.and_eq_true, beq_iff_eq] at hall
    exact ⟨ps[i], List.getElem?_eq_getElem hil, h1, h2, hall _ (List.getElem_mem hil)⟩
  have hvz : ∀ v, v ∈ vs.toList → v.2.cells.size = z := by
    intro v hv
    obtain ⟨j, hj, rfl⟩ := List.getElem_of_mem hv
    obtain ⟨p, h1, h2, h3, h4, h5⟩ := hvs j _ (List.getElem?_eq_getElem hj)
    have := (h3.okv h4).1.1
    simp at this; simp; omega
  have hidx2 : vs.toList.map (·.1) = (List.range vs.toList.length).map (0 + ·) := by
    apply List.ext_getElem?
    intro j
    simp only [List.getElem?_map]
    by_cases hj : j < vs.size
    · obtain ⟨p, h1, h2, _⟩ := hvs j vs[j] (by simp [hj])
      have h3 := congrArg (·[j]?) hidx
      simp only [List.getElem?_map, h1, Option.map_some, List.getElem?_range (show j < len by omega)] at h3
      simp [hj, h2]
      simpa using h3
    · simp [hj]
  generalize hzero' : (if len * z = 0 then (#[] : Array Value) else zv.cells) = zero
  have hfill := fillRows (z := z) vs.toList 0 ((Array.range (len * z)).map (zero[· % zero.size]!)) hidx2 hvz (by simp; rw [hl, hpl]; exact Nat.le_refl _)
  have hflen : (vs.toList.map (·.2.cells.toList)).flatten.length = len * z := by
    rw [flatten_length (z := z) (by intro r hr; simp only [List.mem_map] at hr; obtain ⟨q, hq, rfl⟩ := hr; simpa using hvz q hq)]; simp; rw [hl, hpl]
  have hsp : (splice ((Array.range (len * z)).map (zero[· % zero.size]!)).toList (0 * z) (vs.toList.map (·.2.cells.toList)).flatten) = (vs.toList.map (·.2.cells.toList)).flatten := by
    unfold splice
    rw [Nat.zero_mul, hflen, Nat.zero_add, List.drop_eq_nil_of_le (by simp)]; simp
  rw [hsp] at hfill
  generalize hF : (vs.toList.map (·.2.cells.toList)).flatten = F at hfill hflen
  have hrow : ∀ (p j : Nat) (r : List AV) (a : AV), (ps.map (·.2.cells))[p]? = some r → r[j]? = some a → ∃ v, F[p * z + j]? = some v ∧ v.oneCell' = true ∧ Rep c a v := by
    intro p j r a h1 h2
    simp only [List.getElem?_map, Option.map_eq_some_iff] at h1
    obtain ⟨pp, h3, rfl⟩ := h1
    have hpv : p < vs.toList.length := by have := (List.getElem?_eq_some_iff.1 h3).1; simp; omega
    obtain ⟨p', h4, h5, h6, h7, h8⟩ := hvs p vs.toList[p] (List.getElem?_eq_getElem hpv)
    rw [h3] at h4
    simp only [Option.some.injEq] at h4
    subst h4
    obtain ⟨hcv, hone⟩ := h6.okv h7
    obtain ⟨v, hv1, hv2⟩ := hcv.get h2
    refine ⟨v, ?_, hone v (List.mem_of_getElem? hv1), hv2⟩
    rw [← hF]
    exact flatten_get (z := z) (by intro r hr; simp only [List.mem_map] at hr; obtain ⟨q, hq, rfl⟩ := hr; simpa using hvz q hq) (by simp only [List.getElem?_map, List.getElem?_eq_getElem hpv, Option.map_some]) hv1
  -- the new block
  obtain ⟨hI1, hE1⟩ := hi.grow (w' := c.w.alloc (.cells F.toArray e)) ((Below.refl _ _).alloc (Nat.le_refl _) _)
  obtain ⟨hI2, hE2⟩ := hI1.addS (fun b o => b = c.w.heap.size ∧ o < len * z) (fun b o h => ⟨by rw [h.1]; intro hp; have := w0.lt _ _ hi.q _ hp; omega, by rw [h.1]; simp⟩)
    (fun j k o hj hy hx => by
      have := (hi.blk j k hj hy).lt
      have h1 := hx.1
      simp only at h1; omega)
  refine ⟨.slice (some ⟨c.w.heap.size, 0, none⟩) len len, ⟨fun b o => c.S b o ∨ (b = c.w.heap.size ∧ o < len * z), c.β, c.w.alloc (.cells F.toArray e), c.m⟩, ?_, rfl, hI2, hE1.trans hE2, ?_⟩
  · have hn : ¬ (len * z > 2 ^ 24) := by omega
    have hzv : (zeroValue e).run P c.w = .ok zv c.w := by simp [zeroValue, typeInfo, hinf, hzero]
    simp only [Instr.buildSlice, Sem.run_bind, run_underlying hun, run_sizeOf' hz, Result.andThen_ok, if_neg hn]
    split
    · rename_i h0
      obtain rfl : zero = #[] := by rw [← hzero', if_pos h0]
      simp only [pure_bind, hfill]
      simp [Go.newRow]
    · rename_i h0
      obtain rfl : zero = zv.cells := by rw [← hzero', if_neg h0]
      simp only [Sem.run_bind, hzv, Result.andThen_ok, Sem.run_pure, hfill]
      simp [Go.newRow]
  · have hpl2 : len = (ps.map (·.2.cells)).length := by simp [hpl]
    have key := Rep.sl (c := ⟨fun b o => c.S b o ∨ (b = c.w.heap.size ∧ o < len * z), c.β, c.w.alloc (.cells F.toArray e), c.m⟩) z true (ps.map (·.2.cells)) (some ⟨c.w.heap.size, 0, none⟩) len c.w.heap.size 0 (fun q => F.getD q undef) (by omega) (fun _ => hpl2)
      (fun r hr => by simp only [List.mem_map] at hr; obtain ⟨q, hq, rfl⟩ := hr; simp only [List.all_eq_true, Bool.and_eq_true, beq_iff_eq] at hall; exact (hall q hq).2) (fun _ => rfl)
      (fun i j r a h1 h2 => by
        obtain ⟨v, h3, h4, h5⟩ := hrow i j r a h1 h2
        have e1 : F.getD (i * z + j) undef = v := by simp [List.getD_eq_getElem?_getD, h3]
        have hlt : i * z + j < len * z := by have := (List.getElem?_eq_some_iff.1 h3).1; omega
        (try dsimp only)
        rw [e1, Nat.zero_add]
        refine ⟨?_, .inr ⟨rfl, hlt⟩, h4⟩
        rw [cell_of_heap (cs := F.toArray) (T := e) (fr := (0, 0)) (by show (c.w.heap.push _)[c.w.heap.size]? = _; simp)]
        simpa using h3)
      (fun i j r a h1 h2 => by
        obtain ⟨v, h3, h4, h5⟩ := hrow i j r a h1 h2
        have e1 : F.getD (i * z + j) undef = v := by simp [List.getD_eq_getElem?_getD, h3]
        (try dsimp only)
        rw [e1]
        exact (h5.ext hE1).ext hE2)
    rw [← hpl2] at key
    exact key

end Go.Proofs.Ytpgkpdojpmikkaa.Eng

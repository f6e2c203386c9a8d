/-
  THE ENGINE, part 2: what holds of the abstract memory and the world together; type tables; constants.
-/
import Derived.Test.YtpgkpdojpmikkaaE1
set_option linter.unusedVariables false
set_option linter.unusedSimpArgs false
namespace Go.Proofs.Ytpgkpdojpmikkaa.Eng
open Go Go.RowKit

def updB {α : Type} (f : Bid → α) (i : Bid) (x : α) : Bid → α := fun j => if j = i then x else f j
@[simp] theorem updB_same {α : Type} (f : Bid → α) (i : Bid) (x : α) : updB f i x i = x := by simp [updB]
theorem updB_ne {α : Type} (f : Bid → α) (i j : Bid) (x : α) (h : j ≠ i) : updB f i x j = f j := by simp [updB, h]
theorem updB_comm {α : Type} (f : Bid → α) (i j : Bid) (x y : α) (h : i ≠ j) : updB (updB f i x) j y = updB (updB f j y) i x := by
  funext l; simp only [updB]; split <;> split <;> simp_all

/-- What nobody may write while a call is under way, and what is said of the world as long as that stays (at what has been yielded so far). -/
structure Gd where
  prot : Nat → Prop
  Q : Option (List (List AV)) → World → Prop
  lt : ∀ y w, Q y w → ∀ b, prot b → b < w.heap.size
  cl : ∀ y w w', Q y w → w'.os = w.os → w'.tape = w.tape → w'.output = w.output → w.heap.size ≤ w'.heap.size → (∀ b, prot b → w'.heap[b]? = w.heap[b]?) → Q y w'

/-- Nothing that was there is written. -/
def Gd.of (w0 : World) : Gd := ⟨fun b => b < w0.heap.size, fun y w => y = none ∧ Below w0.heap.size w0 w, fun _ _ h _ hb => Nat.lt_of_lt_of_le hb h.2.size,
  fun _ _ _ ⟨h0, h⟩ h1 h2 h3 h4 h5 => ⟨h0, h1.trans h.os, h2.trans h.tape, h3.trans h.output, Nat.le_trans h.size h4, fun k hk => (h5 k hk).trans (h.block k hk)⟩⟩

theorem Gd.cl' {G : Gd} {y : Option (List (List AV))} {w w' : World} (h : G.Q y w) (hb : Below w.heap.size w w') : G.Q y w' :=
  G.cl y w w' h hb.os hb.tape hb.output hb.size (fun b hp => hb.block b (G.lt y w h b hp))

/-- A map's entries: the key and the value of each. -/
def MapAt (c : Cx) (g : Nat) (rows : List (List AV)) : Prop := ∃ es clock, c.w.heap[g]? = some (.map es clock) ∧ es.size = rows.length ∧
  ∀ (p : Nat) (e : MapEntry) (r : List AV), es[p]? = some e → rows[p]? = some r → ∃ k v, r = [k, v] ∧ Rep c k e.key ∧ Rep c v e.val

structure BlkAt (w0 : Gd) (c : Cx) (g : Nat) (k : ABlk) : Prop where
  base : ¬ w0.prot g
  len' : 0 < k.z → ∀ r, r ∈ k.rows → r.length = k.z
  cells' : 0 < k.z → ∃ cs T cap, c.w.heap[g]? = some (.cells cs T (0, 0)) ∧ cs.size = cap * k.z ∧ k.rows.length ≤ cap ∧
    ∀ (p j : Nat) (r : List AV) (a : AV), k.rows[p]? = some r → r[j]? = some a → ∃ v, cs[p * k.z + j]? = some v ∧ v.oneCell' = true ∧ Rep c a v
  map : k.z = 0 → MapAt c g k.rows

structure Inv (w0 : Gd) (S0 : Nat → Nat → Prop) (c : Cx) : Prop where
  blk : ∀ i k, c.m i = some k → i ≠ yB → BlkAt w0 c (c.β i) k
  excl : ∀ i k o, c.m i = some k → i ≠ yB → (k.sole = true ∨ k.rows.length * k.z ≤ o) → ¬ c.S (c.β i) o
  inj : ∀ i j k l, c.m i = some k → c.m j = some l → i ≠ yB → j ≠ yB → c.β i = c.β j → i = j
  sdom : ∀ b o, c.S b o → b < c.w.heap.size
  s0 : ∀ b o, S0 b o → c.S b o
  sn : ∀ b o, c.S b o → S0 b o ∨ ¬ w0.prot b
  gh : ∀ k, c.m yB = some k → k.z = 0
  q : w0.Q ((c.m yB).map (·.rows)) c.w

theorem Inv.ney {w0 : Gd} {S0 : Nat → Nat → Prop} {c : Cx} (hi : Inv w0 S0 c) {i : Bid} {k : ABlk} (hm : c.m i = some k) (hz : 0 < k.z) : i ≠ yB := by
  rintro rfl
  have := hi.gh k hm
  omega

/-- A block that holds no map. -/
structure BlkC (w0 : Gd) (c : Cx) (g : Nat) (k : ABlk) : Prop where
  base : ¬ w0.prot g
  z0 : 0 < k.z
  len : ∀ r, r ∈ k.rows → r.length = k.z
  cells : ∃ cs T cap, c.w.heap[g]? = some (.cells cs T (0, 0)) ∧ cs.size = cap * k.z ∧ k.rows.length ≤ cap ∧
    ∀ (p j : Nat) (r : List AV) (a : AV), k.rows[p]? = some r → r[j]? = some a → ∃ v, cs[p * k.z + j]? = some v ∧ v.oneCell' = true ∧ Rep c a v

theorem Inv.blkC {w0 : Gd} {S0 : Nat → Nat → Prop} {c : Cx} (hi : Inv w0 S0 c) {i : Bid} {k : ABlk} (hm : c.m i = some k) (hz : 0 < k.z) : BlkC w0 c (c.β i) k :=
  let b := hi.blk i k hm (hi.ney hm hz); ⟨b.base, hz, b.len' hz, b.cells' hz⟩

theorem BlkAt.lt {w0 : Gd} {c : Cx} {g : Nat} {k : ABlk} (h : BlkAt w0 c g k) : g < c.w.heap.size := by
  by_cases hz : k.z = 0
  · obtain ⟨es, cl, hg, _⟩ := h.map hz
    exact (Array.getElem?_eq_some_iff.1 hg).1
  · obtain ⟨cs, T, cap, hg, _⟩ := h.cells' (by omega)
    exact (Array.getElem?_eq_some_iff.1 hg).1

theorem BlkC.lt {w0 : Gd} {c : Cx} {g : Nat} {k : ABlk} (h : BlkC w0 c g k) : g < c.w.heap.size := by
  obtain ⟨cs, T, cap, hg, _⟩ := h.cells
  exact (Array.getElem?_eq_some_iff.1 hg).1

theorem MapAt.ext {c c' : Cx} {g g' : Nat} {rows : List (List AV)} (h : MapAt c g rows) (hx : c.Ext c') (hb : c'.w.heap[g']? = c.w.heap[g]?) : MapAt c' g' rows := by
  obtain ⟨es, cl, hg, hs, hr⟩ := h
  refine ⟨es, cl, hb.trans hg, hs, fun p e r h1 h2 => ?_⟩
  obtain ⟨k, v, h3, h4, h5⟩ := hr p e r h1 h2
  exact ⟨k, v, h3, h4.ext hx, h5.ext hx⟩

/-- A block that lies as it lay. -/
theorem BlkAt.ext {w0 w1 : Gd} {c c' : Cx} {g g' : Nat} {k : ABlk} (h : BlkAt w0 c g k) (hx : c.Ext c') (hp : ¬ w1.prot g') (hb : c'.w.heap[g']? = c.w.heap[g]?) : BlkAt w1 c' g' k := by
  refine ⟨hp, h.len', fun hz => ?_, fun hz => (h.map hz).ext hx hb⟩
  obtain ⟨cs, T, cap, hg, hs, hl, hc⟩ := h.cells' hz
  refine ⟨cs, T, cap, hb.trans hg, hs, hl, fun p j r a hr ha => ?_⟩
  obtain ⟨v, hv, ho, hrep⟩ := hc p j r a hr ha
  exact ⟨v, hv, ho, hrep.ext hx⟩

theorem cell_of_heap {w : World} {g o : Nat} {cs : Array Value} {T : TypeId} {fr : Nat × Nat} (h : w.heap[g]? = some (.cells cs T fr)) : w.cell? ⟨g, o, none⟩ = cs[o]? := by
  simp [World.cell?, h]

theorem cell_same {w w' : World} {g : Nat} (h : w'.heap[g]? = w.heap[g]?) (o : Nat) : w'.cell? ⟨g, o, none⟩ = w.cell? ⟨g, o, none⟩ := by
  simp [World.cell?, h]

theorem KeepsBook.of_below {w w' : World} (hb : Below w.heap.size w w') : KeepsBook w w' := ⟨hb.size, fun k o hk _ => (hb.block k (Array.getElem?_eq_some_iff.1 hk).1).trans hk⟩

/-- Only memory that is new has been written: by a call, say. -/
theorem Inv.grow {w0 : Gd} {S0 : Nat → Nat → Prop} {c : Cx} (hi : Inv w0 S0 c) {w' : World} (hb : Below c.w.heap.size c.w w') : Inv w0 S0 ⟨c.S, c.β, w', c.m⟩ ∧ c.Ext ⟨c.S, c.β, w', c.m⟩ := by
  have hx : c.Ext ⟨c.S, c.β, w', c.m⟩ := by
    refine ⟨fun b o h => ⟨h, cell_same (hb.block b (hi.sdom b o h)) o⟩, fun i k h => ⟨k, h, rfl, fun _ => rfl, fun _ => ⟨Nat.le_refl _, fun _ => ⟨rfl, fun cap hr => ?_⟩⟩⟩, .of_below hb⟩
    obtain ⟨cs, T, hg, hs⟩ := hr
    exact ⟨cs, T, (hb.block _ (Array.getElem?_eq_some_iff.1 hg).1).trans hg, hs⟩
  exact ⟨⟨fun i k h hy => (hi.blk i k h hy).ext hx (hi.blk i k h hy).base (hb.block _ (hi.blk i k h hy).lt), hi.excl, hi.inj, fun b o h => Nat.lt_of_lt_of_le (hi.sdom b o h) hb.size, hi.s0, hi.sn, hi.gh, Gd.cl' hi.q hb⟩, hx⟩

/-- One block is made, written, or moved. -/
theorem Inv.putG {w0 : Gd} {S0 : Nat → Nat → Prop} {c : Cx} (hi : Inv w0 S0 c) (i : Bid) (k' : ABlk) (g : Nat) (w' : World) (hiy : i ≠ yB)
    (hos : w'.os = c.w.os) (htape : w'.tape = c.w.tape) (hout : w'.output = c.w.output) (hsize : c.w.heap.size ≤ w'.heap.size)
    (hother : ∀ h, h < c.w.heap.size → h ≠ g → w'.heap[h]? = c.w.heap[h]?) (hgB : ¬ w0.prot g)
    (hne : ∀ j k, c.m j = some k → j ≠ yB → j ≠ i → c.β j ≠ g) (hko : KeepsBook c.w w')
    (hold : ∀ k, c.m i = some k → k'.z = k.z ∧ (k.z = 0 → g = c.β i) ∧ (0 < k.z → k.rows.length ≤ k'.rows.length ∧ (k'.rows.length = k.rows.length → g = c.β i ∧ ∀ cap, c.room g k.z cap → (⟨c.S, updB c.β i g, w', updB c.m i (some k')⟩ : Cx).room g k.z cap)))
    (hS : ∀ o, c.S g o → w'.cell? ⟨g, o, none⟩ = c.w.cell? ⟨g, o, none⟩)
    (hexcl : ∀ o, (k'.sole = true ∨ k'.rows.length * k'.z ≤ o) → ¬ c.S g o)
    (hblk : c.Ext ⟨c.S, updB c.β i g, w', updB c.m i (some k')⟩ → BlkAt w0 ⟨c.S, updB c.β i g, w', updB c.m i (some k')⟩ g k') :
    Inv w0 S0 ⟨c.S, updB c.β i g, w', updB c.m i (some k')⟩ ∧ c.Ext ⟨c.S, updB c.β i g, w', updB c.m i (some k')⟩ := by
  have hgh : updB c.m i (some k') yB = c.m yB := updB_ne _ _ _ _ (Ne.symm hiy)
  have hx : c.Ext ⟨c.S, updB c.β i g, w', updB c.m i (some k')⟩ := by
    refine ⟨fun b o h => ⟨h, ?_⟩, fun j k h => ?_, hko⟩
    · by_cases e : b = g
      · subst e; exact hS o h
      · exact cell_same (hother b (hi.sdom b o h) e) o
    · by_cases e : j = i
      · subst e
        obtain ⟨h1, h2, h3⟩ := hold k h
        refine ⟨k', by simp, h1, fun hz => by simpa using h2 hz, fun hz => ?_⟩
        obtain ⟨h4, h5⟩ := h3 hz
        refine ⟨h4, fun hl => ?_⟩
        obtain ⟨h6, h7⟩ := h5 hl
        refine ⟨by simpa using h6, fun cap hr => ?_⟩
        rw [← h6] at hr ⊢
        exact h7 cap hr
      · refine ⟨k, by simp [updB, e, h], rfl, fun _ => by simp [updB, e], fun hz => ⟨Nat.le_refl _, fun _ => ⟨by simp [updB, e], fun cap hr => ?_⟩⟩⟩
        obtain ⟨cs, T, h1, h2⟩ := hr
        have hlt := (Array.getElem?_eq_some_iff.1 h1).1
        refine ⟨cs, T, (hother _ hlt ?_).trans h1, h2⟩
        exact hne j k h (hi.ney h hz) e
  refine ⟨⟨fun j k h hy => ?_, fun j k o h hy => ?_, fun j l k k2 hj hl hjy hly hb => ?_, fun b o h => Nat.lt_of_lt_of_le (hi.sdom b o h) hsize, hi.s0, hi.sn, fun k hk => hi.gh k (by rw [← hgh]; exact hk), ?_⟩, hx⟩
  · by_cases e : j = i
    · subst e
      simp only [updB_same, Option.some.injEq] at h
      subst h
      simp only [updB_same]
      exact hblk hx
    · have h' : c.m j = some k := by simpa [updB, e] using h
      have h1 := hi.blk j k h' hy
      have eb : updB c.β i g j = c.β j := by simp [updB, e]
      show BlkAt _ _ (updB c.β i g j) k
      rw [eb]
      exact h1.ext hx h1.base (hother _ h1.lt (hne j k h' hy e))
  · by_cases e : j = i
    · subst e
      simp only [updB_same, Option.some.injEq] at h
      subst h
      simp only [updB_same]
      exact hexcl o
    · have h' : c.m j = some k := by simpa [updB, e] using h
      have eb : updB c.β i g j = c.β j := by simp [updB, e]
      show _ → ¬ c.S (updB c.β i g j) o
      rw [eb]
      exact hi.excl j k o h' hy
  · by_cases ej : j = i
    · by_cases el : l = i
      · exact ej.trans el.symm
      · subst ej
        have hl' : c.m l = some k2 := by simpa [updB, el] using hl
        exact absurd (by simpa [updB, el] using hb.symm) (hne l k2 hl' hly el)
    · by_cases el : l = i
      · subst el
        have hj' : c.m j = some k := by simpa [updB, ej] using hj
        exact absurd (by simpa [updB, ej] using hb) (hne j k hj' hjy ej)
      · exact hi.inj j l k k2 (by simpa [updB, ej] using hj) (by simpa [updB, el] using hl) hjy hly (by simpa [updB, ej, el] using hb)
  · show w0.Q ((updB c.m i (some k') yB).map (·.rows)) w'
    rw [hgh]
    refine w0.cl _ c.w w' hi.q hos htape hout hsize (fun b hp => hother b (w0.lt _ _ hi.q b hp) ?_)
    rintro rfl
    exact hgB hp

theorem Inv.put' {w0 : Gd} {S0 : Nat → Nat → Prop} {c : Cx} (hi : Inv w0 S0 c) (i : Bid) (k' : ABlk) (g : Nat) (w' : World) (cs' : Array Value) (T' : TypeId) (cap' : Nat) (hiy : i ≠ yB)
    (hos : w'.os = c.w.os) (htape : w'.tape = c.w.tape) (hout : w'.output = c.w.output) (hsize : c.w.heap.size ≤ w'.heap.size)
    (hother : ∀ h, h < c.w.heap.size → h ≠ g → w'.heap[h]? = c.w.heap[h]?)
    (hg : w'.heap[g]? = some (.cells cs' T' (0, 0))) (hgB : ¬ w0.prot g) (hz : 0 < k'.z) (hlen : ∀ r, r ∈ k'.rows → r.length = k'.z)
    (hcap : cs'.size = cap' * k'.z) (hle : k'.rows.length ≤ cap')
    (hne : ∀ j k, c.m j = some k → j ≠ yB → j ≠ i → c.β j ≠ g) (hko : KeepsBook c.w w')
    (hold : ∀ k, c.m i = some k → k'.z = k.z ∧ k.rows.length ≤ k'.rows.length ∧ (k'.rows.length = k.rows.length → g = c.β i ∧ ∀ cap, c.room g k.z cap → cap = cap'))
    (hS : ∀ o, c.S g o → w'.cell? ⟨g, o, none⟩ = c.w.cell? ⟨g, o, none⟩)
    (hexcl : ∀ o, (k'.sole = true ∨ k'.rows.length * k'.z ≤ o) → ¬ c.S g o)
    (hcont : ∀ (p j : Nat) (r : List AV) (a : AV), k'.rows[p]? = some r → r[j]? = some a → ∃ v, cs'[p * k'.z + j]? = some v ∧ v.oneCell' = true ∧ Rep c a v) :
    Inv w0 S0 ⟨c.S, updB c.β i g, w', updB c.m i (some k')⟩ ∧ c.Ext ⟨c.S, updB c.β i g, w', updB c.m i (some k')⟩ := by
  refine hi.putG i k' g w' hiy hos htape hout hsize hother hgB hne hko (fun k hk => ?_) hS hexcl (fun hx => ⟨hgB, fun _ => hlen, fun _ => ⟨cs', T', cap', hg, hcap, hle, fun p j r a hr ha => ?_⟩, fun h0 => by omega⟩)
  · obtain ⟨h1, h2, h3⟩ := hold k hk
    refine ⟨h1, fun h0 => by omega, fun _ => ⟨h2, fun hl => ?_⟩⟩
    obtain ⟨h4, h5⟩ := h3 hl
    exact ⟨h4, fun cap hr => ⟨cs', T', hg, by rw [h5 cap hr, hcap, h1]⟩⟩
  · obtain ⟨v, h1, h2, h3⟩ := hcont p j r a hr ha
    exact ⟨v, h1, h2, h3.ext hx⟩

theorem Inv.put {w0 : Gd} {S0 : Nat → Nat → Prop} {c : Cx} (hi : Inv w0 S0 c) (i : Bid) (k' : ABlk) (g : Nat) (w' : World) (cs' : Array Value) (T' : TypeId) (cap' : Nat) (hiy : i ≠ yB)
    (hos : w'.os = c.w.os) (htape : w'.tape = c.w.tape) (hout : w'.output = c.w.output) (hsize : c.w.heap.size ≤ w'.heap.size)
    (hother : ∀ h, h < c.w.heap.size → h ≠ g → w'.heap[h]? = c.w.heap[h]?)
    (hg : w'.heap[g]? = some (.cells cs' T' (0, 0))) (hgB : ¬ w0.prot g) (hz : 0 < k'.z) (hlen : ∀ r, r ∈ k'.rows → r.length = k'.z)
    (hcap : cs'.size = cap' * k'.z) (hle : k'.rows.length ≤ cap')
    (hnew : c.w.heap.size ≤ g ∨ ∃ k, c.m i = some k ∧ g = c.β i)
    (hold : ∀ k, c.m i = some k → k'.z = k.z ∧ k.rows.length ≤ k'.rows.length ∧ (k'.rows.length = k.rows.length → g = c.β i ∧ ∀ cap, c.room g k.z cap → cap = cap'))
    (hS : ∀ o, c.S g o → w'.cell? ⟨g, o, none⟩ = c.w.cell? ⟨g, o, none⟩)
    (hexcl : ∀ o, (k'.sole = true ∨ k'.rows.length * k'.z ≤ o) → ¬ c.S g o)
    (hcont : ∀ (p j : Nat) (r : List AV) (a : AV), k'.rows[p]? = some r → r[j]? = some a → ∃ v, cs'[p * k'.z + j]? = some v ∧ v.oneCell' = true ∧ Rep c a v) :
    Inv w0 S0 ⟨c.S, updB c.β i g, w', updB c.m i (some k')⟩ ∧ c.Ext ⟨c.S, updB c.β i g, w', updB c.m i (some k')⟩ :=
  hi.put' i k' g w' cs' T' cap' hiy hos htape hout hsize hother hg hgB hz hlen hcap hle (fun j k h hy e hbg => by
    have hlt := (hi.blk j k h hy).lt
    rcases hnew with hnew | ⟨k0, hk0, hg0⟩
    · omega
    · exact e (hi.inj j i k k0 h hk0 hy hiy (hbg.trans hg0))) ⟨hsize, fun k o hk hc => by
      by_cases e : k = g
      · subst e
        rcases hnew with hnew | ⟨k0, hk0, hg0⟩
        · have := (Array.getElem?_eq_some_iff.1 hk).1; omega
        · have hz0 : 0 < k0.z := by have := (hold k0 hk0).1; omega
          obtain ⟨cs, T, cap, hg1, _⟩ := (hi.blkC hk0 hz0).cells
          rw [← hg0, hk] at hg1; cases hg1; simp [isBook] at hc
      · exact (hother k (Array.getElem?_eq_some_iff.1 hk).1 e).trans hk⟩ hold hS hexcl hcont

/-- More cells that don't change any more. -/
theorem Inv.addS {w0 : Gd} {S0 : Nat → Nat → Prop} {c : Cx} (hi : Inv w0 S0 c) (X : Nat → Nat → Prop) (hB : ∀ b o, X b o → ¬ w0.prot b ∧ b < c.w.heap.size)
    (hex : ∀ i k o, c.m i = some k → i ≠ yB → X (c.β i) o → k.sole = false ∧ o < k.rows.length * k.z) :
    Inv w0 S0 ⟨fun b o => c.S b o ∨ X b o, c.β, c.w, c.m⟩ ∧ c.Ext ⟨fun b o => c.S b o ∨ X b o, c.β, c.w, c.m⟩ := by
  have hx : c.Ext ⟨fun b o => c.S b o ∨ X b o, c.β, c.w, c.m⟩ := ⟨fun b o h => ⟨.inl h, rfl⟩, fun i k h => ⟨k, h, rfl, fun _ => rfl, fun _ => ⟨Nat.le_refl _, fun _ => ⟨rfl, fun _ h => h⟩⟩⟩, .refl _⟩
  refine ⟨⟨fun i k h hy => (hi.blk i k h hy).ext hx (hi.blk i k h hy).base rfl, fun i k o h hy hs hS => ?_, hi.inj, fun b o h => ?_, fun b o h => .inl (hi.s0 b o h), fun b o h => ?_, hi.gh, hi.q⟩, hx⟩
  · rcases hS with hS | hS
    · exact hi.excl i k o h hy hs hS
    · obtain ⟨h1, h2⟩ := hex i k o h hy hS
      rcases hs with hs | hs
      · simp [h1] at hs
      · omega
  · rcases h with h | h
    · exact hi.sdom b o h
    · exact (hB b o h).2
  · rcases h with h | h
    · exact hi.sn b o h
    · exact .inr (hB b o h).1

/-! ### type tables -/
section
variable (P : Program)
def tz (t : TypeId) : Option Nat := (P.info? t).map (·.size)
def tby (t : TypeId) : Option Nat := (P.info? t).map (·.bytes)
def tagg (t : TypeId) : Option Bool := match P.underlying t with
  | some (.struct _) | some (.array _ _) => some true
  | some _ => some false
  | none => none
def telem (t : TypeId) : Option TypeId := match P.underlying t with
  | some (.slice e) => some e
  | _ => none
/-- A field: where, its type, how many cells. -/
def tfld (t : TypeId) (f : Nat) : Option (Nat × TypeId × Nat) := match P.underlying t with
  | some (.struct fs) => match fs[f]? with
    | some x => (tz P x.type).map fun z => (x.offset, x.type, z)
    | none => none
  | _ => none
def tint (t : TypeId) : Option IntKind := match P.underlying t with
  | some (.int k) => some k
  | _ => none
def tbool (t : TypeId) : Bool := match P.underlying t with
  | some .bool => true
  | _ => false
/-- A slice's element: its type, cells, bytes. -/
def tsl (t : TypeId) : Option (TypeId × Nat × Nat) := match telem P t with
  | some e => match tz P e, tby P e with
    | some z, some b => if 0 < z ∧ 0 < b then some (e, z, b) else none
    | _, _ => none
  | none => none
def zc : Nat → TypeId → List AV
  | 0, _ => []
  | d + 1, t => match P.underlying t with
    | some .bool => [.bool false]
    | some (.int k) => [.int k 0]
    | some (.slice e) => [.sl ((tz P e).getD 0) true []]
    | some (.pointer _) => [.nilp]
    | some (.struct fs) => fs.toList.flatMap fun f => zc d f.type
    | some (.array n e) => (List.replicate n (zc d e)).flatten
    | _ => [.undef]
end

def chk : AV → Value → Bool
  | .undef, v => v.oneCell'
  | .bool a, .bool b => a == b
  | .int k n, .int j l => k == j && n == l
  | .sl _ true [], .slice none 0 0 => true
  | .nilp, .pointer none => true
  | _, _ => false
def chkL : List AV → List Value → Bool
  | [], [] => true
  | a :: as, v :: vs => chk a v && chkL as vs
  | _, _ => false

theorem chk_ok {c : Cx} {a : AV} {v : Value} (h : chk a v = true) : Rep c a v ∧ v.oneCell' = true := by
  unfold chk at h
  split at h
  · exact ⟨.undef _, h⟩
  · simp at h; subst h; exact ⟨.bool _, rfl⟩
  · simp at h; obtain ⟨rfl, rfl⟩ := h; exact ⟨.int _ _, rfl⟩
  · exact ⟨.sl _ true [] none 0 0 0 (fun _ => undef) (Nat.le_refl _) (fun _ => rfl) (fun _ h => by simp at h) (fun h => absurd rfl h) (fun _ _ _ _ h => by simp at h) (fun _ _ _ _ h => by simp at h), rfl⟩
  · exact ⟨.nilp, rfl⟩
  · simp at h

theorem chkL_ok {c : Cx} : ∀ {as : List AV} {vs : List Value}, chkL as vs = true → RepL c as vs ∧ ∀ u, u ∈ vs → u.oneCell' = true
  | [], [], _ => ⟨RepL.nil c, fun _ h => by simp at h⟩
  | a :: as, v :: vs, h => by
    simp only [chkL, Bool.and_eq_true] at h
    obtain ⟨h1, h2⟩ := chk_ok (c := c) h.1
    obtain ⟨h3, h4⟩ := chkL_ok (c := c) h.2
    exact ⟨RepL.cons h1 h3, fun u hu => (List.mem_cons.1 hu).elim (fun e => e ▸ h2) (h4 u)⟩
  | [], _ :: _, h => by simp [chkL] at h
  | _ :: _, [], h => by simp [chkL] at h

/-- A type's zero cells. -/
def tzero (P : Program) (t : TypeId) : Option (List AV) := match P.info? t with
  | some i => match i.zero with
    | some v => if chkL (zc P 20 t) v.cells.toList && (zc P 20 t).length == i.size then some (zc P 20 t) else none
    | none => none
  | none => none

theorem tzero_ok {P : Program} {t : TypeId} {zs : List AV} (h : tzero P t = some zs) : ∃ i v, P.info? t = some i ∧ i.zero = some v ∧ zs.length = i.size ∧ v.cells.size = i.size ∧ ∀ c : Cx, RepL c zs v.cells.toList ∧ ∀ u, u ∈ v.cells.toList → u.oneCell' = true := by
  unfold tzero at h
  split at h
  · rename_i i hi
    split at h
    · rename_i v hv
      split at h
      · rename_i hc
        simp only [Option.some.injEq] at h
        subst h
        simp only [Bool.and_eq_true, beq_iff_eq] at hc
        have hl := (chkL_ok (c := ⟨fun _ _ => False, fun _ => 0, default, fun _ => none⟩) hc.1).1.1
        exact ⟨i, v, hi, hv, hc.2, by rw [← hc.2, ← hl]; simp, fun c => chkL_ok hc.1⟩
      · simp at h
    · simp at h
  · simp at h

def absC0 : Value → AV
  | .bool b => .bool b
  | .int k n => .int k n
  | .pointer none => .nilp
  | _ => .undef

/-- A constant, of a type. -/
def absC (P : Program) (t : TypeId) : Value → AV
  | .slice none 0 0 => match tsl P t with
    | some (_, z, _) => .sl z true []
    | none => .undef
  | .agg cs => match tzero P t with
    | some zs => if chkL zs cs.toList then .agg zs else .agg (cs.toList.map absC0)
    | none => .agg (cs.toList.map absC0)
  | v => absC0 v

theorem absC0_ok (c : Cx) (v : Value) : Rep c (absC0 v) v := by
  unfold absC0; split <;> constructor

theorem absC_ok (c : Cx) (P : Program) (t : TypeId) (v : Value) : Rep c (absC P t v) v := by
  have hm : ∀ cs : Array Value, Rep c (.agg (cs.toList.map absC0)) (.agg cs) := fun cs => .agg _ _ (by simp) (fun i a v h1 h2 => by
    simp only [List.getElem?_map, Option.map_eq_some_iff] at h1
    obtain ⟨x, hx, rfl⟩ := h1
    have : x = v := by simpa [← Array.getElem?_toList, hx] using h2
    subst this
    exact absC0_ok c x)
  unfold absC
  split
  · split
    · exact .sl _ true [] none 0 0 0 (fun _ => undef) (Nat.le_refl _) (fun _ => rfl) (fun _ h => by simp at h) (fun h => absurd rfl h) (fun _ _ _ _ h => by simp at h) (fun _ _ _ _ h => by simp at h)
    · exact .undef _
  · rename_i cs
    split
    · split
      · rename_i hc
        have := (chkL_ok (c := c) hc).1
        exact .agg _ _ (by simpa using this.1) (fun i a v h1 h2 => this.2 i a v h1 (by simpa using h2))
      · exact hm cs
    · exact hm cs
  · exact absC0_ok c v

end Go.Proofs.Ytpgkpdojpmikkaa.Eng

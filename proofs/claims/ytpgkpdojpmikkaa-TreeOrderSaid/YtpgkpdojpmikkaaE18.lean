/-
  THE ENGINE, part 18: from a given row to a contract and back: what a plain argument reads as; a law that answers true.
-/
import Derived.Test.YtpgkpdojpmikkaaE17
import Derived.ProofKit
set_option linter.unusedVariables false
set_option linter.unusedSimpArgs false
set_option maxRecDepth 100000
namespace Go.Proofs.Ytpgkpdojpmikkaa.Eng
open Go Go.Proofs Go.ChangeShapes Go.WideShapes Go.ChangeAt Go.RowKit

section
variable {P : Program}

/-- The fields lie one behind the other. -/
def tileB (P : Program) : List Field → Nat → Bool
  | [], _ => true
  | f :: fs, o => f.offset == o && tileB P fs (o + P.cellsOf f.type)
def tileE (P : Program) : List Field → Nat → Nat
  | [], o => o
  | f :: fs, o => tileE P fs (o + P.cellsOf f.type)

/-- Numbers, bools, structs and slices of them. -/
def plainT (P : Program) : Nat → TypeId → Bool
  | 0, _ => false
  | n + 1, t => match P.underlying t with
    | some .bool => true
    | some (.int _) => true
    | some (.slice e) => decide (0 < P.cellsOf e) && plainT P n e
    | some (.struct fs) => tileB P fs.toList 0 && tileE P fs.toList 0 == P.cellsOf t && fs.toList.all fun f => plainT P n f.type
    | _ => false

/-- Cells of a value of the type. -/
def Shp (P : Program) : Nat → TypeId → List AV → Prop
  | 0, _, _ => False
  | n + 1, t, as => match P.underlying t with
    | some .bool => ∃ b, as = [.bool b]
    | some (.int k) => ∃ x, as = [.int k x] ∧ (Lit.int k x).wf = true
    | some (.slice e) => ∃ rows, as = [.sl (P.cellsOf e) false rows] ∧ ∀ r ∈ rows, Shp P n e r
    | some (.struct fs) => as.length = P.cellsOf t ∧ ∀ f ∈ fs.toList, Shp P n f.type ((as.drop f.offset).take (P.cellsOf f.type))
    | _ => False

theorem cells?_some {w : World} {base : Nat} {a : Addr} {n : Nat} {cs : List Value} (h : w.cells? base a n = some cs) : cs.length = n ∧ ∀ i, i < n → w.cell? (a.add i) = cs[i]? := by
  unfold World.cells? at h
  split at h
  · refine ⟨by simpa using mapM_some_length h, fun i hi => mapM_some_get h i i (by simp [hi])⟩
  · cases h

theorem cell?_lt {w : World} {a : Addr} {v : Value} (h : w.cell? a = some v) : a.block < w.heap.size ∧ a.spot = none := by
  unfold World.cell? at h
  split at h
  · rename_i c _ _ hh
    refine ⟨(Array.getElem?_eq_some_iff.1 hh).1, ?_⟩
    split at h
    · cases h
    · rename_i hs
      cases hsp : a.spot <;> simp_all
  · cases h

theorem addr_add {a : Addr} (h : a.spot = none) (n : Nat) : a.add n = ⟨a.block, a.off + n, none⟩ := by
  obtain ⟨b, o, s⟩ := a
  simp only at h
  subst h
  unfold Addr.add
  split <;> simp_all

theorem fields_rep {H : Type} {w : World} {c : Cx} {cs : List Value} (R : TypeId → List AV → Prop) (fs : List Field) : ∀ (o : Nat), tileB P fs o = true → tileE P fs o = cs.length →
    (∀ f ∈ fs, ∃ as, R f.type as ∧ RepL c as ((cs.drop f.offset).take (P.cellsOf f.type)) ∧ ∀ u ∈ (cs.drop f.offset).take (P.cellsOf f.type), u.oneCell' = true) →
    ∃ as, RepL c as (cs.drop o) ∧ (∀ u ∈ cs.drop o, u.oneCell' = true) ∧ ∀ f ∈ fs, o ≤ f.offset ∧ R f.type ((as.drop (f.offset - o)).take (P.cellsOf f.type)) := by
  induction fs with
  | nil =>
    intro o h1 h2 _
    simp only [tileE] at h2
    subst h2
    exact ⟨[], by simpa using RepL.nil c, by simp, by simp⟩
  | cons f fs ih =>
    intro o h1 h2 h
    simp only [tileB, Bool.and_eq_true, beq_iff_eq] at h1
    obtain ⟨rfl, h1⟩ := h1
    obtain ⟨a1, r1, hr1, ho1⟩ := h f (by simp)
    obtain ⟨a2, hr2, ho2, hf2⟩ := ih _ h1 h2 (fun g hg => h g (by simp [hg]))
    have hle : ∀ (l : List Field) (o : Nat), o ≤ tileE P l o := by
      intro l
      induction l with
      | nil => intro o; exact Nat.le_refl _
      | cons x l ihl => intro o; exact Nat.le_trans (Nat.le_add_right _ _) (ihl _)
    have hz : f.offset + P.cellsOf f.type ≤ cs.length := h2 ▸ hle fs _
    have hl1 : a1.length = P.cellsOf f.type := by have := hr1.1; simp at this; omega
    have hsp : cs.drop f.offset = (cs.drop f.offset).take (P.cellsOf f.type) ++ cs.drop (f.offset + P.cellsOf f.type) := by
      rw [← List.drop_drop]; exact (List.take_append_drop _ _).symm
    refine ⟨a1 ++ a2, ?_, ?_, ?_⟩
    · rw [hsp]; exact hr1.append hr2
    · intro u hu
      rw [hsp, List.mem_append] at hu
      exact hu.elim (ho1 u) (ho2 u)
    · intro g hg
      rcases List.mem_cons.1 hg with rfl | hg
      · refine ⟨Nat.le_refl _, ?_⟩
        rw [Nat.sub_self, List.drop_zero, ← hl1, List.take_left]
        exact r1
      · obtain ⟨h3, h4⟩ := hf2 g hg
        refine ⟨by omega, ?_⟩
        have e : g.offset - f.offset = a1.length + (g.offset - (f.offset + P.cellsOf f.type)) := by omega
        rw [e, ← List.drop_drop, List.drop_left]
        exact h4

/-- A plain argument, as the engine has it. -/
theorem trod_rep {H : Type} {enc : TypeId × Value → H} {w : World} {spare : Nat → Bool} {held : Bool} {c : Cx} (hw : c.w = w) (hS : ∀ b o, b < w.heap.size → c.S b o) :
    ∀ (n : Nat) (t : TypeId) (cs : List Value) (fuel : Nat) (x : DataW H × List MemPlace), plainT P n t = true → DataW.trod enc P w 0 spare held fuel t cs = some x →
      ∃ as, Shp P n t as ∧ RepL c as cs ∧ ∀ u ∈ cs, u.oneCell' = true
  | 0, t, cs, fuel, x, h, _ => by simp [plainT] at h
  | n + 1, t, cs, fuel, x, h, hd => by
    unfold plainT at h
    split at h
    · rename_i ht
      obtain ⟨b, rfl, _⟩ : ∃ b, cs = [.bool b] ∧ True := by
        cases fuel with
        | zero => simp [DataW.trod] at hd
        | succ m =>
          unfold DataW.trod at hd
          rw [ht] at hd
          split at hd <;> simp_all
      refine ⟨[.bool b], ?_, RepL.cons (.bool b) (RepL.nil _), by simp [Value.oneCell']⟩
      simp [Shp, ht]
    · rename_i k ht
      obtain ⟨m, rfl, _, hm⟩ := DataW.trod_int ht hd
      refine ⟨[.int k m], ?_, RepL.cons (.int k m) (RepL.nil _), by simp [Value.oneCell']⟩
      simp [Shp, ht, hm]
    · rename_i e ht
      simp only [Bool.and_eq_true, decide_eq_true_eq] at h
      rcases DataW.trod_slice ht hd with ⟨rfl, _⟩ | ⟨a, len, cap, elems, rest, m, rfl, rfl, _, _, hlc, hcm, hel, hget, _, _⟩
      · refine ⟨[.sl (P.cellsOf e) false []], ?_, RepL.cons ?_ (RepL.nil _), by simp [Value.oneCell']⟩
        · simp only [Shp, ht]
          exact ⟨[], rfl, by simp⟩
        · exact Rep.sl (P.cellsOf e) false [] none 0 0 0 (fun _ => .bool false) (by simp) (by simp) (by simp) (by simp) (by simp) (by simp)
      · have hrow : ∀ i : Fin len, ∃ r : List AV, Shp P n e r ∧ ∃ cs', w.cells? 0 (a.add (i.1 * P.cellsOf e)) (P.cellsOf e) = some cs' ∧ RepL c r cs' ∧ ∀ u ∈ cs', u.oneCell' = true := by
          intro i
          have h1 := hget i.1 i.2
          rw [List.getElem?_eq_getElem (by omega), Option.bind_eq_some_iff] at h1
          obtain ⟨cs', h1, h2⟩ := h1
          obtain ⟨r, h3, h4, h5⟩ := trod_rep hw hS n e cs' m _ h.2 h2
          exact ⟨r, h3, cs', h1, h4, h5⟩
        let rw_ : Fin len → List AV := fun i => Classical.choose (hrow i)
        have hrw : ∀ i : Fin len, Shp P n e (rw_ i) ∧ ∃ cs', w.cells? 0 (a.add (i.1 * P.cellsOf e)) (P.cellsOf e) = some cs' ∧ RepL c (rw_ i) cs' ∧ ∀ u ∈ cs', u.oneCell' = true := fun i => Classical.choose_spec (hrow i)
        generalize rw_ = rr at hrw
        have hget' : ∀ (i : Nat) (r : List AV), (List.ofFn rr)[i]? = some r → ∃ hi : i < len, r = rr ⟨i, hi⟩ := by
          intro i r hr
          obtain ⟨hi, rfl⟩ := List.getElem?_eq_some_iff.1 hr
          exact ⟨by simpa using hi, by simp⟩
        have hcell : ∀ (i j : Nat) (r : List AV) (b : AV), (List.ofFn rr)[i]? = some r → r[j]? = some b → a.spot = none ∧ ∃ v, w.cell? ⟨a.block, a.off + (i * P.cellsOf e + j), none⟩ = some v ∧ v.oneCell' = true ∧ Rep c b v ∧ a.block < w.heap.size := by
          intro i j r b hr hb
          obtain ⟨hi, rfl⟩ := hget' i r hr
          obtain ⟨_, cs', h1, h2, h3⟩ := hrw ⟨i, hi⟩
          obtain ⟨hl, hc⟩ := cells?_some h1
          obtain ⟨hj, rfl⟩ := List.getElem?_eq_some_iff.1 hb
          have hjz : j < cs'.length := by rw [h2.1]; exact hj
          have hspot : a.spot = none := by
            have h0 := hc 0 (by omega)
            rw [List.getElem?_eq_getElem (by omega)] at h0
            have hg0 := hget 0 (by omega)
            rw [List.getElem?_eq_getElem (by omega), Option.bind_eq_some_iff] at hg0
            obtain ⟨c0, hg0, _⟩ := hg0
            obtain ⟨hl0, hc0⟩ := cells?_some hg0
            have := hc0 0 (by omega)
            rw [List.getElem?_eq_getElem (by omega)] at this
            have := (cell?_lt this).2
            simpa [Addr.add] using this
          have hcj := hc j (by omega)
          rw [addr_add hspot, addr_add rfl, List.getElem?_eq_getElem hjz] at hcj
          refine ⟨hspot, cs'[j], ?_, h3 _ (List.getElem_mem hjz), h2.2 j _ _ (List.getElem?_eq_getElem hj) (List.getElem?_eq_getElem hjz), ?_⟩
          · rw [← hcj]
            simp [Nat.add_assoc]
          · exact (cell?_lt hcj).1
        have hlen : ∀ r ∈ List.ofFn rr, r.length = P.cellsOf e := by
          intro r hr
          obtain ⟨i, hi⟩ := List.getElem?_of_mem hr
          obtain ⟨hi', rfl⟩ := hget' i r hi
          obtain ⟨_, cs', h1, h2, h3⟩ := hrw ⟨i, hi'⟩
          have := (cells?_some h1).1
          have := h2.1
          omega
        refine ⟨[.sl (P.cellsOf e) false (List.ofFn rr)], ?_, RepL.cons ?_ (RepL.nil _), by simp [Value.oneCell']⟩
        · simp only [Shp, ht]
          refine ⟨_, rfl, fun r hr => ?_⟩
          obtain ⟨i, hi⟩ := List.getElem?_of_mem hr
          obtain ⟨hi', rfl⟩ := hget' i r hi
          exact (hrw _).1
        · have key := Rep.sl (c := c) (P.cellsOf e) false (List.ofFn rr) (some a) cap a.block a.off (fun k => (w.cell? ⟨a.block, a.off + k, none⟩).getD (.bool false)) (by simpa using hlc) (by simp) hlen ?_ ?_ ?_
          · simpa using key
          · intro hne
            obtain ⟨r, hr⟩ := List.exists_mem_of_ne_nil _ hne
            obtain ⟨i, hi⟩ := List.getElem?_of_mem hr
            have hl := hlen r hr
            have := (hcell i 0 r _ hi (List.getElem?_eq_getElem (by omega))).1
            obtain ⟨b, o, s⟩ := a
            simp only at this
            subst this
            rfl
          · intro i j r b hr hb
            obtain ⟨h1, v, h2, h3, h4, h5⟩ := hcell i j r b hr hb
            rw [hw, Nat.add_assoc, h2]
            exact ⟨by simp, hS _ _ h5, by simpa using h3⟩
          · intro i j r b hr hb
            obtain ⟨h1, v, h2, h3, h4, h5⟩ := hcell i j r b hr hb
            simpa [h2] using h4
    · rename_i fs ht
      simp only [Bool.and_eq_true, beq_iff_eq, List.all_eq_true] at h
      obtain ⟨xs, m, rfl, rfl, hl, hxl, hf⟩ := DataW.trod_struct ht hd
      obtain ⟨as, h1, h2, h3⟩ := fields_rep (P := P) (H := H) (w := w) (c := c) (cs := cs) (fun t' as => Shp P n t' as) fs.toList 0 h.1.1 (h.1.2.trans hl.symm) (fun f hfm => by
        obtain ⟨i, hi⟩ := List.getElem?_of_mem hfm
        have hi' : fs[i]? = some f := by simpa using hi
        have := hf i f hi'
        have hil : i < xs.length := by rw [hxl]; exact (Array.getElem?_eq_some_iff.1 hi').1
        rw [List.getElem?_eq_getElem hil] at this
        exact trod_rep hw hS n f.type _ m _ (h.2 f hfm) this)
      refine ⟨as, ?_, by simpa using h1, by simpa using h2⟩
      simp only [Shp, ht]
      refine ⟨?_, fun f hfm => ?_⟩
      · have := h1.1; simp at this; omega
      · simpa using (h3 f hfm).2
    · cases h

/-- A value of the type. -/
def ShA (P : Program) (n : Nat) (t : TypeId) (a : AV) : Prop := match P.underlying t with
  | some (.struct _) => ∃ as, a = .agg as ∧ Shp P n t as
  | _ => Shp P n t [a]
def ShAll (P : Program) (n : Nat) : List TypeId → List AV → Prop
  | [], [] => True
  | t :: ts, a :: as => ShA P n t a ∧ ShAll P n ts as
  | _, _ => False

theorem trod_repA {H : Type} {enc : TypeId × Value → H} {w : World} {spare : Nat → Bool} {held : Bool} {c : Cx} (hw : c.w = w) (hS : ∀ b o, b < w.heap.size → c.S b o) {n : Nat} {t : TypeId} {v : Value} {d : DataW H} {ps : List MemPlace} {r : Reach} {base : Nat} {w' : World}
    (hp : plainT P n t = true) (hv : Value.okWide P w' r base t v) (hd : DataW.Trod enc P w 0 spare held t v d ps) : ∃ a, ShA P n t a ∧ Rep c a v := by
  obtain ⟨fuel, hd⟩ := hd
  obtain ⟨as, h1, h2, h3⟩ := trod_rep hw hS n t _ fuel _ hp hd
  cases n with
  | zero => simp [plainT] at hp
  | succ n =>
  unfold ShA
  unfold plainT at hp
  unfold Value.okWide Cell.okWide Cell.ok at hv
  unfold Shp at h1
  split at hp
  · rename_i ht
    simp only [ht] at h1 hv ⊢
    obtain ⟨b, rfl⟩ := h1
    refine ⟨.bool b, by simp [Shp, ht], ?_⟩
    split at hv <;> simp_all
    exact (h2.2 0 _ _ rfl rfl)
  · rename_i k ht
    simp only [ht] at h1 hv ⊢
    obtain ⟨x, rfl, hx⟩ := h1
    refine ⟨.int k x, by simp [Shp, ht, hx], ?_⟩
    split at hv <;> simp_all
    exact (h2.2 0 _ _ rfl rfl)
  · rename_i e ht
    simp only [ht] at h1 hv ⊢
    obtain ⟨rows, rfl, hx⟩ := h1
    refine ⟨.sl (P.cellsOf e) false rows, by simpa [Shp, ht] using hx, ?_⟩
    split at hv <;> simp_all <;> exact (h2.2 0 _ _ rfl rfl)
  · rename_i fs ht
    simp only [ht] at h1 hv ⊢
    obtain ⟨cs, rfl, hc, _⟩ := hv
    refine ⟨.agg as, ⟨as, rfl, by simpa [Shp, ht] using h1⟩, ?_⟩
    simp only [Value.cells] at h2
    exact Rep.agg as cs (by simpa using h2.1) (fun i a v ha hv => h2.2 i a v ha (by simpa using hv))
  · cases hp

theorem trodAll_rep {H : Type} {enc : TypeId × Value → H} {w : World} {spare : Nat → Bool} {held : Bool} {c : Cx} (hw : c.w = w) (hS : ∀ b o, b < w.heap.size → c.S b o) {n : Nat} {r : Reach} {base : Nat} {w' : World} :
    ∀ {ts : List TypeId} {vs : List Value} {ds : List (DataW H)} {ps : List MemPlace}, (∀ t ∈ ts, plainT P n t = true) → (∀ (j : Nat) t v, ts[j]? = some t → vs[j]? = some v → Value.okWide P w' r base t v) →
      DataW.TrodAll enc P w 0 spare held ts vs ds ps → ∃ as, ShAll P n ts as ∧ RepL c as vs
  | [], vs, ds, ps, _, _, h => by
    obtain ⟨rfl, rfl, rfl⟩ := trodAll_nil h
    exact ⟨[], trivial, RepL.nil _⟩
  | t :: ts, vs, ds, ps, hp, hv, h => by
    obtain ⟨v, vs', d, ds', p, q, rfl, rfl, rfl, h1, h2⟩ := trodAll_cons h
    obtain ⟨a, ha, hr⟩ := trod_repA hw hS (hp t (by simp)) (hv 0 t v rfl rfl) h1
    obtain ⟨as, has, hrs⟩ := trodAll_rep hw hS (fun t' ht' => hp t' (by simp [ht'])) (fun j t' v' h1 h2 => hv (j + 1) t' v' (by simpa using h1) (by simpa using h2)) h2
    exact ⟨a :: as, ⟨ha, has⟩, RepL.cons hr hrs⟩

theorem trodAll_below {H : Type} {enc : TypeId × Value → H} {W W' : World} (hl : laidOutB P = true) (hb : Below W.heap.size W W') :
    ∀ {ts : List TypeId} {vs : List Value} {ds : List (DataW H)} {ps : List MemPlace}, (∀ t ∈ ts, P.readableRec t = true ∧ t < P.types.size) → (∀ x ∈ ps, x.block < W.heap.size) →
      DataW.TrodAll enc P W 0 (fun _ => true) true ts vs ds ps → DataW.TrodAll enc P W' 0 (fun b => decide (b < W.heap.size)) true ts vs ds ps
  | [], vs, ds, ps, _, _, h => by
    obtain ⟨rfl, rfl, rfl⟩ := trodAll_nil h
    simp [DataW.TrodAll]
  | t :: ts, vs, ds, ps, ht, hp, h => by
    obtain ⟨v, vs', d, ds', p, q, rfl, rfl, rfl, h1, h2⟩ := trodAll_cons h
    exact ⟨p, q, Below.trod hl (ht t (by simp)).1 (ht t (by simp)).2 h1 hb (fun x hx => hp x (by simp [hx])), trodAll_below hl hb (fun t' ht' => ht t' (by simp [ht'])) (fun x hx => hp x (by simp [hx])) h2, rfl⟩

/-- A law of plain arguments, whose contract says that it answers true: its row. -/
theorem law_lifted {C : Checked} {os : Os} {f : FuncId} {fn : Func} {s : ChangeSpec} (n : Nat) (tb : TypeId) {H : Type} {enc : TypeId × Value → H}
    (own : ownKnob C.prog.godebug = none) (started : os.Started) (noInit : C.prog.inits.idxOf? f = none) (hfn : C.prog.funcs[f]? = some fn) (hlo : laidOutB C.prog = true)
    (hts : fn.params.toList.all (fun t => plainT C.prog n t && C.prog.readableRec t && decide (t < C.prog.types.size)) = true)
    (hres : fn.resultTypes = #[tb]) (htb : C.prog.underlying tb = some .bool) (hsv : s.vars = [])
    (hsf : ∀ ds : List (DataW H), ds.length = fn.params.toList.length → s.fn H ds = { results := [.lit (.bool true)], args := ds })
    (witness : ∃ (w : World) (tape : Tape) (i : Input), w.os = os ∧ (w.forCall tape i).Shaped C.prog ∧ i.vars = [] ∧ Input.okWide C.prog (w.forCall tape i) .any w.heap.size f i ∧
      s.pre6 enc C.prog fn [] false (w.forCall tape i).memory i.args ∧ ({} : Assume).holds C.prog (lone (Frame.enter C.prog f i.args .normal) [] (w.forCall tape i)))
    (hc : ∀ as, ShAll C.prog n fn.params.toList as → PureC C.prog f as (.bool true)) :
    ReturnsInHanded {} C os f .any (s.pre6 enc C.prog fn [] false) (s.post enc C.prog fn false true false false) := by
  simp only [List.all_eq_true, Bool.and_eq_true, decide_eq_true_eq] at hts
  refine returnsInHanded_of_change (C := C) own started noInit hfn witness ?_
  intro W base args ds gs before hval hW _ _
  have hlt := hW.lt
  have hW' := hW
  obtain ⟨p, q, hA, hV, rfl, hfz, hnd⟩ := hW
  rw [hsv] at hV
  obtain ⟨rfl, rfl⟩ := trodVars_none hV
  obtain ⟨as, has, hr⟩ := trodAll_rep (c := ⟨fun b _ => b < W.heap.size, fun _ => 0, W, fun _ => none⟩) rfl (fun b o h => h) (fun t ht => (hts t ht).1.1) (fun j t v h1 h2 => hval j t v (by simpa using h1) (by simpa using h2)) hA
  have hlen : ∀ {ts : List TypeId} {vs : List Value} {ds : List (DataW H)} {ps : List MemPlace}, DataW.TrodAll enc C.prog W 0 (fun _ => true) true ts vs ds ps → ds.length = ts.length := by
    intro ts
    induction ts with
    | nil => intro vs ds ps h; obtain ⟨rfl, rfl, rfl⟩ := trodAll_nil h; rfl
    | cons t ts ih => intro vs ds ps h; obtain ⟨v, vs', d, ds', p, q, rfl, rfl, rfl, h1, h2⟩ := trodAll_cons h; simp [ih h2]
  have hcall := (hc as has).2 (fun b _ => b < W.heap.size) W args.toList (fun b o h => h) hr
  rw [show args.toList.toArray = args by simp] at hcall
  refine hcall.mono ?_
  rintro e W' ⟨v, rfl, hb, hv⟩
  cases hv
  refine ⟨_, rfl, ds, [], p ++ [], [], p, [], hW', ?_, ?_, ?_, Below.frame hb _, by simp⟩
  · rw [List.append_nil, hsf ds (hlen hA), hres]
    simp only [Value.resultList]
    refine ⟨[], [], ⟨1, ?_⟩, ?_, rfl⟩
    · simp [Value.cells, DataW.trod, htb]
    · simp [DataW.TrodAll]
  · rw [List.append_nil, hsf ds (hlen hA)]
    exact trodAll_below hlo hb (fun t ht => ⟨(hts t ht).1.2, (hts t ht).2⟩) (fun x hx => hlt x (by simp [hx])) hA
  · rw [hsv, List.append_nil, hsf ds (hlen hA)]
    simp [DataW.TrodVars]

end
end Go.Proofs.Ytpgkpdojpmikkaa.Eng

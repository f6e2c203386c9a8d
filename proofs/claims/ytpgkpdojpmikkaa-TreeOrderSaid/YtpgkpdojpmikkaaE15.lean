/-
  THE ENGINE, part 15: the walk is sound.
-/
import Derived.Test.YtpgkpdojpmikkaaE14
set_option linter.unusedVariables false
set_option linter.unusedSimpArgs false
namespace Go.Proofs.Ytpgkpdojpmikkaa.Eng
open Go Go.RowKit

theorem runK_mono {P : Program} {rid nx : Nat} {ops : List AOper} {T U : Nat → List Bid × List Bid} {K K' : AEnv → Mem → Prop} (h : ∀ e m, K e m → K' e m) : ∀ {l : List Nat} {e : AEnv} {m : Mem}, runK P rid nx ops T U l e m K → runK P rid nx ops T U l e m K'
  | [], e, m, hh => h _ _ hh
  | i :: l, e, m, ⟨o, ho, hh⟩ => by
    refine ⟨o, ho, ?_⟩
    rcases hh with ⟨e1, m1, h1, h2⟩ | ⟨e1, m1, e2, m2, h1, h2, ⟨e', m', h3, h4⟩, ⟨e'', m'', h5, h6⟩⟩
    · exact .inl ⟨e1, m1, h1, runK_mono h h2⟩
    · exact .inr ⟨e1, m1, e2, m2, h1, h2, ⟨e', m', h3, h _ _ h4⟩, ⟨e'', m'', h5, h _ _ h6⟩⟩

theorem pairs_of {ops : Array Oper} {l : List AOper} (hdraw : drawB ops l = true) {rid nx : Nat} {acc : List (List Bid × List Bid)} (hchk : dchk rid nx (ups ops) acc) :
    (∀ i o, ops[i]? = some o → ∀ e, e ∈ o.after → Region.binds .any e = true → e.on < i) ∧
    (∀ i j, i < j → j < ops.size → reachB ops ops.size i j = false → pairOk rid nx (getT acc) i j = true ∧ ∀ oi oj, l[i]? = some oi → l[j]? = some oj → apartB oi oj = true) := by
  unfold drawB at hdraw
  simp only [Bool.and_eq_true] at hdraw
  obtain ⟨hback, hap⟩ := hdraw
  constructor
  · intro i o ho ed hed hb
    have hi := (Array.getElem?_eq_some_iff.1 ho).1
    simp only [List.all_eq_true, List.mem_range] at hback
    have := hback i hi
    rw [ho] at this
    simp only [List.all_eq_true, Array.mem_toList_iff, Bool.or_eq_true, Bool.not_eq_true', decide_eq_true_eq] at this
    rcases this ed hed with h | h
    · rw [hb] at h; cases h
    · exact h
  · intro i j hij hj hnr
    have hmem : (i, j) ∈ ups ops := by
      unfold ups
      simp only [List.mem_flatMap, List.mem_range, List.mem_filterMap]
      exact ⟨j, hj, i, hij, by simp [hnr]⟩
    constructor
    · rcases hchk with hchk | hchk
      · simp only [List.all_eq_true, List.isEmpty_iff] at hchk
        have hT : ∀ k, (getT acc k).2 = [] := by
          intro k
          unfold getT
          rw [List.getD_eq_getElem?_getD]
          cases hk : acc[k]? with
          | none => rfl
          | some t => exact hchk t (List.mem_of_getElem? hk)
        simp [pairOk, hT, disj]
      · simp only [List.all_eq_true] at hchk
        exact hchk (i, j) hmem
    · intro oi oj hoi hoj
      simp only [List.all_eq_true] at hap
      have := hap (i, j) hmem
      simpa [hoi, hoj] using this

theorem InvS.drew {Y : Gd → Prop} {S0 : Nat → Nat → Prop} {c : Cx} (hI : InvS Y S0 c) : InvS Y S0 ⟨c.S, c.β, { c.w with drawn := c.w.drawn + 1 }, c.m⟩ ∧ c.Ext ⟨c.S, c.β, { c.w with drawn := c.w.drawn + 1 }, c.m⟩ := by
  obtain ⟨G, hG, hi⟩ := hI
  obtain ⟨h1, h2⟩ := hi.grow (w' := { c.w with drawn := c.w.drawn + 1 }) ⟨rfl, rfl, rfl, Nat.le_refl _, fun _ _ => rfl⟩
  exact ⟨⟨G, hG, h1⟩, h2⟩

theorem range_list (n : Nat) : (List.range n).map (0 + ·) = List.range n := by simp

/-- The world in which the rounds begin. -/
def rW (w : World) (r : Loop) : World := (w.alloc (.deferred (some []))).alloc (.loop r)

theorem rW_D (w : World) (r : Loop) : (rW w r).heap[w.heap.size]? = some (.deferred (some [])) :=
  (Below.heap_alloc _ _ _ (by simp)).trans (World.alloc_heap_new w _)
theorem rW_l (w : World) (r : Loop) : (rW w r).heap[w.heap.size + 1]? = some (.loop r) := by
  have := World.alloc_heap_new (w.alloc (.deferred (some []))) (.loop r)
  rwa [World.size_alloc] at this
theorem rW_old (w : World) (r : Loop) {b : Nat} (h : b < w.heap.size) : (rW w r).heap[b]? = w.heap[b]? :=
  (Below.heap_alloc _ _ _ (by simp; omega)).trans (Below.heap_alloc _ _ _ h)
theorem rW_size (w : World) (r : Loop) : (rW w r).heap.size = w.heap.size + 2 := by simp [rW]

theorem range_ok {P : Program} {S0 : Nat → Nat → Prop} {N : Nat} {x y : Code} {ax ay : ACode}
    (ihx : ∀ {c0 : Cx} {Y0 : Gd → Prop} {l : Nat} {Q : AExit → St → Prop} {s : St} {a : Act} {w : World}, awp P ax Q s → Sim Y0 S0 c0 .round N s a w → x.wpIn (Fr (some l)) 0 P (LQ Y0 S0 c0 .round N Q) a w)
    (ihy : ∀ {c0 : Cx} {Y0 : Gd → Prop} {l : Nat} {Q : AExit → St → Prop} {s : St} {a : Act} {w : World}, awp P ay Q s → Sim Y0 S0 c0 .round N s a w → y.wpIn (Fr (some l)) 0 P (LQ Y0 S0 c0 .round N Q) a w)
    {Y0 : Gd → Prop} {c0 : Cx} {Q : AExit → St → Prop} {s : St} {a : Act} {w : World} {g : Operand} {ps : Array Tmp} (hps : (ps.toList.all fun t => decide (t < N)) = true) {k : FuncId} {caps : List AV} (hgx : (cx P 0 g).ev s.e = .fn k caps)
    (h : ∃ (lc : List AV) (vals : List (List AV)) (I : Nat → Nat → Mem → Prop), purL s.m caps = some lc ∧ IterC P k lc vals ∧ (∀ r, r ∈ vals → r.length = ps.toList.length ∧ scalL r = true) ∧
        I 0 s.nx (applyW s.m (fzW s.m (refsL caps))) ∧
        (∀ i v nx m, vals[i]? = some v → I i nx m → awp P ax (fun x s1 => match x with
          | .normal => awp P ay (fun x s2 => match x with
            | .normal => I (i + 1) s2.nx s2.m
            | x => Q x ⟨s.e, s2.m, s2.nx⟩) s1
          | _ => False) ⟨putPs s.e ps.toList v, m, nx⟩) ∧
        ∀ nx m, I vals.length nx m → Q .normal ⟨s.e, m, nx⟩)
    (hs : Sim Y0 S0 c0 .fn N s a w) : (Code.rangeFunc g ps x y).wpIn (Fr none) 0 P (LQ Y0 S0 c0 .fn N Q) a w := by
  obtain ⟨hN, Ds, hdf, _, c, rfl, hm, ⟨G, ⟨G0, hY0, hnd, hDs, rfl⟩, hI⟩, hE, hx0⟩ := hs
  obtain ⟨lc, vals, I, hpur, hIter, hvals, hI0, hround, hend⟩ := h
  rw [← hm] at hpur hI0
  rw [applyW_fz] at hI0
  have hcv := cx_ok (P := P) hE 0 g
  rw [hgx] at hcv
  generalize hgv : a.eval g = gv at hcv
  cases hcv with
  | fn _ _ cv hcl hcrep =>
  have hcapsR : RepL c caps cv.toList := ⟨by simpa using hcl, fun i a v h1 h2 => hcrep i a v h1 (by simpa using h2)⟩
  obtain ⟨hI1, hE1⟩ := hI.share (refsL caps)
  have hcaps := purL_ok hI (refsL caps) hcapsR hpur (fun b hb => hb)
  obtain ⟨fn, hfn, hname, hbody⟩ := hIter.1
  have hn1 : fn.name ≠ "runtime.NumGoroutine" := by simpa using hname
  have hn2 : fn.body ≠ none := by intro h0; simp [h0] at hbody
  refine wpIn_rangeFunc ?_
  intro fid _
  obtain ⟨rec, hrec⟩ : ∃ rec : LoopState → Option Code → Loop, rec = fun st pe => { state := st, pending := pe, fn := fid, tmps := a.tmps, params := ps, assign := x, body := y, defers := c.w.heap.size } := ⟨_, rfl⟩
  obtain ⟨D, hD⟩ : ∃ D, D = c.w.heap.size := ⟨_, rfl⟩
  have hnp : ∀ b, D ≤ b → ¬ (G0.marks Ds).prot b := fun b hb hp => by have := (G0.marks Ds).lt _ _ hI.q _ hp; omega
  have hc1w : (c.share (refsL caps)).w = c.w := rfl
  obtain ⟨W1, hW1⟩ : ∃ W1, rW c.w (rec .ready none) = W1 := ⟨_, rfl⟩
  have hWold : ∀ b, b < D → W1.heap[b]? = c.w.heap[b]? := fun b hb => by rw [← hW1]; exact rW_old _ _ (by omega)
  have hWsz : W1.heap.size = D + 2 := by rw [← hW1, rW_size]; omega
  -- the core at the start
  obtain ⟨hI2, hE2⟩ := hI1.move (G' := G0.marks Ds) W1 (by rw [hWsz, hc1w]; omega)
    (fun i k hk hy => ⟨hWold _ (by have := (hI1.blk i k hk hy).lt; rw [hc1w] at this; omega), (hI1.blk i k hk hy).base⟩)
    (fun b o hs => ⟨cell_same (hWold b (by have := hI1.sdom b o hs; rw [hc1w] at this; omega)) o, hI1.sn b o hs⟩)
    ((G0.marks Ds).cl _ _ _ hI1.q (by rw [← hW1]; rfl) (by rw [← hW1]; rfl) (by rw [← hW1]; rfl) (by rw [hWsz, hc1w]; omega) (fun b hb => hWold b (Nat.lt_of_not_le fun hle => hnp b hle hb)))
  obtain ⟨c1, hc1⟩ : ∃ c1 : Cx, c1 = ⟨(c.share (refsL caps)).S, (c.share (refsL caps)).β, W1, (c.share (refsL caps)).m⟩ := ⟨_, rfl⟩
  rw [← hc1] at hI2 hE2
  have hcore0 : RCore (G0.marks Ds) S0 c1 D (fun _ => False) W1 c1 := by
    refine ⟨by rw [hc1], .refl _, hI2, fun i k hk hy hh => ?_, fun b o hb hsb => ?_, by rw [← hW1, hD]; exact rW_D _ _, fun b hb => hb.elim, hnp⟩
    · have h1 : (c.share (refsL caps)).m i = some k := by rw [hc1] at hk; exact hk
      have h2 := (hI1.blk i k h1 hy).lt
      have h3 : c1.β i = (c.share (refsL caps)).β i := by rw [hc1]
      rw [hc1w] at h2
      rw [h3] at hh
      rcases hh with hh | hh | hh
      · omega
      · omega
      · exact hh
    · have h1 : (c.share (refsL caps)).S b o := by rw [hc1] at hsb; exact hsb
      have h2 := hI1.sdom b o h1
      rw [hc1w] at h2
      rcases hb with hb | hb | hb
      · omega
      · omega
      · exact hb
  have hl0 : W1.heap[D + 1]? = some (.loop (rec .ready none)) := by rw [← hW1, hD]; exact rW_l _ _
  have hS0 : ∀ b o, S0 b o → b < D := fun b o hb => by
    have := hI.sdom b o (hI.s0 b o hb); omega
  have hx1 : c.Ext c1 := hE1.trans hE2
  refine ⟨D + 1, [{ target := .collected D, args := #[] }], W1, { target := .fn (.func k) cv, args := #[.func (.yield (D + 1)) #[] #[]] }, W1, k, #[.func (.yield (D + 1)) #[] #[]] ++ cv, W1, ?_, ?_, fun _ _ => trivial, ?_, fun h => (by cases h), ?_⟩
  · rw [← hW1, hD, hrec]; exact run_enterLoop_outer _ _ _ _ _
  · simp only [resolve, hgv]
    simp [go_sem]
  · simp [invoke, callFunc, hfn, hn1, hn2]
  rw [callsIn_fr]
  have hdomW : ∀ b o, c1.S b o → b < W1.heap.size := fun b o hb => by have := hI2.sdom b o hb; rw [hc1] at this; exact this
  have hcapsW : RepL ⟨c1.S, fun _ => 0, W1, fun _ => none⟩ lc cv.toList := by
    refine hcaps.ext ⟨fun b o hb => ?_, fun i k h => by simp [Cx.bare] at h, ⟨by show c.w.heap.size ≤ W1.heap.size; omega, fun _ _ _ h => by cases h⟩⟩
    have hb' : (c.share (refsL caps)).S b o := hb
    refine ⟨by rw [hc1]; exact hb', ?_⟩
    have := hI1.sdom b o hb'
    rw [hc1w] at this
    exact cell_same (hWold b (by omega)) o
  have hit := hIter.2 c1.S W1 cv.toList (D + 1)
    (fun i T A => ∃ (c' : Cx) (nx : Nat), RCore (G0.marks Ds) S0 c1 D T A c' ∧ I i nx c'.m ∧ A.heap[D + 1]? = some (.loop (rec .ready none)))
    (fun i T A => ∃ (c' : Cx) (nx : Nat) (xx : AExit) (jc : Code), (xx = .ret ∧ jc = .ret ∨ ∃ id, xx = .exit id ∧ jc = .exit id) ∧ RCore (G0.marks Ds) S0 c1 D T A c' ∧ Q xx ⟨s.e, c'.m, nx⟩ ∧ A.heap[D + 1]? = some (.loop (rec .done (some jc))))
    hdomW hcapsW
    (fun i T A A' ⟨c', nx, hc', hi, hl⟩ h1 h2 h3 h4 h5 => by
      obtain ⟨q1, q2⟩ := hc'.step (Array.getElem?_eq_some_iff.1 hl).1 h1 h2 h3 h4 h5
      exact ⟨_, nx, q1, hi, q2.trans hl⟩)
    (fun i T A A' ⟨c', nx, xx, jc, hj, hc', hq, hl⟩ h1 h2 h3 h4 h5 => by
      obtain ⟨q1, q2⟩ := hc'.step (Array.getElem?_eq_some_iff.1 hl).1 h1 h2 h3 h4 h5
      exact ⟨_, nx, xx, jc, hj, q1, hq, q2.trans hl⟩)
    ?_ ⟨c1, s.nx, hcore0, by rw [hc1]; exact hI0, hl0⟩
  · -- behind the iterator
    have hargs : (Value.func (.yield (D + 1)) #[] #[] :: cv.toList).toArray = #[.func (.yield (D + 1)) #[] #[]] ++ cv := by apply Array.ext'; simp
    rw [hargs] at hit
    refine hit.mono ?_
    have fin : ∀ (T : Nat → Prop) (A : World) (c' : Cx), RCore (G0.marks Ds) S0 c1 D T A c' → ∀ o', ∃ c'' : Cx, c''.w = A.putObj (D + 1) o' ∧ c''.m = c'.m ∧ InvS (Ym Y0 (D :: Ds)) S0 c'' ∧ EnvOk c'' s.e a ∧ c0.ExtM .fn c'' := by
      intro T A c' hc' o'
      have h1 := hc'.set o'
      have hDn : D ∉ Ds := fun hin => by
        have := (Gd.marks_Q.1 hI.q).2 D hin
        have := (Array.getElem?_eq_some_iff.1 this).1; omega
      obtain ⟨h2, h3⟩ := h1.inv.move (G' := (G0.marks Ds).mark D) (A.putObj (D + 1) o') (Nat.le_refl _)
        (fun i k hk hy => ⟨rfl, fun hp => hp.elim (h1.inv.blk i k hk hy).base (fun e => h1.own i k hk hy (.inl e))⟩)
        (fun b o hb => ⟨rfl, by
          rcases h1.inv.sn b o hb with h | h
          · exact .inl h
          · exact .inr (fun hp => hp.elim h (fun e => h1.sc b o (.inl e) hb))⟩)
        ⟨h1.inv.q, h1.d⟩
      refine ⟨⟨c'.S, c'.β, A.putObj (D + 1) o', c'.m⟩, rfl, rfl, ⟨(G0.marks Ds).mark D, ⟨G0, hY0, by simp [hDn, hnd], fun D' hD' => ?_, rfl⟩, h2⟩, hE.ext (hx1.trans (h1.x.trans h3)), hx0.trans' (hx1.trans (h1.x.trans h3))⟩
      rcases List.mem_cons.1 hD' with rfl | hD'
      · intro hp; exact hnp D' (Nat.le_refl _) (Gd.marks_prot.2 (.inl hp))
      · exact hDs D' hD'
    rintro e A ⟨v, rfl, T, (⟨c', nx, hc', hi, hl⟩ | ⟨i, hle, c', nx, xx, jc, hj, hc', hq, hl⟩)⟩
    · obtain ⟨c'', q1, q2, q3, q4, q5⟩ := fin T A c' hc' (.loop (rec .exhausted none))
      have := run_endLoop (P := P) hl (by rw [hrec]; simp)
      rw [hrec] at this
      refine ⟨none, _, this, ?_⟩
      refine ⟨⟨s.e, c'.m, nx⟩, hend nx c'.m hi, hN, D :: Ds, by simp [hdf, mkD], fun h => absurd rfl h, c'', ?_, q2, q3, q4, q5⟩
      rw [q1, hrec]
    · obtain ⟨c'', q1, q2, q3, q4, q5⟩ := fin T A c' hc' (.loop (rec .exhausted (some jc)))
      have := run_endLoop (P := P) hl (by rw [hrec]; simp)
      rw [hrec] at this
      refine ⟨some jc, _, this, ?_⟩
      have hsim : Sim Y0 S0 c0 .fn N ⟨s.e, c'.m, nx⟩ { a with defers := [{ target := .collected D, args := #[] }] ++ a.defers } (A.putObj (D + 1) (.loop { state := .exhausted, pending := some jc, fn := fid, tmps := a.tmps, params := ps, assign := x, body := y, defers := c.w.heap.size })) :=
        ⟨hN, D :: Ds, by simp [hdf, mkD], fun h => absurd rfl h, c'', by rw [q1, hrec], q2, q3, q4, q5⟩
      rcases hj with ⟨rfl, rfl⟩ | ⟨id, rfl, rfl⟩
      · exact wpIn_ret ⟨_, hq, hsim⟩
      · exact wpIn_exit ⟨_, hq, hsim⟩
  · -- one round
    rintro i T A v vs ⟨c', nx, hc', hi, hl⟩ hv hvs
    obtain ⟨hvl, hvsc⟩ := hvals v (List.mem_of_getElem? hv)
    have hvsl : vs.length = v.length := (hvs c').1
    have hlt : D + 1 < A.heap.size := (Array.getElem?_eq_some_iff.1 hl).1
    have hy := run_yield (P := P) (args := vs.toArray) hl (by rw [hrec]; simp; rw [hvsl, hvl]; simp)
    rw [hrec] at hy
    obtain ⟨Z, hZ⟩ : ∃ Z : Nat → Prop, Z = fun b => b = D ∨ b = D + 1 ∨ T b := ⟨_, rfl⟩
    have hZlt : ∀ b, Z b → b < A.heap.size := fun b hb => by
      rw [hZ] at hb
      rcases hb with hb | hb | hb
      · omega
      · omega
      · exact (hc'.t b hb).2
    have hZS : ∀ b o, Z b → ¬ S0 b o := fun b o hb hs => by
      have := hS0 b o hs
      rw [hZ] at hb
      rcases hb with hb | hb | hb
      · omega
      · omega
      · have := (hc'.t b hb).1; omega
    have hfold : (ps.zip vs.toArray).foldl (fun tmps (t, a) => tmps.setIfInBounds t a) a.tmps = (ps.toList.zip vs).foldl (fun t (p, v) => t.setIfInBounds p v) a.tmps := by
      rw [← Array.foldl_toList]; simp
    obtain ⟨htz, hte⟩ := putPs_ok (c := c') ps.toList v vs s.e a.tmps hps hN (hvs c') (fun i => (hE i).ext (hx1.trans hc'.x))
    have hcw := hc'.w
    -- the round's part
    obtain ⟨hI3, hE3⟩ := hc'.inv.move (G' := (G0.marks Ds).lock Z A) A (by rw [hcw]; exact Nat.le_refl _)
      (fun i k hk hy => ⟨by rw [hcw], fun hp => hp.elim (hc'.inv.blk i k hk hy).base (fun hz => hc'.own i k hk hy (by rw [hZ] at hz; exact hz))⟩)
      (fun b o hb => ⟨by rw [hcw], by
        rcases hc'.inv.sn b o hb with h | h
        · exact .inl h
        · exact .inr (fun hp => hp.elim h (fun hz => hc'.sc b o (by rw [hZ] at hz; exact hz) hb))⟩)
      ⟨by have := hc'.inv.q; rw [hcw] at this; exact this, fun b hb => ⟨hZlt b hb, rfl⟩⟩
    refine ⟨fid, _, x, y, hy, ?_⟩
    refine roundIn_of_wpIn trivial ?_
    have hsim0 : Sim (· = (G0.marks Ds).lock Z A) S0 c' .round N ⟨putPs s.e ps.toList v, c'.m, nx⟩ { tmps := (ps.zip vs.toArray).foldl (fun tmps (t, a) => tmps.setIfInBounds t a) a.tmps, defers := [] } A := by
      refine ⟨by rw [hfold]; exact htz, [], rfl, fun _ => rfl, ⟨c'.S, c'.β, A, c'.m⟩, rfl, rfl, InvS.nil.2 ⟨_, rfl, hI3⟩, fun i => ?_, hE3.M _⟩
      have := (hte i).ext hE3
      rw [hfold]; exact this
    refine wpIn_mono (ihx (hround i v nx c'.m hv hi) hsim0) ?_
    intro e2 a2 w2 hq
    cases e2 with
    | ret => obtain ⟨_, h, _⟩ := hq; exact h.elim
    | exit id => obtain ⟨_, h, _⟩ := hq; exact h.elim
    | goto l => exact hq.elim
    | panic ch => exact hq.elim
    | outgrown => exact hq.elim
    | normal =>
    obtain ⟨s1, hbw, hN1, Ds1, hdf1, hDs1, c2, rfl, hm2, hI4, hE4, hx4⟩ := hq
    obtain rfl := hDs1 (by simp)
    obtain ⟨Gx, rfl, hI5⟩ := InvS.nil.1 hI4
    have hl2 : c2.w.heap[D + 1]? = some (.loop (rec .ready none)) := ((hI5.q.2 (D + 1) (by rw [hZ]; simp)).2).trans hl
    have hbr := run_beginRound (P := P) hl2 (by rw [hrec])
    refine ⟨_, hbr, ?_⟩
    obtain ⟨w3, hw3⟩ : ∃ w3, c2.w.putObj (D + 1) (.loop { (rec .ready none) with state := .busy }) = w3 := ⟨_, rfl⟩
    rw [hw3]
    have hw3o : ∀ b, b ≠ D + 1 → w3.heap[b]? = c2.w.heap[b]? := fun b hb => by rw [← hw3]; exact World.putObj_heap_other hb
    have hlt2 := (Array.getElem?_eq_some_iff.1 hl2).1
    have hw3l : w3.heap[D + 1]? = some (.loop { (rec .ready none) with state := .busy }) := by rw [← hw3]; exact World.putObj_heap_same hlt2
    have hw3s : w3.heap.size = c2.w.heap.size := by rw [← hw3]; simp
    have hlS : ∀ b o, Z b → ¬ c2.S b o := fun b o hz hb => by
      rcases hI5.sn b o hb with h | h
      · exact hZS b o hz h
      · exact h (.inr hz)
    have hZlt2 : ∀ b, Z b → b < c2.w.heap.size := fun b hz => ((G0.marks Ds).lock Z A).lt _ _ hI5.q b (.inr hz)
    obtain ⟨hI6, hE6⟩ := hI5.move (G' := (G0.marks Ds).lock Z w3) w3 (by omega)
      (fun i k hk hy => ⟨hw3o _ (fun e => (hI5.blk i k hk hy).base (.inr (by rw [hZ, e]; simp))), (hI5.blk i k hk hy).base⟩)
      (fun b o hb => ⟨cell_same (hw3o b (fun e => hlS b o (by rw [hZ, e]; simp) hb)) o, hI5.sn b o hb⟩)
      ⟨(G0.marks Ds).cl _ _ _ hI5.q.1 (by rw [← hw3]; rfl) (by rw [← hw3]; rfl) (by rw [← hw3]; rfl) (by omega) (fun b hb => hw3o b (fun e => hnp b (by omega) hb)), fun b hb => ⟨by rw [hw3s]; exact hZlt2 b hb, rfl⟩⟩
    have hsim1 : Sim (· = (G0.marks Ds).lock Z w3) S0 c' .round N s1 a2 w3 :=
      ⟨hN1, [], hdf1, fun _ => rfl, ⟨c2.S, c2.β, w3, c2.m⟩, rfl, hm2, InvS.nil.2 ⟨_, rfl, hI6⟩, hE4.ext hE6, hx4.trans' hE6⟩
    refine wpIn_mono (ihy hbw hsim1) ?_
    -- how the body ends
    have fin : ∀ (c4 : Cx) (jump : Option Code), Inv ((G0.marks Ds).lock Z w3) S0 c4 → c'.Ext c4 →
        ∃ c5 : Cx, (Instr.endRound (D + 1) jump).run P c4.w = .ok (.bool jump.isNone) c5.w ∧ c5.m = c4.m ∧ RCore (G0.marks Ds) S0 c1 D T c5.w c5 ∧
          c5.w.heap[D + 1]? = some (.loop (rec (if jump.isNone then .ready else .done) jump)) ∧
          A.heap.size ≤ c5.w.heap.size ∧ (∀ b, T b → c5.w.heap[b]? = A.heap[b]?) ∧ (∀ b o, c1.S b o → c5.w.cell? ⟨b, o, none⟩ = A.cell? ⟨b, o, none⟩) := by
      intro c4 jump hi4 hx
      have hl4 : c4.w.heap[D + 1]? = some (.loop { (rec .ready none) with state := .busy }) := ((hi4.q.2 (D + 1) (by rw [hZ]; simp)).2).trans hw3l
      have hlt4 := (Array.getElem?_eq_some_iff.1 hl4).1
      have hS4 : ∀ b o, Z b → ¬ c4.S b o := fun b o hz hb => by
        rcases hi4.sn b o hb with h | h
        · exact hZS b o hz h
        · exact h (.inr hz)
      have her := run_endRound (P := P) jump hl4
      obtain ⟨w5, hw5⟩ : ∃ w5, c4.w.putObj (D + 1) (.loop (rec (if jump.isNone then .ready else .done) jump)) = w5 := ⟨_, rfl⟩
      have hw5o : ∀ b, b ≠ D + 1 → w5.heap[b]? = c4.w.heap[b]? := fun b hb => by rw [← hw5]; exact World.putObj_heap_other hb
      have hw5s : w5.heap.size = c4.w.heap.size := by rw [← hw5]; simp
      obtain ⟨hi5, hx5⟩ := hi4.move (G' := G0.marks Ds) w5 (by omega)
        (fun i k hk hy => ⟨hw5o _ (fun e => (hi4.blk i k hk hy).base (.inr (by rw [hZ, e]; simp))), fun hp => (hi4.blk i k hk hy).base (.inl hp)⟩)
        (fun b o hb => ⟨cell_same (hw5o b (fun e => hS4 b o (by rw [hZ, e]; simp) hb)) o, by
          rcases hi4.sn b o hb with h | h
          · exact .inl h
          · exact .inr (fun hp => h (.inl hp))⟩)
        ((G0.marks Ds).cl _ _ _ hi4.q.1 (by rw [← hw5]; rfl) (by rw [← hw5]; rfl) (by rw [← hw5]; rfl) (by omega) (fun b hb => hw5o b (fun e => hnp b (by omega) hb)))
      have hchain : ∀ b, Z b → b ≠ D + 1 → w5.heap[b]? = A.heap[b]? := fun b hz hne => by
        rw [hw5o b hne, (hi4.q.2 b hz).2, hw3o b hne, (hI5.q.2 b hz).2]
      have hxx := hx.trans hx5
      have hsz : A.heap.size ≤ w5.heap.size := by have := hxx.k.size; rw [hcw] at this; exact this
      refine ⟨⟨c4.S, c4.β, w5, c4.m⟩, ?_, rfl, ⟨rfl, hc'.x.trans hxx, hi5, fun i k hk hy hh => (hi4.blk i k hk hy).base (.inr (by rw [hZ]; exact hh)), fun b o hb => hS4 b o (by rw [hZ]; exact hb), ?_, fun b hb => ?_, hnp⟩, ?_, hsz, fun b hb => ?_, fun b o hb => ?_⟩
      · show _ = Result.ok _ w5
        rw [← hw5, hrec]
        rw [hrec] at her
        exact her
      · exact (hchain D (by rw [hZ]; simp) (by omega)).trans hc'.d
      · have := hc'.t b hb; exact ⟨this.1, Nat.lt_of_lt_of_le this.2 hsz⟩
      · show w5.heap[D + 1]? = _
        rw [← hw5]; exact World.putObj_heap_same hlt4
      · exact hchain b (by rw [hZ]; exact .inr (.inr hb)) (by have := (hc'.t b hb).1; omega)
      · have h1 := (hc'.x.s b o hb).1
        have h2 := (hxx.s b o h1).2
        rw [hcw] at h2
        exact h2
    intro e3 a3 w4 hq
    cases e3 with
    | goto l => exact hq.elim
    | panic ch => exact hq.elim
    | outgrown => exact hq.elim
    | normal =>
      obtain ⟨s2, h1, _, Ds2, _, hDs2, c4, rfl, hm4, hi4, _, hx4'⟩ := hq
      obtain rfl := hDs2 (by simp)
      obtain ⟨Gx, rfl, hi4⟩ := InvS.nil.1 hi4
      obtain ⟨c5, q1, q2, q3, q4, q5, q6, q7⟩ := fin c4 none hi4 hx4'.full
      exact ⟨_, _, q1, ⟨q5, q6, q7⟩, .inl ⟨rfl, c5, s2.nx, q3, by rw [q2, hm4]; exact h1, q4⟩⟩
    | ret =>
      obtain ⟨s2, h1, _, Ds2, _, hDs2, c4, rfl, hm4, hi4, _, hx4'⟩ := hq
      obtain rfl := hDs2 (by simp)
      obtain ⟨Gx, rfl, hi4⟩ := InvS.nil.1 hi4
      obtain ⟨c5, q1, q2, q3, q4, q5, q6, q7⟩ := fin c4 (some .ret) hi4 hx4'.full
      exact ⟨_, _, q1, ⟨q5, q6, q7⟩, .inr ⟨rfl, c5, s2.nx, .ret, .ret, .inl ⟨rfl, rfl⟩, q3, by rw [q2, hm4]; exact h1, q4⟩⟩
    | exit id =>
      obtain ⟨s2, h1, _, Ds2, _, hDs2, c4, rfl, hm4, hi4, _, hx4'⟩ := hq
      obtain rfl := hDs2 (by simp)
      obtain ⟨Gx, rfl, hi4⟩ := InvS.nil.1 hi4
      obtain ⟨c5, q1, q2, q3, q4, q5, q6, q7⟩ := fin c4 (some (.exit id)) hi4 hx4'.full
      exact ⟨_, _, q1, ⟨q5, q6, q7⟩, .inr ⟨rfl, c5, s2.nx, .exit id, .exit id, .inr ⟨id, rfl, rfl⟩, q3, by rw [q2, hm4]; exact h1, q4⟩⟩

theorem awp_ok {P : Program} {S0 : Nat → Nat → Prop} {N : Nat} : ∀ (code : Code) {Y0 : Gd → Prop} {c0 : Cx} {md : Md} {rr : Option Nat} {ac : ACode} {Q : AExit → St → Prop} {s : St} {a : Act} {w : World}, (md = .it → YOk P Y0 S0) → (md = .fn → rr = none) → ccode P N md code = some ac → awp P ac Q s → Sim Y0 S0 c0 md N s a w → code.wpIn (Fr rr) 0 P (LQ Y0 S0 c0 md N Q) a w := by
  intro code
  induction code with
  | skip =>
    intro Y0 c0 md rr ac Q s a w hY hrr hc h hs
    simp only [ccode, Option.some.injEq] at hc
    subst hc
    exact wpIn_skip ⟨s, h, hs⟩
  | label l =>
    intro Y0 c0 md rr ac Q s a w hY hrr hc h hs
    simp only [ccode, Option.some.injEq] at hc
    subst hc
    exact wpIn_label ⟨s, h, hs⟩
  | exit id =>
    intro Y0 c0 md rr ac Q s a w hY hrr hc h hs
    simp only [ccode, Option.some.injEq] at hc
    subst hc
    exact wpIn_exit ⟨s, h, hs⟩
  | ret =>
    intro Y0 c0 md rr ac Q s a w hY hrr hc h hs
    simp only [ccode, Option.some.injEq] at hc
    subst hc
    exact wpIn_ret ⟨s, h, hs⟩
  | seq x y ihx ihy =>
    intro Y0 c0 md rr ac Q s a w hY hrr hc h hs
    simp only [ccode] at hc
    split at hc <;> simp only [reduceCtorEq, Option.some.injEq] at hc
    rename_i ax ay hax hay
    subst hc
    refine wpIn_seq (wpIn_mono (ihx hY hrr hax h hs) ?_)
    intro x a' w' hq
    cases x with
    | normal => obtain ⟨s', h1, h2⟩ := hq; exact ihy hY hrr hay h1 h2
    | exit id => exact hq
    | ret => exact hq
    | goto l => exact hq.elim
    | panic ch => exact hq.elim
    | outgrown => exact hq.elim
  | cond c x y ihx ihy =>
    intro Y0 c0 md rr ac Q s a w hY hrr hc h hs
    simp only [ccode] at hc
    split at hc <;> simp only [reduceCtorEq, Option.some.injEq] at hc
    rename_i ax ay hax hay
    subst hc
    simp only [awp] at h
    split at h
    · rename_i t ht
      obtain ⟨hN, Ds, hdf, hDs, cc, rfl, hm, hI, hE, hx0⟩ := hs
      have hcv := cx_ok (P := P) hE 0 c
      rw [ht] at hcv
      generalize hv : a.eval c = v at hcv
      cases hcv
      exact wpIn_cond_split hv (fun e => ihx hY hrr hax (h.1 e) ⟨hN, Ds, hdf, hDs, cc, rfl, hm, hI, hE, hx0⟩) (fun e => ihy hY hrr hay (h.2 e) ⟨hN, Ds, hdf, hDs, cc, rfl, hm, hI, hE, hx0⟩)
    · exact h.elim
  | block id c ih =>
    intro Y0 c0 md rr ac Q s a w hY hrr hc h hs
    simp only [ccode, Option.map_eq_some_iff] at hc
    obtain ⟨ax, hax, rfl⟩ := hc
    refine wpIn_block (wpIn_mono (ih hY hrr hax h hs) ?_)
    intro x a' w' hq
    cases x with
    | normal => exact hq
    | exit j =>
      obtain ⟨s', h1, h2⟩ := hq
      simp only [Exit.inBlock]
      simp only at h1
      split
      · rename_i e; rw [if_pos e] at h1; exact ⟨s', h1, h2⟩
      · rename_i e; rw [if_neg e] at h1; exact ⟨s', h1, h2⟩
    | ret => exact hq
    | goto l => exact hq.elim
    | panic ch => exact hq.elim
    | outgrown => exact hq.elim
  | loop c ih =>
    intro Y0 c0 md rr ac Q s a w hY hrr hc h hs
    simp only [ccode, Option.map_eq_some_iff] at hc
    obtain ⟨ax, hax, hac⟩ := hc
    by_cases hmd : md = .round
    · subst hmd
      subst hac
      obtain ⟨I, n, h1, h2⟩ := h
      refine wpIn_loop_ghost (fun k a w => ∃ s, I k s ∧ Sim Y0 S0 c0 .round N s a w) n ⟨s, h1, hs⟩ ?_
      rintro k a' w' ⟨s', hI, hs'⟩
      refine wpIn_mono (ih hY hrr hax (h2 k s' hI) hs') ?_
      intro x a2 w2 hq
      cases x with
      | normal => obtain ⟨s2, ⟨k', q1, q2⟩, q3⟩ := hq; exact ⟨k', q1, s2, q2, q3⟩
      | exit j => exact hq
      | ret => exact hq
      | goto l => exact hq.elim
      | panic ch => exact hq.elim
      | outgrown => exact hq.elim
    · have hac' : ac = .loop ax := by cases md <;> simp_all
      subst hac'
      obtain ⟨I, n, ⟨s0, h0, h1⟩, h2⟩ := h
      refine wpIn_loop_ghost (fun k a w => ∃ s, I k s ∧ Sim Y0 S0 c0 md N s a w) n ⟨s0, h1, hs.fgt hmd h0⟩ ?_
      rintro k a' w' ⟨s', hI, hs'⟩
      refine wpIn_mono (ih hY hrr hax (h2 k s' hI) hs') ?_
      intro x a2 w2 hq
      cases x with
      | normal => obtain ⟨s2, ⟨k', q1, s3, q2, q4⟩, q3⟩ := hq; exact ⟨k', q1, s3, q4, q3.fgt hmd q2⟩
      | exit j => exact hq
      | ret => exact hq
      | goto l => exact hq.elim
      | panic ch => exact hq.elim
      | outgrown => exact hq.elim
  | scope c ih =>
    intro Y0 c0 md rr ac Q s a w hY hrr hc h hs
    simp only [ccode] at hc
    refine wpIn_scope_straight (wpIn_mono (ih hY hrr hc h hs) ?_)
    intro x a' w' hq
    cases x with
    | goto l => exact hq.elim
    | _ => exact hq
  | goto l => intro Y0 c0 md rr ac Q s a w hY hrr hc h hs; simp [ccode] at hc
  | refuse why => intro Y0 c0 md rr ac Q s a w hY hrr hc h hs; simp [ccode] at hc
  | rangeFunc g ps x y ihx ihy =>
    intro Y0 c0 md rr ac Q s a w hY hrr hc h hs
    simp only [ccode] at hc
    split at hc <;> try (simp at hc; done)
    obtain rfl := hrr rfl
    split at hc <;> try (simp at hc; done)
    rename_i ax ay hax hay
    split at hc <;> simp only [reduceCtorEq, Option.some.injEq] at hc
    rename_i hps
    subst hc
    simp only [awp] at h
    split at h <;> try (exact h.elim)
    rename_i k caps hgx
    exact range_ok (fun {c0} {Y0} {l} {Q} {s} {a} {w} h1 h2 => ihx (Y0 := Y0) (c0 := c0) (md := .round) (rr := some l) (fun h => by cases h) (fun h => by cases h) hax h1 h2)
      (fun {c0} {Y0} {l} {Q} {s} {a} {w} h1 h2 => ihy (Y0 := Y0) (c0 := c0) (md := .round) (rr := some l) (fun h => by cases h) (fun h => by cases h) hay h1 h2) hps hgx h hs
  | region rid ops draw =>
    intro Y0 c0 md rr ac Q s a w hY hrr hc h hs
    simp only [ccode] at hc
    split at hc <;> try (simp at hc; done)
    rename_i l hl
    split at hc <;> try (simp at hc; done)
    rename_i hd
    obtain ⟨hN, Ds, hdf, hDs, c, rfl, hm, hI, hE, hx0⟩ := hs
    obtain ⟨hlen, hget⟩ := mapM_get hl
    have hls : l.length = ops.size := by simpa using hlen
    have hrem : ∀ j, j ∈ List.range ops.size ↔ j < ops.size ∧ (Array.replicate ops.size false).getD j true = false := by
      intro j
      simp only [List.mem_range]
      exact ⟨fun hj => ⟨hj, by simp [hj]⟩, fun h => h.1⟩
    have hcl : ∀ p o, (Array.replicate ops.size false).getD p false = true → ops[p]? = some o → ∀ e, e ∈ o.after → Region.binds .any e = true → (Array.replicate ops.size false).getD e.on false = true := by
      intro p o hp
      exfalso
      by_cases hpl : p < ops.size
      · simp [hpl] at hp
      · simp [hpl] at hp
    by_cases hmd : md = .it
    · subst hmd
      obtain rfl := hDs (by simp)
      have hK : ∀ a' c' e', a'.tmps.size = N → a'.defers = a.defers → Q .normal ⟨e', c'.m, s.nx + 1⟩ → InvS Y0 S0 c' → c.Ext c' → EnvOk c' e' a' → LQ Y0 S0 c0 .it N Q .normal a' c'.w :=
        fun a' c' e' q1 q2 q3 q4 q5 q6 => ⟨_, q3, q1, [], q2.trans hdf, fun _ => rfl, c', rfl, rfl, InvS.nil.2 q4, q6, hx0.trans' q5⟩
      cases draw with
      | false =>
        simp only [Bool.false_eq_true, if_false, Option.some.injEq] at hc
        subst hc
        obtain ⟨aT, aU, l1, l2, _, _, _, hr⟩ := ropsY_ok (all := l) l 0 s.e s.m [] rfl rfl h
        have hr0 : runK P rid s.nx l (getT aT) (getT aU) (List.range ops.size) s.e c.m (fun e' m' => Q .normal ⟨e', m', s.nx + 1⟩) := by
          rw [hm, ← hls]
          rw [range_list] at hr; exact runK_mono (fun e m hk => hk.elim (fun h => h.2) (fun h => h.2)) hr
        exact wpIn_region (wpOps_of_runK (hY rfl) hl hd (List.range ops.size) c s.e a (InvS.nil.1 hI) hE hN (fun i hi => List.mem_range.1 hi) hr0 hK)
      | true =>
        simp only [if_true] at hc
        split at hc <;> simp only [reduceCtorEq, Option.some.injEq] at hc
        rename_i hcond
        subst hc
        obtain ⟨aT, aU, l1, l2, _, ⟨_, _, hT⟩, ⟨_, _, hU⟩, hr⟩ := ropsY_ok (all := l) l 0 s.e s.m [] rfl rfl h
        have hr0 : runK P rid s.nx l (getT aT) (getT aU) (List.range ops.size) s.e c.m (fun e' m' => Q .normal ⟨e', m', s.nx + 1⟩) := by
          rw [hm, ← hls]
          rw [range_list] at hr; exact runK_mono (fun e m hk => hk.elim (fun h => h.2) (fun h => h.2)) hr
        obtain ⟨hb, hpT⟩ := pairs_of hcond.2 hT.1
        obtain ⟨_, hpU⟩ := pairs_of hcond.2 hU.1
        obtain ⟨hI2, hE2⟩ := (InvS.nil.1 hI).drew
        exact wpIn_region_any hcond.1 (runK_any (hY rfl) hl hd hb hpT hpU ops.size (Array.replicate ops.size false) (List.range ops.size) ⟨c.S, c.β, { c.w with drawn := c.w.drawn + 1 }, c.m⟩ s.e a (by simp) List.pairwise_lt_range hrem (by simp) hcl hI2 (hE.ext hE2) hN hr0
          (fun a' c' e' q1 q2 q3 q4 q5 q6 => hK a' c' e' q1 q2 q3 q4 (hE2.trans q5) q6))
    · have hK : ∀ e' m', Q .normal ⟨e', m', s.nx + 1⟩ → ∀ a' c', a'.tmps.size = N → a'.defers = a.defers → c'.m = m' → InvS (Ym Y0 Ds) S0 c' → c.Ext c' → EnvOk c' e' a' → LQ Y0 S0 c0 md N Q .normal a' c'.w :=
        fun e' m' q0 a' c' q1 q2 q3 q4 q5 q6 => ⟨_, q0, q1, Ds, q2.trans hdf, hDs, c', rfl, q3, q4, q6, hx0.trans' q5⟩
      cases draw with
      | false =>
        simp only [Bool.false_eq_true, if_false] at hc
        have hc' : ac = .region rid l := by cases md <;> simp_all
        subst hc'
        obtain ⟨T, e', m', hr, hk⟩ := rops_ok (all := l) l 0 s.e s.m rfl h
        have hr0 : runI P rid s.nx l T (List.range ops.size) s.e c.m e' m' := by
          rw [hm, ← hls]
          rw [range_list] at hr; exact hr
        exact wpIn_region (wpOps_of_runI hl hd (List.range ops.size) c s.e a e' m' hI hE hN (fun i hi => List.mem_range.1 hi) hr0 (hK e' m' hk))
      | true =>
        simp only [if_true] at hc
        split at hc <;> try (simp at hc; done)
        rename_i hcond
        have hc' : ac = .dregion rid l (ups ops) := by cases md <;> simp_all
        subst hc'
        obtain ⟨acc, e', m', hal, _, hr, hchk, hk⟩ := ropsD_ok (all := l) l 0 s.e s.m [] rfl rfl h
        have hr0 : runI P rid s.nx l (getT acc) (List.range ops.size) s.e c.m e' m' := by
          rw [hm, ← hls]
          rw [range_list] at hr; exact hr
        obtain ⟨hb, hp⟩ := pairs_of hcond.2 hchk
        obtain ⟨hI2, hE2⟩ := hI.drew
        exact wpIn_region_any hcond.1 (runI_any hl hd hb hp ops.size (Array.replicate ops.size false) (List.range ops.size) ⟨c.S, c.β, { c.w with drawn := c.w.drawn + 1 }, c.m⟩ s.e a e' m' (by simp) List.pairwise_lt_range hrem (by simp) hcl hI2 (hE.ext hE2) hN hr0
          (fun a' c' q1 q2 q3 q4 q5 q6 => hK e' m' hk a' c' q1 q2 q3 q4 (hE2.trans q5) q6))

end Go.Proofs.Ytpgkpdojpmikkaa.Eng

/-
  THE ENGINE, part 16: functions.
-/
import Derived.Test.YtpgkpdojpmikkaaE15
set_option linter.unusedVariables false
set_option linter.unusedSimpArgs false
namespace Go.Proofs.Ytpgkpdojpmikkaa.Eng
open Go Go.RowKit

/-! ### functions -/
/-- Where a result lies. -/
inductive ARes where
  | tmp (t : Nat)
  | cell (t : Nat) (z : Nat) (ag : Bool)

def cres (P : Program) : ResultVar → Option ARes
  | .tmp t => some (.tmp t)
  | .cell a T => match tz P T, tagg P T with
    | some z, some ag => some (.cell a z ag)
    | _, _ => none

def ARes.val (s : St) : ARes → Option AV
  | .tmp t => some (s.e t)
  | .cell t z ag => (eLoad z ag s.m (s.e t)).map (·.v)

def resV (s : St) (rs : List ARes) : Option AV := match rs.mapM (ARes.val s) with
  | some [v] => some v
  | some vs => some (.tup vs)
  | none => none

structure AFn where
  n : Nat
  res : List ARes
  body : ACode

def cfunM (P : Program) (md : Md) (fn : Func) : Option AFn := match fn.body, fn.results.toList.mapM (cres P) with
  | some c, some rs => if (fn.name == "runtime.NumGoroutine") = false then (ccode P fn.ntmps md c).map fun b => ⟨fn.ntmps, rs, b⟩ else none
  | _, _ => none

def cfun (P : Program) (fn : Func) : Option AFn := cfunM P .fn fn
def cfunI (P : Program) (fn : Func) : Option AFn := cfunM P .it fn

def argE (args : List AV) : AEnv := fun i => args.getD i .undef

theorem resval_ok {P : Program} {w0 : Gd} {S0 : Nat → Nat → Prop} {s : St} {a : Act} {c : Cx} (hm : c.m = s.m) (hI : Inv w0 S0 c) (hE : EnvOk c s.e a) {r : ResultVar} {ar : ARes} (hc : cres P r = some ar) {x : AV} (h : ar.val s = some x) :
    ∃ v, (match r with | .tmp t => pure (a.tmps.getD t undef) | .cell ad t => do loadVar t (← asAddr (a.tmps.getD ad undef)) : Sem Value).run P c.w = .ok v c.w ∧ Rep c x v := by
  cases r with
  | tmp t =>
    simp only [cres, Option.some.injEq] at hc
    subst hc
    simp only [ARes.val, Option.some.injEq] at h
    subst h
    exact ⟨_, rfl, hE t⟩
  | cell ad T =>
    simp only [cres] at hc
    split at hc <;> simp only [reduceCtorEq, Option.some.injEq] at hc
    rename_i z ag hz hag
    subst hc
    simp only [ARes.val, Option.map_eq_some_iff] at h
    obtain ⟨f, hf, rfl⟩ := h
    rw [← hm] at hf
    have hr := hE ad
    have hf' : effLoad P T c.m (s.e ad) = some f := by
      simp only [effLoad, hz, hag]
      simp only [eLoad] at hf
      cases hrd : rdRow c.m (s.e ad) with
      | none => simp [hrd] at hf
      | some cs => simpa [hrd] using hf
    have hws : f.ws = [] := by
      simp only [eLoad] at hf
      split at hf <;> try (simp at hf; done)
      split at hf <;> try (simp at hf; done)
      simp only [Option.map_eq_some_iff] at hf
      obtain ⟨v, _, rfl⟩ := hf
      rfl
    cases hrd : rdRow c.m (s.e ad) with
    | none => simp [eLoad, hrd] at hf
    | some cs =>
      obtain ⟨b, o, vs, hv, _⟩ := rdRow_ok hI hr hrd
      -- a load leaves the world as it is
      obtain ⟨v, c', h1, h2, h3, h4, h5⟩ := effLoad_ok (P := P) hI hr hf'
      have hw : c'.w = c.w ∧ Rep c f.v v := by
        unfold effLoad at hf'
        simp only [hz, hag, hrd] at hf'
        split at hf' <;> try (simp at hf'; done)
        rename_i hle
        obtain ⟨b2, o2, vs2, hv2, hcell⟩ := rdRow_ok hI hr hrd
        have hlen : (cs.take z).length = z := by simp; omega
        have hget : ∀ j u, ((List.range z).map vs2)[j]? = some u → c.w.cell? ((⟨b2, o2, none⟩ : Addr).add j) = some u := by
          intro j u hu
          have hj : j < z := by have := (List.getElem?_eq_some_iff.1 hu).1; simpa using this
          simp only [List.getElem?_map, List.getElem?_range hj, Option.map_some, Option.some.injEq] at hu
          subst hu
          rw [Addr.add_lit]
          exact (hcell j cs[j] (List.getElem?_eq_getElem (by omega))).1
        have hL := run_loadVar' (P := P) hz hag c.w ⟨b2, o2, none⟩ _ (by simp) hget
        have hrep : RepL c (cs.take z) ((List.range z).map vs2) := by
          have := RepL.of_rows (c := c) (cs := cs.take z) (vs := vs2) (fun j a ha => (hcell j a (by rw [List.getElem?_take] at ha; split at ha; exact ha; simp at ha)).2.2)
          rwa [hlen] at this
        cases ag with
        | true =>
          simp only [mkv, if_true, Option.map_some, Option.some.injEq] at hf'
          subst hf'
          rw [hv2] at h1
          simp only [Instr.loadAt, Instr.sureAddr, pure_bind, hL.1 rfl, Result.ok.injEq] at h1
          exact ⟨h1.2.symm, by rw [← h1.1]; exact .agg _ _ (by simp; omega) (fun i a v h1 h2 => hrep.2 i a v h1 (by simpa using h2))⟩
        | false =>
          simp only [mkv, Bool.false_eq_true, if_false] at hf'
          split at hf' <;> try (simp at hf'; done)
          rename_i x hx
          simp only [Option.map_some, Option.some.injEq] at hf'
          subst hf'
          obtain ⟨u, r, hu, q1, q2⟩ := (hx ▸ hrep).cons_inv
          rw [q2.nil_inv] at hu
          rw [hv2] at h1
          simp only [Instr.loadAt, Instr.sureAddr, pure_bind, hL.2 rfl u hu, Result.ok.injEq] at h1
          exact ⟨h1.2.symm, by rw [← h1.1]; exact q1⟩
      refine ⟨v, ?_, hw.2⟩
      rw [hw.1] at h1
      dsimp only
      rw [hv] at h1 ⊢
      simp only [asAddr, pure_bind]
      simpa [Instr.loadAt, Instr.sureAddr] using h1

theorem resV_ok {P : Program} {w0 : Gd} {S0 : Nat → Nat → Prop} {fn : Func} {rs : List ARes} (hrs : fn.results.toList.mapM (cres P) = some rs) {s : St} {a : Act} {c : Cx} (hm : c.m = s.m) (hI : Inv w0 S0 c) (hE : EnvOk c s.e a) {x : AV} (h : resV s rs = some x) :
    ∃ v, (results fn a.tmps).run P c.w = .ok v c.w ∧ Rep c x v := by
  have key : ∀ (l : List ResultVar) (ls : List ARes) (xs : List AV), l.mapM (cres P) = some ls → ls.mapM (ARes.val s) = some xs →
      ∃ vs, (l.mapM fun (r : ResultVar) => (match r with | .tmp t => pure (a.tmps.getD t undef) | .cell ad t => do loadVar t (← asAddr (a.tmps.getD ad undef)) : Sem Value)).run P c.w = .ok vs c.w ∧ RepL c xs vs := by
    intro l
    induction l with
    | nil => intro ls xs h1 h2; simp at h1; subst h1; simp at h2; subst h2; exact ⟨[], by simp, RepL.nil c⟩
    | cons r l ih =>
      intro ls xs h1 h2
      simp only [List.mapM_cons, bind, Option.bind_eq_some_iff, pure, Option.some.injEq] at h1
      obtain ⟨ar, q1, ls', q2, rfl⟩ := h1
      simp only [List.mapM_cons, bind, Option.bind_eq_some_iff, pure, Option.some.injEq] at h2
      obtain ⟨y, q3, ys, q4, rfl⟩ := h2
      obtain ⟨v, q5, q6⟩ := resval_ok hm hI hE q1 q3
      obtain ⟨vs, q7, q8⟩ := ih ls' ys q2 q4
      exact ⟨v :: vs, by simp only [List.mapM_cons, Sem.run_bind, q5, q7, Result.andThen_ok, Sem.run_pure], RepL.cons q6 q8⟩
  unfold resV at h
  have hrun : ∀ vs : List Value, (fn.results.toList.mapM fun (r : ResultVar) => (match r with | .tmp t => pure (a.tmps.getD t undef) | .cell ad t => do loadVar t (← asAddr (a.tmps.getD ad undef)) : Sem Value)).run P c.w = .ok vs c.w →
      (results fn a.tmps).run P c.w = .ok (if h : vs.length = 1 then vs[0] else .tuple vs.toArray) c.w := by
    intro vs hvs
    unfold results
    rw [← Array.toArray_toList (xs := fn.results), List.mapM_toArray]
    simp only [Sem.run_bind, Sem.run_map]
    refine (congrArg (fun (r : Result (List Value)) => (r.andThen fun a w' => Result.ok a.toArray w').andThen fun (a : Array Value) w' => Sem.run P (pure (if h : a.size = 1 then a[0] else Value.tuple a)) w') hvs).trans ?_
    simp [Result.andThen]
  split at h <;> simp only [reduceCtorEq, Option.some.injEq] at h
  · rename_i v hv
    subst h
    obtain ⟨vs, h1, h2⟩ := key _ _ _ hrs hv
    obtain ⟨u, us, rfl, h3, h4⟩ := h2.cons_inv
    have := h4.nil_inv; subst this
    exact ⟨u, by rw [hrun _ h1]; rfl, h3⟩
  · rename_i vs' hne hv
    subst h
    obtain ⟨vs, h1, h2⟩ := key _ _ _ hrs hv
    refine ⟨.tuple vs.toArray, ?_, .tup _ _ (by simpa using h2.1) (fun i a v q1 q2 => h2.2 i a v q1 (by simpa using q2))⟩
    rw [hrun _ h1, dif_neg]
    intro hl
    rw [h2.1] at hl
    obtain ⟨y, rfl⟩ := List.length_eq_one_iff.1 hl
    exact hne y rfl


theorem argE_ok {c : Cx} {args : List AV} {vs : List Value} (hvs : RepL c args vs) {N : Nat} (hn : args.length ≤ N) : EnvOk c (argE args) { tmps := vs.toArray ++ Array.replicate (N - vs.toArray.size) undef, defers := [] } := by
  intro i
  have hvl : vs.length = args.length := hvs.1
  by_cases hi : i < args.length
  · have e1 : argE args i = args[i] := by simp [argE, hi]
    have e2 : (vs.toArray ++ Array.replicate (N - vs.toArray.size) undef).getD i undef = vs[i]'(by omega) := by
      have : i < vs.length := by omega
      simp [Array.getD_eq_getD_getElem?, Array.getElem?_append, this]
    show Rep _ (argE args i) ((vs.toArray ++ Array.replicate (N - vs.toArray.size) undef).getD i undef)
    rw [e1, e2]
    exact hvs.2 i _ _ (List.getElem?_eq_getElem hi) (List.getElem?_eq_getElem (by omega))
  · have e1 : argE args i = .undef := by simp [argE, hi]
    show Rep _ (argE args i) _
    rw [e1]; exact .undef _

/-- The marks are taken off. -/
theorem leaves_marks {P : Program} {fn : Func} {tmps : Array Value} {R : Ending → World → Prop} {Y0 : Gd → Prop} {S0 : Nat → Nat → Prop} : ∀ (Ds : List Nat) (c : Cx), InvS (Ym Y0 Ds) S0 c →
    (∀ c' : Cx, InvS Y0 S0 c' → c'.m = c.m → c.Ext c' → ∃ v, (results fn tmps).run P c'.w = .ok v c'.w ∧ R (.returned v) c'.w) → LeavesInM (Fr none) 0 P fn tmps R (Ds.map mkD) .returning c.w
  | [], c, hI, h => by
    obtain ⟨v, h1, h2⟩ := h c (InvS.nil.1 hI) rfl (.refl c)
    exact ⟨v, h1, h2⟩
  | D :: Ds, c, ⟨G, ⟨G0, hY, hnd, hD, hG⟩, hi⟩, h => by
    subst hG
    have hd : c.w.heap[D]? = some (.deferred (some [])) := hi.q.2
    obtain ⟨h1, h2⟩ := hi.move (G' := G0.marks Ds) (c.w.putObj D (.deferred none)) (by simp)
      (fun i k hk hy => ⟨World.putObj_heap_other (fun e => (hi.blk i k hk hy).base (.inr e)), fun hp => (hi.blk i k hk hy).base (.inl hp)⟩)
      (fun b o hb => ⟨by
        by_cases e : b = D
        · subst e
          have hlt := (Array.getElem?_eq_some_iff.1 hd).1
          have := World.putObj_heap_same (o := .deferred none) hlt
          simp [World.cell?, hd, this]
        · exact cell_same (World.putObj_heap_other e) o, by
        rcases hi.sn b o hb with h | h
        · exact .inl h
        · exact .inr (fun hp => h (.inl hp))⟩)
      ((G0.marks Ds).cl _ c.w _ hi.q.1 rfl rfl rfl (by simp) (fun b hb => World.putObj_heap_other (fun e => by
        subst e
        rcases Gd.marks_prot.1 hb with h | h
        · exact hD b (by simp) h
        · simp at hnd; exact hnd.1 h)))
    refine ⟨by simp, .inl ⟨D, _, rfl, run_takeDeferred hd, ?_⟩⟩
    exact leaves_marks Ds ⟨c.S, c.β, c.w.putObj D (.deferred none), c.m⟩ ⟨G0.marks Ds, ⟨G0, hY, by simp at hnd; exact hnd.2, fun D' hD' => hD D' (by simp [hD']), rfl⟩, h1⟩
      (fun c' q1 q2 q3 => h c' q1 q2 (h2.trans q3))

/-- A function does what its abstract code does. -/
theorem fun_run {P : Program} {f : FuncId} {fn : Func} {af : AFn} {md : Md} (hmd : md ≠ .round) (hf : P.funcs[f]? = some fn) (hc : cfunM P md fn = some af) {Y0 : Gd → Prop} {S0 : Nat → Nat → Prop} (hY : md = .it → YOk P Y0 S0) {c0 : Cx} (hI0 : InvS Y0 S0 c0)
    {args : List AV} {R : Ending → World → Prop} (hn : args.length ≤ af.n) {vs : List Value} (hvs : RepL c0 args vs) {nx : Nat} {Q : St → AV → Prop}
    (h : awp P af.body (fun x s => (match x with | .exit _ => False | _ => True) ∧ ∃ x, resV s af.res = some x ∧ Q s x) ⟨argE args, c0.m, nx⟩)
    (hR : ∀ s x v c, c.m = s.m → InvS Y0 S0 c → c0.ExtM md c → Rep c x v → Q s x → R (.returned v) c.w) : Calls P f vs.toArray c0.w R := by
  unfold cfunM at hc
  split at hc <;> try (simp at hc; done)
  rename_i code rs hbody hrs
  split at hc <;> try (simp at hc; done)
  rename_i hname
  simp only [Option.map_eq_some_iff] at hc
  obtain ⟨b, hb, rfl⟩ := hc
  have hvl : vs.length = args.length := hvs.1
  have hn' : args.length ≤ fn.ntmps := hn
  have hS0 : Sim Y0 S0 c0 md fn.ntmps ⟨argE args, c0.m, nx⟩ { tmps := vs.toArray ++ Array.replicate (fn.ntmps - vs.toArray.size) undef, defers := [] } c0.w :=
    ⟨by simp; omega, [], rfl, fun _ => rfl, c0, rfl, rfl, InvS.nil.2 hI0, argE_ok hvs hn', (Cx.Ext.refl c0).M _⟩
  refine (callsIn_fr (r := none) (n := 0)).1 (callsIn_of_wp_marks hf hbody trivial (wpIn_mono (awp_ok code hY (fun _ => rfl) hb h hS0) ?_))
  have fin : ∀ s a w', (∃ x, resV s rs = some x ∧ Q s x) → Sim Y0 S0 c0 md fn.ntmps s a w' → LeavesInM (Fr none) 0 P fn a.tmps R a.defers .returning w' := by
    rintro s a w' ⟨x, hx, hp⟩ ⟨hN, Ds, hdf, _, c, rfl, hm, hI, hE, hx0⟩
    rw [hdf]
    refine leaves_marks Ds c hI (fun c' q1 q2 q3 => ?_)
    obtain ⟨G, hG, hi⟩ := q1
    obtain ⟨v, h1, h2⟩ := resV_ok hrs (q2.trans hm) hi (hE.ext q3) hx
    exact ⟨v, h1, hR s x v c' (q2.trans hm) ⟨G, hG, hi⟩ (hx0.trans' q3) h2 hp⟩
  intro x a w' hq
  cases x with
  | normal => obtain ⟨s, ⟨_, h1⟩, h2⟩ := hq; exact fin s a w' h1 h2
  | ret => obtain ⟨s, ⟨_, h1⟩, h2⟩ := hq; exact fin s a w' h1 h2
  | exit id => obtain ⟨s, ⟨h1, _⟩, _⟩ := hq; exact h1.elim
  | goto l => exact hq.elim
  | panic ch => exact hq.elim
  | outgrown => exact hq.elim

theorem bodied_of {P : Program} {f : FuncId} {fn : Func} {af : AFn} {md : Md} (hf : P.funcs[f]? = some fn) (hc : cfunM P md fn = some af) : Bodied P f := by
  unfold cfunM at hc
  split at hc <;> try (simp at hc; done)
  rename_i code rs hbody hrs
  split at hc <;> try (simp at hc; done)
  rename_i hname
  exact ⟨fn, hf, hname, by simp [hbody]⟩

/-- The world as a function finds it. -/
def startC (S : Nat → Nat → Prop) (w : World) : Cx := ⟨S, fun _ => 0, w, fun _ => none⟩
theorem startI {S : Nat → Nat → Prop} {w : World} (hdom : ∀ b o, S b o → b < w.heap.size) : Inv (.of w) S (startC S w) :=
  ⟨fun i k h => by simp [startC] at h, fun i k o h => by simp [startC] at h, fun i j k l h => by simp [startC] at h, hdom, fun b o h => h, fun b o h => .inl h, fun k h => by simp [startC] at h, rfl, Below.refl _ _⟩

theorem fun_ok {P : Program} {f : FuncId} {fn : Func} {af : AFn} (hf : P.funcs[f]? = some fn) (hc : cfun P fn = some af) {args : List AV} {r : AV} (hn : args.length ≤ af.n)
    (h : awp P af.body (fun x s => (match x with | .exit _ => False | _ => True) ∧ ∃ x, resV s af.res = some x ∧ pur s.m x = some r) ⟨argE args, fun _ => none, 0⟩) : PureC P f args r := by
  refine ⟨bodied_of hf hc, fun S w vs hdom hvs => fun_run (c0 := startC S w) (Y0 := (· = Gd.of w)) (by simp) hf hc (fun h => by cases h) ⟨_, rfl, startI hdom⟩ hn hvs h ?_⟩
  rintro s x v c hm ⟨_, rfl, hI⟩ _ h2 hp
  refine ⟨v, rfl, hI.q.2, ?_⟩
  rw [← hm] at hp
  have := pur_ok hI x.refs h2 hp (fun b hb => hb)
  obtain ⟨hIs, _⟩ := hI.share x.refs
  have hx : Cx.Ext (c.share x.refs).bare ⟨fun b o => S b o ∨ (w.heap.size ≤ b ∧ b < c.w.heap.size), fun _ => 0, c.w, fun _ => none⟩ := by
    refine ⟨fun b o hbo => ⟨?_, rfl⟩, fun i k h => by simp [Cx.bare] at h, .refl _⟩
    rcases hIs.sn b o hbo with h | h
    · exact .inl h
    · exact .inr ⟨Nat.le_of_not_lt h, hIs.sdom b o hbo⟩
  exact Rep.ext hx this

/-- What a function returns that is nobody else's. -/
theorem fun_own {P : Program} {f : FuncId} {fn : Func} {af : AFn} (hf : P.funcs[f]? = some fn) (hc : cfun P fn = some af) {args : List AV} {z : Nat} {rows : List (List AV)} (hn : args.length ≤ af.n) (hz : 0 < z) (hrf : rfR rows = true)
    (h : awp P af.body (fun x s => (match x with | .exit _ => False | _ => True) ∧ ∃ x, resV s af.res = some x ∧ ∃ b, x = .own b rows.length ∧ s.m b = some ⟨z, rows, true⟩) ⟨argE args, fun _ => none, 0⟩) : OwnC P f args z rows := by
  refine ⟨bodied_of hf hc, hz, hrf, fun S w vs hdom hvs => fun_run (c0 := startC S w) (Y0 := (· = Gd.of w)) (by simp) hf hc (fun h => by cases h) ⟨_, rfl, startI hdom⟩ hn hvs h ?_⟩
  rintro s x v c hm ⟨_, rfl, hI⟩ _ h2 ⟨b, rfl, hb⟩
  rw [← hm] at hb
  have hby := hI.ney hb hz
  have hx : ∀ g o, c.S g o → c.S g o ∧ c.w.cell? ⟨g, o, none⟩ = c.w.cell? ⟨g, o, none⟩ := fun g o h => ⟨h, rfl⟩
  have hone : ∀ {i k}, oneM (0, 1) ⟨z, rows, true⟩ i = some k → i = (0, 1) ∧ k = ⟨z, rows, true⟩ := fun {i k} hk => by
    simp only [oneM] at hk
    split at hk <;> simp only [reduceCtorEq, Option.some.injEq] at hk
    rename_i e
    exact ⟨e, hk.symm⟩
  refine ⟨v, ⟨c.S, fun _ => c.β b, c.w, oneM (0, 1) ⟨z, rows, true⟩⟩, rfl, rfl, rfl, ⟨fun i k hk hy => ?_, fun i k o hk hy => ?_, fun i j k l h1 h2 _ _ _ => ?_, hI.sdom, hI.s0, hI.sn, fun k hk => ?_, ?_⟩, ?_⟩
  · obtain ⟨rfl, rfl⟩ := hone hk
    have hB := hI.blkC hb hz
    obtain ⟨cs, T, cap, hg, hcs, hl, hcell⟩ := hB.cells
    refine ⟨hB.base, fun _ => hB.len, fun _ => ⟨cs, T, cap, hg, hcs, hl, fun p j r a hr ha => ?_⟩, fun h0 => absurd h0 (Nat.ne_of_gt hz)⟩
    obtain ⟨u, h1, h2, h3⟩ := hcell p j r a hr ha
    exact ⟨u, h1, h2, Rep.rf (c' := ⟨c.S, fun _ => c.β b, c.w, oneM (0, 1) ⟨z, rows, true⟩⟩) hx h3 (rfL_mem (rfR_mem hrf hr) ha)⟩
  · obtain ⟨rfl, rfl⟩ := hone hk
    exact hI.excl b _ o hb hby
  · exact (hone h1).1.trans (hone h2).1.symm
  · have hk' : oneM (0, 1) ⟨z, rows, true⟩ yB = some k := hk
    have := (hone hk').1; simp [yB] at this
  · refine ⟨by simp [oneM, yB], hI.q.2⟩
  · generalize hrv : AV.own b rows.length = x at h2
    cases h2 with
    | own i n cap' k hm' hz' hn hroom =>
      cases hrv
      rw [hb] at hm'
      cases hm'
      exact Rep.own (c := ⟨c.S, fun _ => c.β b, c.w, oneM (0, 1) ⟨z, rows, true⟩⟩) (0, 1) rows.length cap' ⟨z, rows, true⟩ (by simp [oneM]) hz rfl hroom
    | ownOld i n k v hm' hz' hn =>
      cases hrv
      rw [hb] at hm'
      cases hm'
      simp at hn
    | _ => cases hrv

/-- What is said of an iterator's world: what is still to come, and the caller's part. -/
def itQ (l : Nat) (vals : List (List AV)) (J Jx : Nat → (Nat → Prop) → World → Prop) (p : Nat → Prop) (y : Option (List (List AV))) (w : World) : Prop :=
  (∀ b, p b → b < w.heap.size) ∧ ((∃ i, i ≤ vals.length ∧ y = some ([.int .i64 l] :: vals.drop i) ∧ J i (fun b => b < w.heap.size ∧ ¬ p b) w) ∨ (∃ i, i ≤ vals.length ∧ y = some [[]] ∧ Jx i (fun b => b < w.heap.size ∧ ¬ p b) w))

def itG (l : Nat) (vals : List (List AV)) (J Jx : Nat → (Nat → Prop) → World → Prop)
    (hJ : ∀ i T A A', J i T A → A'.os = A.os → A'.tape = A.tape → A'.output = A.output → A.heap.size ≤ A'.heap.size → (∀ b, b < A.heap.size → ¬ T b → A'.heap[b]? = A.heap[b]?) → J i (fun b => T b ∨ (A.heap.size ≤ b ∧ b < A'.heap.size)) A')
    (hJx : ∀ i T A A', Jx i T A → A'.os = A.os → A'.tape = A.tape → A'.output = A.output → A.heap.size ≤ A'.heap.size → (∀ b, b < A.heap.size → ¬ T b → A'.heap[b]? = A.heap[b]?) → Jx i (fun b => T b ∨ (A.heap.size ≤ b ∧ b < A'.heap.size)) A')
    (p : Nat → Prop) : Gd where
  prot := p
  Q := itQ l vals J Jx p
  lt _ _ h := h.1
  cl y w w' h h1 h2 h3 h4 h5 := by
    have hT : (fun b => (b < w.heap.size ∧ ¬ p b) ∨ (w.heap.size ≤ b ∧ b < w'.heap.size)) = (fun b => b < w'.heap.size ∧ ¬ p b) := by
      funext b
      apply propext
      constructor
      · rintro (⟨q1, q2⟩ | ⟨q1, q2⟩)
        · exact ⟨by omega, q2⟩
        · exact ⟨q2, fun hp => by have := h.1 b hp; omega⟩
      · rintro ⟨q1, q2⟩
        by_cases hb : b < w.heap.size
        · exact .inl ⟨hb, q2⟩
        · exact .inr ⟨by omega, q1⟩
    have hk : ∀ b, b < w.heap.size → ¬ (b < w.heap.size ∧ ¬ p b) → w'.heap[b]? = w.heap[b]? := fun b hb hn => h5 b (Classical.byContradiction fun hp => hn ⟨hb, hp⟩)
    refine ⟨fun b hb => Nat.lt_of_lt_of_le (h.1 b hb) h4, ?_⟩
    rcases h.2 with ⟨i, hi, hy, hj⟩ | ⟨i, hi, hy, hj⟩
    · exact .inl ⟨i, hi, hy, by rw [← hT]; exact hJ _ _ _ _ hj h1 h2 h3 h4 hk⟩
    · exact .inr ⟨i, hi, hy, by rw [← hT]; exact hJx _ _ _ _ hj h1 h2 h3 h4 hk⟩

theorem Rep.scalAny {c : Cx} {a : List AV} {vs : List Value} (h : RepL c a vs) (hs : scalL a = true) : ∀ c', RepL c' a vs :=
  fun c' => ⟨h.1, fun i x v hx hv => (h.2 i x v hx hv).scal (scalL_mem hs hx)⟩

/-- An iterator's contract. -/
theorem fun_iter {P : Program} {f : FuncId} {fn : Func} {af : AFn} (hf : P.funcs[f]? = some fn) (hc : cfunI P fn = some af) {caps : List AV} {vals : List (List AV)} (hn : caps.length + 1 ≤ af.n)
    (h : ∀ l : Nat, awp P af.body (fun x s => (match x with | .exit _ => False | _ => True) ∧ ∃ x, resV s af.res = some x ∧ ((∃ s0, s.m yB = some ⟨0, [[.int .i64 l]], s0⟩) ∨ (∃ s0, s.m yB = some ⟨0, [[]], s0⟩))) ⟨argE (.yld l :: caps), oneM yB ⟨0, [.int .i64 l] :: vals, true⟩, 0⟩) : IterC P f caps vals := by
  refine ⟨bodied_of hf hc, fun S w cv l J Jx hdom hcv hJ hJx hround hJ0 => ?_⟩
  obtain ⟨c0, hc0⟩ : ∃ c0 : Cx, c0 = ⟨S, fun _ => 0, w, oneM yB ⟨0, [.int .i64 l] :: vals, true⟩⟩ := ⟨_, rfl⟩
  have hone : ∀ {i k}, c0.m i = some k → i = yB ∧ k = ⟨0, [.int .i64 l] :: vals, true⟩ := fun {i k} hk => by
    rw [hc0] at hk
    simp only [oneM] at hk
    split at hk <;> simp only [reduceCtorEq, Option.some.injEq] at hk
    rename_i e
    exact ⟨e, hk.symm⟩
  have hw0 : c0.w = w := by rw [hc0]
  have hQ0 : itQ l vals J Jx (fun b => b < w.heap.size) ((c0.m yB).map (·.rows)) w := by
    refine ⟨fun b hb => hb, .inl ⟨0, Nat.zero_le _, by rw [hc0]; simp [oneM], ?_⟩⟩
    have : (fun b => b < w.heap.size ∧ ¬ b < w.heap.size) = (fun _ => False) := by funext b; simp
    rw [this]; exact hJ0
  have hI0 : InvS (fun G => ∃ p, G = itG l vals J Jx hJ hJx p) S c0 := ⟨_, ⟨_, rfl⟩,
    ⟨fun i k hk hy => absurd (hone hk).1 hy, fun i k o hk hy => absurd (hone hk).1 hy, fun i j k l' h1 h2 hy => absurd (hone h1).1 hy, by rw [hc0]; exact hdom, by rw [hc0]; exact fun b o h => h, by rw [hc0]; exact fun b o h => .inl h, fun k hk => by rw [(hone hk).2], by rw [hw0]; exact hQ0⟩⟩
  have hYOk : YOk P (fun G => ∃ p, G = itG l vals J Jx hJ hJx p) S := by
    rintro l' c a rest s vs ⟨G, ⟨p, rfl⟩, hi⟩ hm hsc hvs
    have hq := hi.q
    rw [hm] at hq
    obtain ⟨hlt, hq⟩ := hq
    rcases hq with ⟨i, hil, hy, hj⟩ | ⟨i, hil, hy, hj⟩
    · simp only [Option.map_some, Option.some.injEq, List.cons.injEq, AV.int.injEq, true_and, and_true, Int.natCast_inj] at hy
      obtain ⟨rfl, hdrop⟩ := hy
      have hv : vals[i]? = some a := by
        have := congrArg (·[0]?) hdrop
        simpa using this.symm
      have hlen : i < vals.length := (List.getElem?_eq_some_iff.1 hv).1
      have hrest : rest = vals.drop (i + 1) := by
        have := congrArg (·.drop 1) hdrop
        simpa [List.drop_drop] using this
      obtain ⟨fid, tmps, assign, body, hyl, hR⟩ := hround i _ c.w a vs hj hv (Rep.scalAny hvs hsc)
      refine ⟨fid, tmps, assign, body, hyl, hR.mono ?_⟩
      rintro e A' ⟨⟨k1, k2, k3⟩, hcase⟩
      obtain ⟨p', hp'⟩ : ∃ p' : Nat → Prop, p' = fun b => b < A'.heap.size ∧ ¬ (b < c.w.heap.size ∧ ¬ p b) := ⟨_, rfl⟩
      have hT' : (fun b => b < A'.heap.size ∧ ¬ p' b) = (fun b => b < c.w.heap.size ∧ ¬ p b) := by
        funext b
        rw [hp']
        apply propext
        constructor
        · rintro ⟨q1, q2⟩
          exact Classical.byContradiction fun h => q2 ⟨q1, h⟩
        · rintro ⟨q1, q2⟩
          exact ⟨by omega, fun h => h.2 ⟨q1, q2⟩⟩
      have hnp : ∀ b, b < c.w.heap.size → ¬ p b → ¬ p' b := fun b hb hpb => by rw [hp']; exact fun h => h.2 ⟨hb, hpb⟩
      have build : ∀ rows, itQ l' vals J Jx p' (some rows) A' → ∃ c', c'.w = A' ∧ c'.m = updB c.m yB (some ⟨0, rows, s⟩) ∧ InvS (fun G => ∃ p, G = itG l' vals J Jx hJ hJx p) S c' ∧ c.Ext c' := by
        intro rows hQ'
        have hcell : ∀ b o, c.S b o → A'.cell? ⟨b, o, none⟩ = c.w.cell? ⟨b, o, none⟩ := fun b o hb => by
          rcases hi.sn b o hb with h | h
          · exact k3 b o h
          · exact cell_same (k2 b ⟨hi.sdom b o hb, h⟩) o
        have hx : c.Ext ⟨c.S, c.β, A', updB c.m yB (some ⟨0, rows, s⟩)⟩ := by
          refine ⟨fun b o hb => ⟨hb, hcell b o hb⟩, fun j k hk => ?_, ⟨k1, fun _ _ _ h => by cases h⟩⟩
          by_cases e : j = yB
          · subst e
            rw [hm] at hk; cases hk
            exact ⟨⟨0, rows, s⟩, by simp, rfl, fun _ => rfl, fun h => absurd h (Nat.lt_irrefl 0)⟩
          · refine ⟨k, by simp [updB, e, hk], rfl, fun _ => rfl, fun _ => ⟨Nat.le_refl _, fun _ => ⟨rfl, fun cap hr => ?_⟩⟩⟩
            obtain ⟨cs, T, hg, hs⟩ := hr
            have hb := hi.blk j k hk e
            exact ⟨cs, T, (k2 _ ⟨hb.lt, hb.base⟩).trans hg, hs⟩
        have hupd : ∀ {j k}, updB c.m yB (some ⟨0, rows, s⟩) j = some k → j ≠ yB → c.m j = some k := fun {j k} hk hne => by simpa [updB, hne] using hk
        refine ⟨⟨c.S, c.β, A', updB c.m yB (some ⟨0, rows, s⟩)⟩, rfl, rfl, ⟨_, ⟨p', rfl⟩, ⟨fun j k hk hy => ?_, fun j k o hk hy => hi.excl j k o (hupd hk hy) hy, fun j1 j2 q1 q2 h1 h2 y1 y2 => hi.inj j1 j2 q1 q2 (hupd h1 y1) (hupd h2 y2) y1 y2, fun b o hb => Nat.lt_of_lt_of_le (hi.sdom b o hb) k1, hi.s0, fun b o hb => ?_, fun k hk => ?_, ?_⟩⟩, hx⟩
        · have hb := hi.blk j k (hupd hk hy) hy
          exact hb.ext hx (hnp _ hb.lt hb.base) (k2 _ ⟨hb.lt, hb.base⟩)
        · rcases hi.sn b o hb with h | h
          · exact .inl h
          · exact .inr (hnp b (hi.sdom b o hb) h)
        · simp at hk; rw [← hk]
        · simp only [updB_same, Option.map_some]; exact hQ'
      have hlt' : ∀ b, p' b → b < A'.heap.size := fun b hb => by rw [hp'] at hb; exact hb.1
      rcases hcase with ⟨rfl, hj'⟩ | ⟨rfl, hj'⟩
      · exact .inl ⟨rfl, build _ ⟨hlt', .inl ⟨i + 1, hlen, by rw [hrest], by rw [hT']; exact hj'⟩⟩⟩
      · exact .inr ⟨rfl, build _ ⟨hlt', .inr ⟨i + 1, hlen, rfl, by rw [hT']; exact hj'⟩⟩⟩
    · simp at hy
  have hargs : RepL c0 (.yld l :: caps) (.func (.yield l) #[] #[] :: cv) := by
    refine RepL.cons (.yld l) (hcv.ext ⟨fun b o hb => ⟨by rw [hc0]; exact hb, by rw [hw0]⟩, fun i k h => by simp at h, ⟨by rw [hw0]; exact Nat.le_refl _, fun _ _ _ h => by cases h⟩⟩)
  have hst : (⟨argE (.yld l :: caps), oneM yB ⟨0, [.int .i64 l] :: vals, true⟩, 0⟩ : St) = ⟨argE (.yld l :: caps), c0.m, 0⟩ := by rw [hc0]
  have hl := h l
  rw [hst] at hl
  rw [← hw0]
  refine fun_run (Q := fun s _ => (∃ s0, s.m yB = some ⟨0, [[.int .i64 l]], s0⟩) ∨ (∃ s0, s.m yB = some ⟨0, [[]], s0⟩)) (by simp) hf hc (fun _ => hYOk) hI0 (by simpa using hn) hargs hl ?_
  rintro s x v c hm ⟨G, ⟨p, rfl⟩, hi⟩ _ _ hq
  refine ⟨v, rfl, fun b => b < c.w.heap.size ∧ ¬ p b, ?_⟩
  obtain ⟨_, hQ⟩ := hi.q
  rw [hm] at hQ
  rcases hq with ⟨s0, hy⟩ | ⟨s0, hy⟩
  · rcases hQ with ⟨i, hil, hyy, hj⟩ | ⟨i, hil, hyy, hj⟩
    · rw [hy] at hyy
      simp at hyy
      have : i = vals.length := by omega
      subst this
      exact .inl hj
    · rw [hy] at hyy; simp at hyy
  · rcases hQ with ⟨i, hil, hyy, hj⟩ | ⟨i, hil, hyy, hj⟩
    · rw [hy] at hyy; simp at hyy
    · exact .inr ⟨i, hil, hj⟩

end Go.Proofs.Ytpgkpdojpmikkaa.Eng

/-
  THE ENGINE, part 10: regions: in the order of the text, and in whatever order.
-/
import Derived.Test.YtpgkpdojpmikkaaE9
import Derived.OrdersIn
import Derived.RangeFuncIn
set_option linter.unusedVariables false
set_option linter.unusedSimpArgs false
namespace Go.Proofs.Ytpgkpdojpmikkaa.Eng
open Go Go.RowKit

structure AOper where
  dst : Option Nat
  op : AOp
  g : Option (Nat × Bool)

def putE (e : AEnv) (d : Option Nat) (v : AV) : AEnv := match d with
  | some d => fun i => if i = d then v else e i
  | none => e

def wants (g : Option (Nat × Bool)) (e : AEnv) : Option Bool := match g with
  | none => some true
  | some (d, b) => match e d with
    | .bool t => some (t == b)
    | .tup [] => some false
    | _ => none

/-- The operands. -/
def AOp.xs : AOp → List AX
  | .mv x => [x]
  | .pick c a b => [c, a, b]
  | .alloc _ => []
  | .box _ x => [x]
  | .build _ _ ps => ps.map (·.2)
  | .bsl _ _ ps => ps.map (·.2)
  | .load _ _ x => [x]
  | .store _ p x => [p, x]
  | .nilck x => [x]
  | .bin _ _ _ x y => [x, y]
  | .un _ x => [x]
  | .conv _ x => [x]
  | .mkfn _ cs => cs
  | .slice _ x lo hi mm => x :: (lo.toList ++ hi.toList ++ mm.toList)
  | .faddr _ x => [x]
  | .fld _ _ _ x => [x]
  | .iaddr _ x i => [x, i]
  | .ext x _ => [x]
  | .len x => [x]
  | .app _ _ s x => [s, x]
  | .mx xs => xs
  | .mn xs => xs
  | .nilsl _ x => [x]
  | .nilpt _ x => [x]
  | .mksl _ _ l c => [l, c]
  | .mkmap h => h.toList
  | .look _ _ _ _ x k => [x, k]
  | .mput _ _ x k v => [x, k, v]
  | .call f args => f :: args

def AOp.refs (e : AEnv) (o : AOp) : List Bid := refsL (o.xs.map (·.ev e))

/-- What an operation yields and writes. -/
def EffOk (P : Program) (id : Bid) (m : Mem) (e : AEnv) (o : AOp) (f : Eff) : Prop := match o with
  | .call g args => ∃ k caps, g.ev e = .fn k caps ∧ EffC P k (args.map (·.ev e) ++ caps) id m f
  | o => effA id m e o = some f

/-- One operation, or none, if it isn't wanted. -/
def AStep (P : Program) (id : Bid) (o : AOper) (e : AEnv) (m : Mem) (rs ws : List Bid) (e' : AEnv) (m' : Mem) : Prop :=
  (wants o.g e = some true ∧ rs = o.op.refs e ∧ ∃ f, EffOk P id m e o.op f ∧ ws = f.ws.map (·.1) ∧ e' = putE e o.dst f.v ∧ m' = applyW m f.ws) ∨
  (wants o.g e = some false ∧ rs = [] ∧ ws = [] ∧ e' = putE e o.dst (.tup []) ∧ m' = m)

def gslot (ops : Array Oper) : Option (Nat × Bool) → Option (Option (Nat × Bool))
  | none => some none
  | some (j, b) => match (ops[j]?).bind (·.dst) with
    | some d => some (some (d, b))
    | none => none

def coper (P : Program) (ops : Array Oper) (o : Oper) : Option AOper := match cop P o.type o.op, gslot ops o.guard with
  | some a, some g => some ⟨o.dst, a, g⟩
  | _, _ => none

theorem wants_ok {c : Cx} {e : AEnv} {a : Act} (he : EnvOk c e a) {ops : Array Oper} {o : Oper} {g : Option (Nat × Bool)} (hg : gslot ops o.guard = some g) {b : Bool} (h : wants g e = some b) : Region.wanted o (yielded ops a.tmps) = b := by
  unfold gslot at hg
  split at hg
  · rename_i hgd
    simp only [Option.some.injEq] at hg
    subst hg
    simp only [wants, Option.some.injEq] at h
    simp [Region.wanted, hgd, h]
  · rename_i j want hgd
    split at hg <;> simp only [reduceCtorEq, Option.some.injEq] at hg
    rename_i d hd
    subst hg
    simp only [wants] at h
    have := he d
    split at h <;> simp only [reduceCtorEq, Option.some.injEq] at h
    · rename_i t ht
      rw [ht] at this
      generalize hv : a.tmps.getD d undef = v at this
      cases this
      have hd2 : a.tmps[d]? = some (.bool t) := by
        by_cases hlt : d < a.tmps.size
        · simp [hlt] at hv; simp [hlt, hv]
        · simp [hlt, undef] at hv
      simp [Region.wanted, hgd, yielded, hd, hd2, h]
    · rename_i ht
      rw [ht] at this
      generalize hv : a.tmps.getD d undef = v at this
      cases this with
      | tup _ vs hl _ =>
        have hd2 : ∀ t, a.tmps[d]? ≠ some (.bool t) := by
          intro t ht2
          simp [Array.getD_eq_getD_getElem?, ht2] at hv
        have hy : yielded ops a.tmps j = none := by
          unfold yielded
          rw [hd]
          show (match a.tmps[d]? with | some (.bool b) => some b | _ => none) = none
          generalize a.tmps[d]? = q at hd2
          match q with
          | some (.bool t) => exact absurd rfl (hd2 t)
          | none => rfl
          | some (.int _ _) | some (.agg _) | some (.tuple _) => rfl
          | some v => cases v <;> first | rfl | exact absurd rfl (hd2 _)
        simp [Region.wanted, hgd, hy, ← h]

theorem EnvOk.put {c : Cx} {e : AEnv} {a : Act} (he : EnvOk c e a) {d : Option Nat} {x : AV} {v : Value} (hd : ∀ q, d = some q → q < a.tmps.size) (h : Rep c x v) : EnvOk c (putE e d x) (a.put d v) := by
  intro i
  cases d with
  | none => exact he i
  | some q =>
    simp only [putE, Act.put]
    by_cases hi : i = q
    · subst hi; simp [hd i rfl, h]
    · rw [if_neg hi]
      have := he i
      simpa [Array.getD_eq_getD_getElem?, Array.getElem?_setIfInBounds, Ne.symm hi] using this

theorem Act.put_size (a : Act) (d : Option Tmp) (v : Value) : (a.put d v).tmps.size = a.tmps.size := by cases d <;> simp [Act.put]
theorem Act.put_defs (a : Act) (d : Option Tmp) (v : Value) : (a.put d v).defers = a.defers := by cases d <;> rfl

theorem cop_call {P : Program} {ty : TypeId} {op : Op} {g : AX} {args : List AX} (h : cop P ty op = some (.call g args)) : ∃ cl fo, op = .call cl ∧ cl.callee = .value fo ∧ cargs P cl.args.toList cl.argTypes.toList = some args ∧ g = cx P 0 fo := by
  unfold cop at h
  split at h <;> try (simp at h; done)
  all_goals try (simp only [Option.map_eq_some_iff, reduceCtorEq, and_false, exists_false] at h; done)
  all_goals try (split at h <;> simp at h; done)
  all_goals try (split at h <;> try (simp at h; done)
                 all_goals (split at h <;> simp at h; done))
  rename_i cl
  split at h <;> try (simp at h; done)
  · split at h <;> simp at h
  · split at h <;> try (simp at h; done)
    split at h <;> simp at h
  · rename_i fo xs hcal hargs
    simp only [Option.some.injEq, AOp.call.injEq] at h
    obtain ⟨rfl, rfl⟩ := h
    exact ⟨cl, fo, rfl, hcal, hargs, rfl⟩

/-- Whoever is walked: a function (none), or a round of a loop over a function. Nothing is fenced. -/
abbrev Fr (r : Option Nat) : Fence := { fn := fun _ => True, depth := none, alive := false, round := r }

theorem callsIn_fr {r : Option Nat} {n : Nat} {P : Program} {f : FuncId} {args : Array Value} {w : World} {R : Ending → World → Prop} : CallsIn (Fr r) n P f args w R ↔ Calls P f args w R := callsIn_wide

/-- What is kept, of a kind. -/
def InvS (Y : Gd → Prop) (S0 : Nat → Nat → Prop) (c : Cx) : Prop := ∃ G, Y G ∧ Inv G S0 c

theorem uponIn_of {P : Program} {r : Option Nat} {o : Oper} {a : Act} {w : World} {K : Act → World → Prop} {Q : Exit → Act → World → Prop} (hd : ∀ c, o.op ≠ .defer c) {x : Result Next} (hx : (execOp a.eval o).run P w = x) (h : o.uponIn (Fr r) 0 P a K Q x) : o.wpIn (Fr r) 0 P a w K Q := by
  refine ⟨fun _ _ => trivial, ?_⟩
  rw [Oper.semAt_eq _ _ _ hd, hx]
  exact h

theorem cop_defer {P : Program} {ty : TypeId} {op : Op} {ao : AOp} (h : cop P ty op = some ao) : ∀ c, op ≠ .defer c := by
  rintro c rfl
  simp [cop] at h

theorem step_ok {P : Program} {r : Option Nat} {Y : Gd → Prop} {S0 : Nat → Nat → Prop} {c : Cx} (hi : InvS Y S0 c) {e : AEnv} {a : Act} (he : EnvOk c e a) {ops : Array Oper} {i : Nat} {o : Oper} (ho : ops[i]? = some o) {ao : AOper} (hc : coper P ops o = some ao) {id : Bid} (hiy : id ≠ yB) {rs ws : List Bid} {e' : AEnv} {m' : Mem}
    (hs : AStep P id ao e c.m rs ws e' m') (hd : ∀ d, ao.dst = some d → d < a.tmps.size) {Q : Exit → Act → World → Prop} {K : Act → World → Prop}
    (hK : ∀ a' c', a'.tmps.size = a.tmps.size → a'.defers = a.defers → c'.m = m' → InvS Y S0 c' → c.Ext c' → EnvOk c' e' a' → K a' c'.w) : wpOpIn (Fr r) 0 P ops Q i K a c.w := by
  obtain ⟨w0, hY, hi⟩ := hi
  unfold wpOpIn
  simp only [ho]
  unfold coper at hc
  split at hc <;> simp only [reduceCtorEq, Option.some.injEq] at hc
  rename_i aop g hop hg
  subst hc
  rcases hs with ⟨hw, _, f, hf, _, rfl, rfl⟩ | ⟨hw, _, _, rfl, rfl⟩
  · rw [if_pos (wants_ok he hg hw)]
    simp only at hf hd
    by_cases hcall : ∃ g args, aop = .call g args
    · obtain ⟨gx, args, rfl⟩ := hcall
      obtain ⟨k, caps, hgx, hC⟩ := hf
      obtain ⟨dst, op, ty, pos, after, guard⟩ := o
      simp only at hop hd hK ⊢
      obtain ⟨cl, fo, rfl, hcal, hargs, rfl⟩ := cop_call hop
      obtain ⟨callee, cargs', argTypes⟩ := cl
      simp only at hcal hargs
      subst hcal
      have hfv := cx_ok (P := P) he 0 fo
      rw [hgx] at hfv
      have hR := cargs_ok (P := P) he hargs
      generalize hvf : a.eval fo = vf at hfv
      cases hfv with
      | fn _ _ cv hl hcv =>
      have hall : RepL c (args.map (·.ev e) ++ caps) (cargs'.toList.map a.eval ++ cv.toList) := hR.append ⟨by simpa using hl, fun i x v h1 h2 => hcv i x v h1 (by simpa using h2)⟩
      obtain ⟨fn, hfn, hname, hbody⟩ := hC.1
      have hbn : fn.body.isNone = false := by cases hb : fn.body <;> simp [hb] at hbody ⊢
      have hexec : (execOp a.eval ⟨dst, .call ⟨.value fo, cargs', argTypes⟩, ty, pos, after, guard⟩).run P c.w = .ok (.enter k ((cargs'.map a.eval) ++ cv)) c.w := by
        have hn1 : fn.name ≠ "runtime.NumGoroutine" := by simpa using hname
        have hn2 : fn.body ≠ none := by intro h0; simp [h0] at hbody
        simp [execOp, resolve, hvf, Deferred.ofValue, invoke, callFunc, hfn, hn1, hn2]
      refine uponIn_of (fun _ h => by cases h) hexec ?_
      simp only [Oper.uponIn]
      refine ⟨fun h => (by cases h), ?_⟩
      rw [callsIn_fr]
      have hcall := hC.2 w0 S0 c _ (fun _ _ => rfl) rfl hiy hi hall
      have hargsEq : (cargs'.toList.map a.eval ++ cv.toList).toArray = (cargs'.map a.eval) ++ cv := by apply Array.ext'; simp
      rw [hargsEq] at hcall
      refine hcall.mono ?_
      rintro en w'' ⟨v, c', rfl, rfl, hm, hI, hE, hr⟩
      exact hK _ c' (Act.put_size _ _ _) (Act.put_defs _ _ _) hm ⟨w0, hY, hI⟩ hE ((he.ext hE).put hd hr)
    · have hf' : effA id c.m e aop = some f := by
        unfold EffOk at hf
        split at hf
        · exact absurd ⟨_, _, rfl⟩ hcall
        · exact hf
      obtain ⟨r, v, c', hrun, hrv, hm, hI, hE, hrep⟩ := opA_ok hi he o hiy hop hf'
      refine uponIn_of (cop_defer hop) hrun ?_
      rcases hrv with rfl | ⟨rfl, rfl⟩
      · exact hK _ c' (Act.put_size _ _ _) (Act.put_defs _ _ _) hm ⟨w0, hY, hI⟩ hE ((he.ext hE).put hd hrep)
      · exact hK _ c' (Act.put_size _ _ _) (Act.put_defs _ _ _) hm ⟨w0, hY, hI⟩ hE ((he.ext hE).put hd hrep)
  · rw [if_neg (by rw [wants_ok he hg hw]; simp)]
    exact ⟨fun _ _ => trivial, hK _ c (Act.put_size _ _ _) (Act.put_defs _ _ _) rfl ⟨w0, hY, hi⟩ (.refl c) (he.put hd (show Rep c (.tup []) undef from .tup [] #[] rfl (fun i a v h1 _ => by simp at h1)))⟩

/-! ### the order of the text -/
def nid (rid nx i : Nat) : Bid := (1000 * rid + i, nx + 1)
theorem nid_ne (rid nx i : Nat) : nid rid nx i ≠ yB := by intro h; have := congrArg Prod.snd h; simp [nid, yB] at this

def runI (P : Program) (rid nx : Nat) (ops : List AOper) (T : Nat → List Bid × List Bid) : List Nat → AEnv → Mem → AEnv → Mem → Prop
  | [], e, m, e', m' => e' = e ∧ m' = m
  | i :: r, e, m, e', m' => ∃ o e1 m1, ops[i]? = some o ∧ AStep P (nid rid nx i) o e m (T i).1 (T i).2 e1 m1 ∧ runI P rid nx ops T r e1 m1 e' m'

def dstOk (n : Nat) (ops : List AOper) : Bool := ops.all fun o => match o.dst with
  | some d => decide (d < n)
  | none => true

theorem dstOk_get {n : Nat} {ops : List AOper} (h : dstOk n ops = true) {i : Nat} {o : AOper} (ho : ops[i]? = some o) : ∀ d, o.dst = some d → d < n := by
  intro d hd
  simp only [dstOk, List.all_eq_true] at h
  have := h o (List.mem_of_getElem? ho)
  rw [hd] at this
  simpa using this

def cops (P : Program) (ops : Array Oper) : Option (List AOper) := ops.toList.mapM (coper P ops)

theorem mapM_get {α β : Type} {f : α → Option β} : ∀ {l : List α} {l' : List β}, l.mapM f = some l' → l'.length = l.length ∧ ∀ (i : Nat) (x : α), l[i]? = some x → ∃ y, l'[i]? = some y ∧ f x = some y
  | [], l', h => by simp at h; subst h; exact ⟨rfl, fun i x h => by simp at h⟩
  | a :: l, l', h => by
    simp only [List.mapM_cons, bind, Option.bind_eq_some_iff, pure, Option.some.injEq] at h
    obtain ⟨y, h1, ys, h2, rfl⟩ := h
    obtain ⟨h3, h4⟩ := mapM_get h2
    refine ⟨by simp [h3], fun i x hx => ?_⟩
    cases i with
    | zero => simp at hx; subst hx; exact ⟨y, rfl, h1⟩
    | succ i => simp at hx ⊢; exact h4 i x hx

theorem wpOps_of_runI {P : Program} {r : Option Nat} {Y : Gd → Prop} {S0 : Nat → Nat → Prop} {ops : Array Oper} {aops : List AOper} (hc : cops P ops = some aops) {rid nx N : Nat} {T : Nat → List Bid × List Bid} (hd : dstOk N aops = true) {Q : Exit → Act → World → Prop} :
    ∀ (l : List Nat) (c : Cx) (e : AEnv) (a : Act) (e' : AEnv) (m' : Mem), InvS Y S0 c → EnvOk c e a → a.tmps.size = N → (∀ i, i ∈ l → i < ops.size) → runI P rid nx aops T l e c.m e' m' →
      (∀ a' c', a'.tmps.size = N → a'.defers = a.defers → c'.m = m' → InvS Y S0 c' → c.Ext c' → EnvOk c' e' a' → Q .normal a' c'.w) → wpOpsIn (Fr r) 0 P ops Q l a c.w
  | [], c, e, a, e', m', hi, he, hN, _, hr, hK => by
    obtain ⟨rfl, rfl⟩ := hr
    exact hK a c hN rfl rfl hi (.refl c) he
  | i :: l, c, e, a, e', m', hi, he, hN, hl, hr, hK => by
    obtain ⟨o, e1, m1, ho, hs, hr'⟩ := hr
    rw [wpOpsIn_cons]
    have hil := hl i (by simp)
    obtain ⟨o', h1, h2⟩ := (mapM_get hc).2 i ops[i] (by simp [hil])
    rw [ho] at h1
    simp only [Option.some.injEq] at h1
    subst h1
    refine step_ok hi he (Array.getElem?_eq_getElem hil) h2 (nid_ne _ _ _) hs (by rw [hN]; exact dstOk_get hd ho) ?_
    intro a' c' hs' hdf hm hI hE he'
    subst hm
    exact wpOps_of_runI hc hd l c' e1 a' e' m' hI he' (hs'.trans hN) (fun j hj => hl j (by simp [hj])) hr' (fun a2 c2 h1 h2 h3 h4 h5 h6 => hK a2 c2 h1 (h2.trans hdf) h3 h4 (hE.trans h5) h6)

end Go.Proofs.Ytpgkpdojpmikkaa.Eng

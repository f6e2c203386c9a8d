/-
  THE ENGINE, part 13: code and functions.
-/
import Derived.Test.YtpgkpdojpmikkaaE12b
set_option linter.unusedVariables false
set_option linter.unusedSimpArgs false
namespace Go.Proofs.Ytpgkpdojpmikkaa.Eng
open Go Go.RowKit

inductive ACode where
  | skip
  | seq (a b : ACode)
  | region (rid : Nat) (ops : List AOper)
  | dregion (rid : Nat) (ops : List AOper) (ups : List (Nat × Nat))
  | cond (c : AX) (a b : ACode)
  | block (id : Nat) (c : ACode)
  | loop (c : ACode)
  | loopR (c : ACode)
  | yregion (rid : Nat) (ops : List AOper) (ups : Option (List (Nat × Nat)))
  | rangeF (g : AX) (ps : List Nat) (assign body : ACode)
  | exit (id : Nat)
  | ret

inductive AExit where
  | normal
  | exit (id : Nat)
  | ret

structure St where
  e : AEnv
  m : Mem
  nx : Nat

def ups (ops : Array Oper) : List (Nat × Nat) := (List.range ops.size).flatMap fun j => (List.range j).filterMap fun i => if reachB ops ops.size i j then none else some (i, j)

/-- What must hold of a region whose order is open. -/
def drawB (ops : Array Oper) (l : List AOper) : Bool :=
  ((List.range ops.size).all fun i => match ops[i]? with
    | some o => o.after.toList.all fun e => !Region.binds .any e || decide (e.on < i)
    | none => false) &&
  (ups ops).all fun p => match l[p.1]?, l[p.2]? with
    | some x, some y => apartB x y
    | _, _ => false

/-- What is compiled: a function; an iterator, in which yield is called; a round of a loop over a function. -/
inductive Md where
  | fn
  | it
  | round

def ccode (P : Program) (N : Nat) (md : Md) : Code → Option ACode
  | .skip => some .skip
  | .label _ => some .skip
  | .seq a b => match ccode P N md a, ccode P N md b with
    | some x, some y => some (.seq x y)
    | _, _ => none
  | .region rid ops draw => match cops P ops with
    | some l => if dstOk N l = true then
        if draw = true then (if P.follows .mixedOrders = true ∧ drawB ops l = true then (match md with
          | .it => some (.yregion rid l (some (ups ops)))
          | _ => some (.dregion rid l (ups ops))) else none) else (match md with
          | .it => some (.yregion rid l none)
          | _ => some (.region rid l))
      else none
    | none => none
  | .cond c a b => match ccode P N md a, ccode P N md b with
    | some x, some y => some (.cond (cx P 0 c) x y)
    | _, _ => none
  | .block id c => (ccode P N md c).map (.block id)
  | .loop c => (ccode P N md c).map (match md with
    | .round => .loopR
    | _ => .loop)
  | .exit id => some (.exit id)
  | .scope c => ccode P N md c
  | .ret => some .ret
  | .rangeFunc g ps x y => match md with
    | .fn => match ccode P N .round x, ccode P N .round y with
      | some ax, some ay => if (ps.toList.all fun t => decide (t < N)) = true then some (.rangeF (cx P 0 g) ps.toList ax ay) else none
      | _, _ => none
    | _ => none
  | _ => none

/-- A function that calls its argument, yield, with these values, one row after the other, and goes on as long as it is told to. -/
def IterC (P : Program) (f : FuncId) (caps : List AV) (vals : List (List AV)) : Prop := Bodied P f ∧
  ∀ (S : Nat → Nat → Prop) (w : World) (cv : List Value) (l : Nat) (J Jx : Nat → (Nat → Prop) → World → Prop),
    (∀ b o, S b o → b < w.heap.size) → RepL ⟨S, fun _ => 0, w, fun _ => none⟩ caps cv →
    (∀ i T A A', J i T A → A'.os = A.os → A'.tape = A.tape → A'.output = A.output → A.heap.size ≤ A'.heap.size → (∀ b, b < A.heap.size → ¬ T b → A'.heap[b]? = A.heap[b]?) → J i (fun b => T b ∨ (A.heap.size ≤ b ∧ b < A'.heap.size)) A') →
    (∀ i T A A', Jx i T A → A'.os = A.os → A'.tape = A.tape → A'.output = A.output → A.heap.size ≤ A'.heap.size → (∀ b, b < A.heap.size → ¬ T b → A'.heap[b]? = A.heap[b]?) → Jx i (fun b => T b ∨ (A.heap.size ≤ b ∧ b < A'.heap.size)) A') →
    (∀ i T A a (vs : List Value), J i T A → vals[i]? = some a → (∀ c : Cx, RepL c a vs) → YieldAt (Fr none) 0 P l vs.toArray A fun e A' =>
      (A.heap.size ≤ A'.heap.size ∧ (∀ b, T b → A'.heap[b]? = A.heap[b]?) ∧ (∀ b o, S b o → A'.cell? ⟨b, o, none⟩ = A.cell? ⟨b, o, none⟩)) ∧
        ((e = .returned (.bool true) ∧ J (i + 1) T A') ∨ (e = .returned (.bool false) ∧ Jx (i + 1) T A'))) →
    J 0 (fun _ => False) w →
    Calls P f (.func (.yield l) #[] #[] :: cv).toArray w fun e A' => ∃ v, e = .returned v ∧ ∃ T, J vals.length T A' ∨ ∃ i, i ≤ vals.length ∧ Jx i T A'

mutual
/-- What it names is there. -/
def AV.cl (m : Mem) : AV → Bool
  | .own b _ => (m b).isSome
  | .ptr b _ _ _ => (m b).isSome
  | .mp b => (m b).isSome
  | .agg cs => clL m cs
  | .tup cs => clL m cs
  | .rp cs => clL m cs
  | .fn _ cs => clL m cs
  | .sl _ _ rows => clR m rows
  | _ => true
def clL (m : Mem) : List AV → Bool
  | [] => true
  | a :: as => a.cl m && clL m as
def clR (m : Mem) : List (List AV) → Bool
  | [] => true
  | r :: rs => clL m r && clR m rs
end

/-- Some slots and some blocks are forgotten; what the caller has (i.2 = 0) stays. -/
structure Fgt (s s' : St) : Prop where
  m : ∀ i k, s'.m i = some k → s.m i = some k
  z : ∀ i, i.2 = 0 → s'.m i = s.m i
  e : ∀ i, s'.e i = s.e i ∨ s'.e i = .undef
  ce : ∀ i, (s'.e i).cl s'.m = true
  cm : ∀ i k, s'.m i = some k → clR s'.m k.rows = true

def putPs (e : AEnv) : List Nat → List AV → AEnv
  | p :: ps, v :: vs => putPs (putE e (some p) v) ps vs
  | _, _ => e

/-- Nothing that is read is written by what may come ahead of it. -/
def dchk (rid nx : Nat) (us : List (Nat × Nat)) (acc : List (List Bid × List Bid)) : Prop := (acc.all fun t => t.2.isEmpty) = true ∨ (us.all fun p => pairOk rid nx (getT acc) p.1 p.2) = true

def awp (P : Program) : ACode → (AExit → St → Prop) → St → Prop
  | .skip, Q, s => Q .normal s
  | .seq a b, Q, s => awp P a (fun x s' => match x with
    | .normal => awp P b Q s'
    | x => Q x s') s
  | .region rid ops, Q, s => rops P rid s.nx 0 ops s.e s.m fun e m => Q .normal ⟨e, m, s.nx + 1⟩
  | .dregion rid ops us, Q, s => ropsD P rid s.nx 0 ops s.e s.m [] fun e m acc => dchk rid s.nx us acc ∧ Q .normal ⟨e, m, s.nx + 1⟩
  | .cond c a b, Q, s => match c.ev s.e with
    | .bool t => (t = true → awp P a Q s) ∧ (t = false → awp P b Q s)
    | _ => False
  | .block id c, Q, s => awp P c (fun x s' => match x with
    | .exit j => if j = id then Q .normal s' else Q (.exit j) s'
    | x => Q x s') s
  | .loopR c, Q, s => ∃ (I : Nat → St → Prop) (n : Nat), I n s ∧ ∀ k s', I k s' → awp P c (fun x s'' => match x with
    | .normal => ∃ k', k' < k ∧ I k' s''
    | x => Q x s'') s'
  | .loop c, Q, s => ∃ (I : Nat → St → Prop) (n : Nat), (∃ s0, (s0 = s ∨ Fgt s s0) ∧ I n s0) ∧ ∀ k s', I k s' → awp P c (fun x s'' => match x with
    | .normal => ∃ k', k' < k ∧ ∃ s0, (s0 = s'' ∨ Fgt s'' s0) ∧ I k' s0
    | x => Q x s'') s'
  | .exit id, Q, s => Q (.exit id) s
  | .ret, Q, s => Q .ret s
  | .yregion rid ops us, Q, s => ropsY P rid s.nx 0 ops s.e s.m [] fun e m acc => (match us with
    | some us => dchk rid s.nx us acc
    | none => True) ∧ Q .normal ⟨e, m, s.nx + 1⟩
  | .rangeF g ps assign body, Q, s => match g.ev s.e with
    | .fn k caps => ∃ (lc : List AV) (vals : List (List AV)) (I : Nat → Nat → Mem → Prop), purL s.m caps = some lc ∧ IterC P k lc vals ∧ (∀ r, r ∈ vals → r.length = ps.length ∧ scalL r = true) ∧
        I 0 s.nx (applyW s.m (fzW s.m (refsL caps))) ∧
        (∀ i v nx m, vals[i]? = some v → I i nx m → awp P assign (fun x s1 => match x with
          | .normal => awp P body (fun x s2 => match x with
            | .normal => I (i + 1) s2.nx s2.m
            | x => Q x ⟨s.e, s2.m, s2.nx⟩) s1
          | _ => False) ⟨putPs s.e ps v, m, nx⟩) ∧
        ∀ nx m, I vals.length nx m → Q .normal ⟨s.e, m, nx⟩
    | _ => False

theorem effK_mono {P : Program} {id : Bid} {m : Mem} {e : AEnv} {o : AOp} {K K' : Eff → Prop} (h : ∀ f, K f → K' f) (hh : effK P id m e o K) : effK P id m e o K' := by
  unfold effK at hh ⊢
  cases o
  case call g args =>
    dsimp only at hh ⊢
    split at hh
    · obtain ⟨f, h1, h2⟩ := hh; exact ⟨f, h1, h _ h2⟩
    · exact hh.elim
  all_goals
    dsimp only at hh ⊢
    split at hh
    · exact h _ hh
    · exact hh.elim

theorem rops_mono {P : Program} {rid nx : Nat} : ∀ (l : List AOper) {i : Nat} {e : AEnv} {m : Mem} {K K' : AEnv → Mem → Prop}, (∀ e m, K e m → K' e m) → rops P rid nx i l e m K → rops P rid nx i l e m K'
  | [], i, e, m, K, K', h, hh => h _ _ hh
  | o :: l, i, e, m, K, K', h, hh => by
    simp only [rops] at hh ⊢
    cases hw : wants o.g e with
    | none => rw [hw] at hh; exact hh.elim
    | some b =>
      rw [hw] at hh
      cases b with
      | true => exact effK_mono (fun f hf => rops_mono l h hf) hh
      | false => exact rops_mono l h hh

theorem ropsD_mono {P : Program} {rid nx : Nat} : ∀ (l : List AOper) {i : Nat} {e : AEnv} {m : Mem} {acc : List (List Bid × List Bid)} {K K' : AEnv → Mem → List (List Bid × List Bid) → Prop}, (∀ e m acc, K e m acc → K' e m acc) → ropsD P rid nx i l e m acc K → ropsD P rid nx i l e m acc K'
  | [], i, e, m, acc, K, K', h, hh => h _ _ _ hh
  | o :: l, i, e, m, acc, K, K', h, hh => by
    simp only [ropsD] at hh ⊢
    cases hw : wants o.g e with
    | none => rw [hw] at hh; exact hh.elim
    | some b =>
      rw [hw] at hh
      cases b with
      | true => exact effK_mono (fun f hf => ropsD_mono l h hf) hh
      | false => exact ropsD_mono l h hh

theorem ropsY_mono {P : Program} {rid nx : Nat} : ∀ (l : List AOper) {i : Nat} {e : AEnv} {m : Mem} {acc : List (List Bid × List Bid)} {K K' : AEnv → Mem → List (List Bid × List Bid) → Prop}, (∀ e m acc, K e m acc → K' e m acc) → ropsY P rid nx i l e m acc K → ropsY P rid nx i l e m acc K'
  | [], i, e, m, acc, K, K', h, hh => h _ _ _ hh
  | o :: l, i, e, m, acc, K, K', h, hh => by
    simp only [ropsY] at hh ⊢
    cases hw : wants o.g e with
    | none => rw [hw] at hh; exact hh.elim
    | some b =>
      rw [hw] at hh
      cases b with
      | true =>
        cases hy : isY o.op e with
        | none => rw [hy] at hh; exact effK_mono (fun f hf => ropsY_mono l h hf) hh
        | some la =>
          obtain ⟨ll, la⟩ := la
          rw [hy] at hh
          dsimp only at hh ⊢
          split at hh <;> try (exact hh.elim)
          obtain ⟨h1, h2, h3, h4, h5⟩ := hh
          exact ⟨h1, h2, h3, ropsD_mono l h h4, ropsD_mono l h h5⟩
      | false => exact ropsY_mono l h hh

theorem awp_mono {P : Program} : ∀ (c : ACode) {Q Q' : AExit → St → Prop} {s : St}, (∀ x s, Q x s → Q' x s) → awp P c Q s → awp P c Q' s := by
  intro c
  induction c with
  | skip => intro Q Q' s h hh; exact h _ _ hh
  | exit id => intro Q Q' s h hh; exact h _ _ hh
  | ret => intro Q Q' s h hh; exact h _ _ hh
  | seq a b iha ihb =>
    intro Q Q' s h hh
    refine iha (fun x s' hx => ?_) hh
    cases x with
    | normal => exact ihb h hx
    | exit id => exact h _ _ hx
    | ret => exact h _ _ hx
  | region rid ops => intro Q Q' s h hh; exact rops_mono _ (fun e m hk => h _ _ hk) hh
  | dregion rid ops us => intro Q Q' s h hh; exact ropsD_mono _ (fun e m acc hk => ⟨hk.1, h _ _ hk.2⟩) hh
  | cond x a b iha ihb =>
    intro Q Q' s h hh
    simp only [awp] at hh ⊢
    split
    · rename_i t ht; simp only [ht] at hh; exact ⟨fun e => iha h (hh.1 e), fun e => ihb h (hh.2 e)⟩
    · rename_i hno
      split at hh
      · rename_i t ht; exact absurd ht (hno t)
      · exact hh
  | block id c ih =>
    intro Q Q' s h hh
    refine ih (fun x s' hx => ?_) hh
    cases x with
    | normal => exact h _ _ hx
    | exit j =>
      simp only at hx ⊢
      split
      · rename_i e; rw [if_pos e] at hx; exact h _ _ hx
      · rename_i e; rw [if_neg e] at hx; exact h _ _ hx
    | ret => exact h _ _ hx
  | loop c ih =>
    intro Q Q' s h hh
    obtain ⟨I, n, h1, h2⟩ := hh
    refine ⟨I, n, h1, fun k s' hI => ih (fun x s'' hx => ?_) (h2 k s' hI)⟩
    cases x with
    | normal => exact hx
    | exit id => exact h _ _ hx
    | ret => exact h _ _ hx
  | loopR c ih =>
    intro Q Q' s h hh
    obtain ⟨I, n, h1, h2⟩ := hh
    refine ⟨I, n, h1, fun k s' hI => ih (fun x s'' hx => ?_) (h2 k s' hI)⟩
    cases x with
    | normal => exact hx
    | exit id => exact h _ _ hx
    | ret => exact h _ _ hx
  | yregion rid ops us => intro Q Q' s h hh; exact ropsY_mono _ (fun e m acc hk => ⟨hk.1, h _ _ hk.2⟩) hh
  | rangeF g ps assign body iha ihb =>
    intro Q Q' s h hh
    simp only [awp] at hh ⊢
    split at hh <;> try (exact hh.elim)
    obtain ⟨lc, vals, I, h1, h2, h3, h4, h5, h6⟩ := hh
    refine ⟨lc, vals, I, h1, h2, h3, h4, fun i v nx m hv hI => iha (fun x s1 hx => ?_) (h5 i v nx m hv hI), fun nx m hI => h _ _ (h6 nx m hI)⟩
    cases x with
    | normal => exact ihb (fun x s2 hx => by
        cases x with
        | normal => exact hx
        | exit id => exact h _ _ hx
        | ret => exact h _ _ hx) hx
    | exit id => exact hx
    | ret => exact hx


end Go.Proofs.Ytpgkpdojpmikkaa.Eng

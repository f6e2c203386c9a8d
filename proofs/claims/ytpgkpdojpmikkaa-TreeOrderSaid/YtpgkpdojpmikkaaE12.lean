/-
  THE ENGINE, part 12: regions in whatever order; code; functions.
-/
import Derived.Test.YtpgkpdojpmikkaaE11
import Derived.Deep.LoopGhost
import Derived.Scope
set_option linter.unusedVariables false
set_option linter.unusedSimpArgs false
namespace Go.Proofs.Ytpgkpdojpmikkaa.Eng
open Go Go.RowKit

/-! ### whatever order -/
/-- Operation i has to be ahead of operation j. -/
def reachB (ops : Array Oper) : Nat → Nat → Nat → Bool
  | 0, _, _ => false
  | f + 1, i, j => match ops[j]? with
    | some o => o.after.toList.any fun e => Region.binds .any e && (e.on == i || reachB ops f i e.on)
    | none => false

def pairOk (rid nx : Nat) (T : Nat → List Bid × List Bid) (i j : Nat) : Bool :=
  (!(T i).2.contains yB && !(T j).2.contains yB) && disj (T i).2 (nid rid nx j :: (T j).1) && disj (T j).2 (nid rid nx i :: (T i).1) && disj (T i).2 (T j).2

theorem pairOk_iff {rid nx : Nat} {T : Nat → List Bid × List Bid} {i j : Nat} : pairOk rid nx T i j = true ↔ yB ∉ (T i).2 ∧ yB ∉ (T j).2 ∧ disj (T i).2 (nid rid nx j :: (T j).1) = true ∧ disj (T j).2 (nid rid nx i :: (T i).1) = true ∧ disj (T i).2 (T j).2 = true := by
  simp [pairOk, and_assoc]

theorem bubble {P : Program} {rid nx : Nat} {ops : List AOper} {T : Nat → List Bid × List Bid} {i : Nat} {oi : AOper} (hoi : ops[i]? = some oi) : ∀ (l1 l2 : List Nat) (e : AEnv) (m : Mem) (e' : AEnv) (m' : Mem),
    (∀ a, a ∈ l1 → pairOk rid nx T a i = true ∧ ∀ oa, ops[a]? = some oa → apartB oa oi = true) → runI P rid nx ops T (l1 ++ i :: l2) e m e' m' → runI P rid nx ops T (i :: (l1 ++ l2)) e m e' m'
  | [], l2, e, m, e', m', _, h => h
  | a :: l1, l2, e, m, e', m', hp, h => by
    obtain ⟨oa, e1, m1, hoa, hs, hr⟩ := h
    obtain ⟨oi', e2, m2, hoi', hs2, hr2⟩ := bubble hoi l1 l2 e1 m1 e' m' (fun b hb => hp b (by simp [hb])) hr
    rw [hoi] at hoi'
    simp only [Option.some.injEq] at hoi'
    subst hoi'
    obtain ⟨h1, h2⟩ := hp a (by simp)
    obtain ⟨_, _, q1, q2, q3⟩ := pairOk_iff.1 h1
    obtain ⟨e1', m1', h3, h4⟩ := step_comm hs hs2 (h2 oa hoa) q1 q2 q3
    exact ⟨oi, e1', m1', hoi, h3, oa, e2, m2, hoa, h4, hr2⟩

theorem runI_any {P : Program} {r : Option Nat} {Y : Gd → Prop} {S0 : Nat → Nat → Prop} {ops : Array Oper} {aops : List AOper} (hc : cops P ops = some aops) {rid nx N : Nat} {T : Nat → List Bid × List Bid} (hd : dstOk N aops = true) {Q : Exit → Act → World → Prop}
    (hback : ∀ i o, ops[i]? = some o → ∀ e, e ∈ o.after → Region.binds .any e = true → e.on < i)
    (hpair : ∀ i j, i < j → j < ops.size → reachB ops ops.size i j = false → pairOk rid nx T i j = true ∧ ∀ oi oj, aops[i]? = some oi → aops[j]? = some oj → apartB oi oj = true) :
    ∀ (fuel : Nat) (listed : Array Bool) (rem : List Nat) (c : Cx) (e : AEnv) (a : Act) (e' : AEnv) (m' : Mem), rem.length = fuel → rem.Pairwise (· < ·) → (∀ j, j ∈ rem ↔ j < ops.size ∧ listed.getD j true = false) → listed.size = ops.size →
      (∀ p o, listed.getD p false = true → ops[p]? = some o → ∀ e, e ∈ o.after → Region.binds .any e = true → listed.getD e.on false = true) →
      InvS Y S0 c → EnvOk c e a → a.tmps.size = N → runI P rid nx aops T rem e c.m e' m' →
      (∀ a' c', a'.tmps.size = N → a'.defers = a.defers → c'.m = m' → InvS Y S0 c' → c.Ext c' → EnvOk c' e' a' → Q .normal a' c'.w) → wpAnyIn (Fr r) 0 P .any ops Q fuel listed a c.w := by
  intro fuel
  induction fuel with
  | zero =>
    intro listed rem c e a e' m' hlen hsort hrem hsz hcl hi he hN hr hK
    have hnil : rem = [] := List.eq_nil_of_length_eq_zero hlen
    subst hnil
    obtain ⟨rfl, rfl⟩ := hr
    refine ⟨?_, hK a c hN rfl rfl hi (.refl c) he⟩
    apply List.eq_nil_iff_forall_not_mem.2
    intro j hj
    obtain ⟨h1, o, h2, _⟩ := mem_ready.1 hj
    have := (hrem j).2 ⟨(Array.getElem?_eq_some_iff.1 h2).1, h1⟩
    simp at this
  | succ fuel ih =>
    intro listed rem c e a e' m' hlen hsort hrem hsz hcl hi he hN hr hK
    refine ⟨fun hnone => ?_, fun i hir => ?_⟩
    · -- the first one is ready
      cases rem with
      | nil => simp at hlen
      | cons h rest =>
        obtain ⟨hh1, hh2⟩ := (hrem h).1 (by simp)
        have : h ∈ Region.ready .any ops listed := by
          refine mem_ready.2 ⟨hh2, ops[h], by simp [hh1], fun ed hed hb => ?_⟩
          have hlt := hback h ops[h] (by simp [hh1]) ed hed hb
          by_cases hl : listed.getD ed.on false = true
          · exact hl
          · exfalso
            have hf : listed.getD ed.on true = false := by
              have hlt2 : ed.on < listed.size := by omega
              simp [hlt2] at hl ⊢; exact hl
            have hin := (hrem ed.on).2 ⟨by omega, hf⟩
            rcases List.mem_cons.1 hin with e1 | e1
            · omega
            · have := (List.pairwise_cons.1 hsort).1 _ e1; omega
        rw [hnone] at this
        simp at this
    · obtain ⟨h1, o, h2, hpre⟩ := mem_ready.1 hir
      have hil := (Array.getElem?_eq_some_iff.1 h2).1
      have hin := (hrem i).2 ⟨hil, h1⟩
      obtain ⟨l1, l2, rfl⟩ := List.append_of_mem hin
      obtain ⟨oi, hoi, hcop⟩ := (mapM_get hc).2 i o (by simpa using h2)
      have hreach : ∀ f q p, reachB ops f q p = true → (∀ o, ops[p]? = some o → ∀ e, e ∈ o.after → Region.binds .any e = true → listed.getD e.on false = true) → listed.getD q false = true := by
        intro f
        induction f with
        | zero => intro q p h _; simp [reachB] at h
        | succ f ihf =>
          intro q p h hp
          simp only [reachB] at h
          split at h <;> try (simp at h; done)
          rename_i op hop
          simp only [List.any_eq_true, Bool.and_eq_true, Bool.or_eq_true, beq_iff_eq, Array.mem_toList_iff] at h
          obtain ⟨ed, hed, hb, h | h⟩ := h
          · have := hp op hop ed hed hb
            rwa [h] at this
          · exact ihf q ed.on h (fun o2 ho2 e2 he2 hb2 => hcl ed.on o2 (hp op hop ed hed hb) ho2 e2 he2 hb2)
      have hprep : ∀ o', ops[i]? = some o' → ∀ e, e ∈ o'.after → Region.binds .any e = true → listed.getD e.on false = true := by
        intro o' ho' ed hed hb
        rw [h2] at ho'
        simp only [Option.some.injEq] at ho'
        subst ho'
        exact hpre ed hed hb
      have hb := bubble (P := P) (rid := rid) (nx := nx) (T := T) hoi l1 l2 e c.m e' m' (fun b hb => by
        have hbi : b < i := by
          rw [List.pairwise_append] at hsort
          exact hsort.2.2 b hb i (by simp)
        obtain ⟨hb1, hb2⟩ := (hrem b).1 (by simp [hb])
        have hnr : reachB ops ops.size b i = false := by
          cases hrb : reachB ops ops.size b i with
          | false => rfl
          | true =>
            have := hreach _ b i hrb hprep
            have hbl : b < listed.size := by omega
            simp [hbl] at this hb2
            rw [this] at hb2; cases hb2
        obtain ⟨q1, q2⟩ := hpair b i hbi hil hnr
        exact ⟨q1, fun oa hoa => q2 oa oi hoa hoi⟩) hr
      obtain ⟨oi', e1, m1, hoi', hs, hr'⟩ := hb
      rw [hoi] at hoi'
      simp only [Option.some.injEq] at hoi'
      subst hoi'
      refine step_ok hi he h2 hcop (nid_ne _ _ _) hs (by rw [hN]; exact dstOk_get hd hoi) ?_
      intro a' c' hs' hdf hm hI hE he'
      subst hm
      refine ih (listed.setIfInBounds i true) (l1 ++ l2) c' e1 a' e' m' (by simp at hlen ⊢; omega) ?_ ?_ (by simp [hsz]) ?_ hI he' (hs'.trans hN) hr' (fun a2 c2 q1 q2 q3 q4 q5 q6 => hK a2 c2 q1 (q2.trans hdf) q3 q4 (hE.trans q5) q6)
      · rw [List.pairwise_append] at hsort ⊢
        exact ⟨hsort.1, (List.pairwise_cons.1 hsort.2.1).2, fun x hx y hy => hsort.2.2 x hx y (by simp [hy])⟩
      · intro j
        have hij : j ∈ l1 ++ l2 → j ≠ i := by
          intro hj hji
          subst hji
          rw [List.pairwise_append] at hsort
          rcases List.mem_append.1 hj with hj | hj
          · have := hsort.2.2 j hj j (by simp); omega
          · have := (List.pairwise_cons.1 hsort.2.1).1 j hj; omega
        constructor
        · intro hj
          have hne := hij hj
          obtain ⟨q1, q2⟩ := (hrem j).1 (by simp only [List.mem_append, List.mem_cons] at hj ⊢; rcases hj with hj | hj; exact .inl hj; exact .inr (.inr hj))
          exact ⟨q1, by rw [getD_set_ne true (Ne.symm hne)]; exact q2⟩
        · rintro ⟨q1, q2⟩
          have hne : j ≠ i := by
            intro e; subst e
            have : j < listed.size := by omega
            simp [this] at q2
          rw [getD_set_ne true (Ne.symm hne)] at q2
          have := (hrem j).2 ⟨q1, q2⟩
          simp only [List.mem_append, List.mem_cons] at this ⊢
          rcases this with h | h | h
          · exact .inl h
          · exact absurd h hne
          · exact .inr h
      · intro p o' hp ho' ed hed hbd
        by_cases hpi : p = i
        · subst hpi
          exact getD_set_true (hprep o' ho' ed hed hbd)
        · rw [getD_set_ne false (Ne.symm hpi)] at hp
          exact getD_set_true (hcl p o' hp ho' ed hed hbd)

/-! ### contracts, and what they do -/
theorem applyW_append : ∀ (ws us : List (Bid × ABlk)) (m : Mem), applyW m (ws ++ us) = applyW (applyW m ws) us
  | [], us, m => rfl
  | (i, k) :: ws, us, m => by rw [List.cons_append, applyW, applyW, applyW_append]

theorem EffC.pure {P : Program} {k : FuncId} {as l : List AV} {id : Bid} {m : Mem} {r : AV} (hp : purL m as = some l) (hc : PureC P k l r) : EffC P k as id m ⟨r, if r.scal = true then [] else fzW m (refsL as)⟩ := by
  refine ⟨hc.1, fun w0 S0 c vs hag hid hiy hi hv => ?_⟩
  have := call_ok hi hv ((purL_congr hag).trans hp) hc
  rw [fzW_congr hag] at this
  exact this

theorem EffC.own {P : Program} {k : FuncId} {as l : List AV} {id : Bid} {m : Mem} {z : Nat} {rows : List (List AV)} (hp : purL m as = some l) (hc : OwnC P k l z rows) (hm : m id = none) : EffC P k as id m ⟨.own id rows.length, fzW m (refsL as) ++ [(id, ⟨z, rows, true⟩)]⟩ := by
  refine ⟨hc.1, fun w0 S0 c vs hag hid hiy hi hv => ?_⟩
  obtain ⟨hI1, hE1⟩ := hi.share (refsL as)
  have hp' := (purL_congr hag).trans hp
  refine (hc.2.2.2 (c.share (refsL as)).S c.w vs (fun b o h => hI1.sdom b o h) (purL_ok hi (refsL as) hv hp' (fun b hb => hb))).mono ?_
  rintro e w' ⟨v, c2, rfl, rfl, hm2, hI2, hr⟩
  have hk2 : c2.m (0, 1) = some ⟨z, rows, true⟩ := by rw [hm2]; simp [oneM]
  have hz2 : 0 < z := hc.2.1
  have hb2 := hI2.blkC hk2 hz2
  obtain ⟨hI3, hE3⟩ := hI1.grow (w' := c2.w) hI2.q.2
  obtain ⟨hI4, hE4⟩ := hI3.addS (fun b o => c2.S b o ∧ c.w.heap.size ≤ b) (fun b o h => ⟨fun hp => by have := w0.lt _ _ hi.q _ hp; omega, hI2.sdom b o h.1⟩) (fun i k o hk hy hx => by
    have h1 := (hI1.blk i k hk hy).lt
    have h2 := hx.2
    have h3 : (c.share (refsL as)).w = c.w := rfl
    rw [h3] at h1
    simp only at h2
    omega)
  obtain ⟨cs, T, cap, hg, hcs, hl, hcell⟩ := hb2.cells
  have hnoid : (c.share (refsL as)).m id = none := by
    show fzM c.m (refsL as) id = none
    unfold fzM
    rw [hid, hm]; simp
  have hsub : ∀ b o, c2.S b o → ((c.share (refsL as)).S b o ∨ (c2.S b o ∧ c.w.heap.size ≤ b)) := fun b o h => by
    rcases hI2.sn b o h with h' | h'
    · exact .inl h'
    · exact .inr ⟨h, Nat.le_of_not_lt h'⟩
  have hgnew : c.w.heap.size ≤ c2.β (0, 1) := Nat.le_of_not_lt hb2.base
  obtain ⟨hI5, hE5⟩ := hI4.put' id ⟨z, rows, true⟩ (c2.β (0, 1)) c2.w cs T cap hiy rfl rfl rfl (Nat.le_refl _) (fun _ _ _ => rfl) hg (fun hp => by have := w0.lt _ _ hi.q _ hp; omega) hb2.z0 hb2.len hcs hl
    (fun j k hj hy _ hb => by
      have h1 := (hI1.blk j k hj hy).lt
      have h3 : (c.share (refsL as)).w = c.w := rfl
      rw [h3] at h1
      have : (c.share (refsL as)).β j = c2.β (0, 1) := hb
      omega) (.refl _)
    (fun k hk => by rw [hnoid] at hk; cases hk)
    (fun _ _ => rfl)
    (fun o _ hS => by
      rcases hS with hS | hS
      · have := hI1.sdom _ _ hS
        have h3 : (c.share (refsL as)).w = c.w := rfl
        rw [h3] at this
        omega
      · exact hI2.excl _ _ o hk2 (by simp [yB]) (.inl rfl) hS.1)
    (fun p j r a hr' ha => by
      obtain ⟨u, h1, h2, h3⟩ := hcell p j r a hr' ha
      exact ⟨u, h1, h2, Rep.rf (c' := ⟨fun b o => ((c.share (refsL as)).S b o ∨ (c2.S b o ∧ c.w.heap.size ≤ b)), (c.share (refsL as)).β, c2.w, (c.share (refsL as)).m⟩) (fun b o hb => ⟨hsub b o hb, rfl⟩) h3 (rfL_mem (rfR_mem hc.2.2.1 hr') ha)⟩)
  refine ⟨v, ⟨fun b o => ((c.share (refsL as)).S b o ∨ (c2.S b o ∧ c.w.heap.size ≤ b)), updB (c.share (refsL as)).β id (c2.β (0, 1)), c2.w, updB (c.share (refsL as)).m id (some ⟨z, rows, true⟩)⟩, rfl, rfl, ?_, hI5, ((hE1.trans hE3).trans hE4).trans hE5, ?_⟩
  · have e1 : fzW m (refsL as) = fzW c.m (refsL as) := (fzW_congr hag).symm
    funext j
    rw [e1, applyW_append, applyW_fz]
    rfl
  · generalize hrv : AV.own (0, 1) rows.length = x at hr
    cases hr with
    | own i n cap' k hm' hz' hn hroom =>
      cases hrv
      rw [hk2] at hm'
      cases hm'
      have := Rep.own (c := ⟨fun b o => ((c.share (refsL as)).S b o ∨ (c2.S b o ∧ c.w.heap.size ≤ b)), updB (c.share (refsL as)).β id (c2.β (0, 1)), c2.w, updB (c.share (refsL as)).m id (some ⟨z, rows, true⟩)⟩) id rows.length cap' ⟨z, rows, true⟩ (by simp) hz2 rfl (by dsimp only; rw [updB_same]; exact hroom)
      simpa using this
    | ownOld i n k v hm' hz' hn =>
      cases hrv
      rw [hk2] at hm'
      cases hm'
      simp at hn
    | _ => cases hrv

/-! ### walking a region -/
def effK (P : Program) (id : Bid) (m : Mem) (e : AEnv) (o : AOp) (K : Eff → Prop) : Prop := match o with
  | .call g args => match g.ev e with
    | .fn k caps => ∃ f, EffC P k (args.map (·.ev e) ++ caps) id m f ∧ K f
    | _ => False
  | o => match effA id m e o with
    | some f => K f
    | none => False

theorem effK_ok {P : Program} {id : Bid} {m : Mem} {e : AEnv} {o : AOp} {K : Eff → Prop} (h : effK P id m e o K) : ∃ f, EffOk P id m e o f ∧ K f := by
  unfold effK at h
  split at h
  · split at h
    · rename_i k caps h1
      obtain ⟨f, h2, h3⟩ := h
      exact ⟨f, ⟨k, caps, h1, h2⟩, h3⟩
    · exact h.elim
  · rename_i hno
    split at h
    · rename_i f hf
      refine ⟨f, ?_, h⟩
      unfold EffOk
      split
      · rename_i g args; exact absurd rfl (hno g args)
      · exact hf
    · exact h.elim

def rops (P : Program) (rid nx : Nat) : Nat → List AOper → AEnv → Mem → (AEnv → Mem → Prop) → Prop
  | _, [], e, m, K => K e m
  | i, o :: r, e, m, K => match wants o.g e with
    | some true => effK P (nid rid nx i) m e o.op fun f => rops P rid nx (i + 1) r (putE e o.dst f.v) (applyW m f.ws) K
    | some false => rops P rid nx (i + 1) r (putE e o.dst (.tup [])) m K
    | none => False

def ropsD (P : Program) (rid nx : Nat) : Nat → List AOper → AEnv → Mem → List (List Bid × List Bid) → (AEnv → Mem → List (List Bid × List Bid) → Prop) → Prop
  | _, [], e, m, acc, K => K e m acc
  | i, o :: r, e, m, acc, K => match wants o.g e with
    | some true => effK P (nid rid nx i) m e o.op fun f => ropsD P rid nx (i + 1) r (putE e o.dst f.v) (applyW m f.ws) (acc ++ [(o.op.refs e, f.ws.map (·.1))]) K
    | some false => ropsD P rid nx (i + 1) r (putE e o.dst (.tup [])) m (acc ++ [([], [])]) K
    | none => False

def getT (acc : List (List Bid × List Bid)) (i : Nat) : List Bid × List Bid := acc.getD i ([], [])

theorem rops_ok {P : Program} {rid nx : Nat} {all : List AOper} {K : AEnv → Mem → Prop} : ∀ (l : List AOper) (i : Nat) (e : AEnv) (m : Mem), all.drop i = l → rops P rid nx i l e m K → ∃ T e' m', runI P rid nx all T ((List.range l.length).map (i + ·)) e m e' m' ∧ K e' m'
  | [], i, e, m, _, h => ⟨fun _ => ([], []), e, m, ⟨rfl, rfl⟩, h⟩
  | o :: l, i, e, m, hd, h => by
    have hi : all[i]? = some o := by have := congrArg (·[0]?) hd; simpa using this
    have hd' : all.drop (i + 1) = l := by rw [← List.drop_drop, hd]; rfl
    have hrange : ((List.range (o :: l).length).map (i + ·)) = i :: ((List.range l.length).map (i + 1 + ·)) := by
      simp only [List.length_cons, List.range_succ_eq_map, List.map_cons, List.map_map, Nat.add_zero]
      congr 1
      apply List.map_congr_left; intro x _; simp; omega
    have upd : ∀ (T : Nat → List Bid × List Bid) (x : List Bid × List Bid) (e1 e' : AEnv) (m1 m' : Mem), runI P rid nx all T ((List.range l.length).map (i + 1 + ·)) e1 m1 e' m' → runI P rid nx all (fun j => if j = i then x else T j) ((List.range l.length).map (i + 1 + ·)) e1 m1 e' m' := by
      intro T x
      have key : ∀ (ls : List Nat), (∀ j, j ∈ ls → j ≠ i) → ∀ (e1 e' : AEnv) (m1 m' : Mem), runI P rid nx all T ls e1 m1 e' m' → runI P rid nx all (fun j => if j = i then x else T j) ls e1 m1 e' m' := by
        intro ls
        induction ls with
        | nil => intro _ e1 e' m1 m' h; exact h
        | cons j ls ih =>
          intro hne e1 e' m1 m' h
          obtain ⟨oj, e2, m2, q1, q2, q3⟩ := h
          refine ⟨oj, e2, m2, q1, ?_, ih (fun k hk => hne k (by simp [hk])) _ _ _ _ q3⟩
          dsimp only
          rw [if_neg (hne j (by simp))]; exact q2
      intro e1 e' m1 m' h
      refine key _ ?_ e1 e' m1 m' h
      intro j hj
      simp only [List.mem_map, List.mem_range] at hj
      obtain ⟨k, _, rfl⟩ := hj
      omega
    simp only [rops] at h
    split at h
    · rename_i hw
      obtain ⟨f, hf, hk⟩ := effK_ok h
      obtain ⟨T, e', m', hr, hK⟩ := rops_ok l (i + 1) _ _ hd' hk
      refine ⟨fun j => if j = i then (o.op.refs e, f.ws.map (·.1)) else T j, e', m', ?_, hK⟩
      rw [hrange]
      refine ⟨o, _, _, hi, ?_, upd T _ _ _ _ _ hr⟩
      simp only [if_true]
      exact .inl ⟨hw, rfl, f, hf, rfl, rfl, rfl⟩
    · rename_i hw
      obtain ⟨T, e', m', hr, hK⟩ := rops_ok l (i + 1) _ _ hd' h
      refine ⟨fun j => if j = i then ([], []) else T j, e', m', ?_, hK⟩
      rw [hrange]
      refine ⟨o, _, _, hi, ?_, upd T _ _ _ _ _ hr⟩
      simp only [if_true]
      exact .inr ⟨hw, rfl, rfl, rfl, rfl⟩
    · exact h.elim

theorem ropsD_ok {P : Program} {rid nx : Nat} {all : List AOper} {K : AEnv → Mem → List (List Bid × List Bid) → Prop} : ∀ (l : List AOper) (i : Nat) (e : AEnv) (m : Mem) (acc : List (List Bid × List Bid)), all.drop i = l → acc.length = i → ropsD P rid nx i l e m acc K →
    ∃ acc' e' m', acc'.length = i + l.length ∧ (∀ j, j < i → acc'[j]? = acc[j]?) ∧ runI P rid nx all (getT acc') ((List.range l.length).map (i + ·)) e m e' m' ∧ K e' m' acc'
  | [], i, e, m, acc, _, ha, h => ⟨acc, e, m, by simpa using ha, fun _ _ => rfl, ⟨rfl, rfl⟩, h⟩
  | o :: l, i, e, m, acc, hd, ha, h => by
    have hi : all[i]? = some o := by have := congrArg (·[0]?) hd; simpa using this
    have hd' : all.drop (i + 1) = l := by rw [← List.drop_drop, hd]; rfl
    have hrange : ((List.range (o :: l).length).map (i + ·)) = i :: ((List.range l.length).map (i + 1 + ·)) := by
      simp only [List.length_cons, List.range_succ_eq_map, List.map_cons, List.map_map, Nat.add_zero]
      congr 1
      apply List.map_congr_left; intro x _; simp; omega
    simp only [ropsD] at h
    split at h
    · rename_i hw
      obtain ⟨f, hf, hk⟩ := effK_ok h
      obtain ⟨acc', e', m', hl, hpre, hr, hK⟩ := ropsD_ok l (i + 1) _ _ _ hd' (by simp [ha]) hk
      refine ⟨acc', e', m', by simp at hl ⊢; omega, fun j hj => by rw [hpre j (by omega), List.getElem?_append_left (by omega)], ?_, hK⟩
      rw [hrange]
      have hT : getT acc' i = (o.op.refs e, f.ws.map (·.1)) := by
        have := hpre i (by omega)
        rw [List.getElem?_append_right (by omega), ha] at this
        simp at this
        simp [getT, List.getD_eq_getElem?_getD, this]
      refine ⟨o, _, _, hi, ?_, hr⟩
      rw [hT]
      exact .inl ⟨hw, rfl, f, hf, rfl, rfl, rfl⟩
    · rename_i hw
      obtain ⟨acc', e', m', hl, hpre, hr, hK⟩ := ropsD_ok l (i + 1) _ _ _ hd' (by simp [ha]) h
      refine ⟨acc', e', m', by simp at hl ⊢; omega, fun j hj => by rw [hpre j (by omega), List.getElem?_append_left (by omega)], ?_, hK⟩
      rw [hrange]
      have hT : getT acc' i = ([], []) := by
        have := hpre i (by omega)
        rw [List.getElem?_append_right (by omega), ha] at this
        simp at this
        simp [getT, List.getD_eq_getElem?_getD, this]
      refine ⟨o, _, _, hi, ?_, hr⟩
      rw [hT]
      exact .inr ⟨hw, rfl, rfl, rfl, rfl⟩
    · exact h.elim

end Go.Proofs.Ytpgkpdojpmikkaa.Eng

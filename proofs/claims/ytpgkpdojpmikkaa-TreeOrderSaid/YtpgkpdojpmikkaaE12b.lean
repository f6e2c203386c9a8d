/-
  THE ENGINE, part 12b: regions in which yield is called.
-/
import Derived.Test.YtpgkpdojpmikkaaE12
set_option linter.unusedVariables false
set_option linter.unusedSimpArgs false
namespace Go.Proofs.Ytpgkpdojpmikkaa.Eng
open Go Go.RowKit

/-- What happens where yield is called: a round goes by; the ghost at yB holds what is still to come, behind the loop's name. -/
def YOk (P : Program) (Y : Gd → Prop) (S0 : Nat → Nat → Prop) : Prop := ∀ (l : Nat) (c : Cx) (a : List AV) (rest : List (List AV)) (s : Bool) (vs : List Value), InvS Y S0 c → c.m yB = some ⟨0, [.int .i64 l] :: a :: rest, s⟩ → scalL a = true → RepL c a vs →
  YieldAt (Fr none) 0 P l vs.toArray c.w fun e w' => (e = .returned (.bool true) ∧ ∃ c', c'.w = w' ∧ c'.m = updB c.m yB (some ⟨0, [.int .i64 l] :: rest, s⟩) ∧ InvS Y S0 c' ∧ c.Ext c') ∨
    (e = .returned (.bool false) ∧ ∃ c', c'.w = w' ∧ c'.m = updB c.m yB (some ⟨0, [[]], s⟩) ∧ InvS Y S0 c' ∧ c.Ext c')

/-- Is it a call of yield? -/
def isY (o : AOp) (e : AEnv) : Option (Nat × List AV) := match o with
  | .call g args => match g.ev e with
    | .yld l => some (l, args.map (·.ev e))
    | _ => none
  | _ => none

def YStep (o : AOper) (e : AEnv) (m : Mem) (e1 : AEnv) (m1 : Mem) (e2 : AEnv) (m2 : Mem) : Prop := wants o.g e = some true ∧ ∃ l a rest s, isY o.op e = some (l, a) ∧ m yB = some ⟨0, [.int .i64 l] :: a :: rest, s⟩ ∧ scalL a = true ∧
  e1 = putE e o.dst (.bool true) ∧ m1 = updB m yB (some ⟨0, [.int .i64 l] :: rest, s⟩) ∧ e2 = putE e o.dst (.bool false) ∧ m2 = updB m yB (some ⟨0, [[]], s⟩)

theorem ystep_ok {P : Program} {r : Option Nat} {Y : Gd → Prop} {S0 : Nat → Nat → Prop} (hY : YOk P Y S0) {c : Cx} (hi : InvS Y S0 c) {e : AEnv} {a : Act} (he : EnvOk c e a) {ops : Array Oper} {i : Nat} {o : Oper} (ho : ops[i]? = some o) {ao : AOper} (hc : coper P ops o = some ao)
    {e1 e2 : AEnv} {m1 m2 : Mem} (hs : YStep ao e c.m e1 m1 e2 m2) (hd : ∀ d, ao.dst = some d → d < a.tmps.size) {Q : Exit → Act → World → Prop} {K : Act → World → Prop}
    (hK : ∀ a' c', a'.tmps.size = a.tmps.size → a'.defers = a.defers → (c'.m = m1 ∧ EnvOk c' e1 a' ∨ c'.m = m2 ∧ EnvOk c' e2 a') → InvS Y S0 c' → c.Ext c' → K a' c'.w) : wpOpIn (Fr r) 0 P ops Q i K a c.w := by
  obtain ⟨hw, l, av, rest, s, hy, hm, hsc, rfl, rfl, rfl, rfl⟩ := hs
  unfold wpOpIn
  simp only [ho]
  unfold coper at hc
  split at hc <;> simp only [reduceCtorEq, Option.some.injEq] at hc
  rename_i aop g hop hg
  subst hc
  rw [if_pos (wants_ok he hg hw)]
  simp only at hy hd hK ⊢
  unfold isY at hy
  split at hy <;> try (simp at hy; done)
  rename_i gx args
  split at hy <;> simp only [reduceCtorEq, Option.some.injEq, Prod.mk.injEq] at hy
  rename_i l' hgx
  obtain ⟨rfl, rfl⟩ := hy
  obtain ⟨dst, op, ty, pos, after, guard⟩ := o
  simp only at hop hd hK ⊢
  obtain ⟨cl, fo, rfl, hcal, hargs, rfl⟩ := cop_call hop
  obtain ⟨callee, cargs', argTypes⟩ := cl
  simp only at hcal hargs
  subst hcal
  have hfv := cx_ok (P := P) he 0 fo
  rw [hgx] at hfv
  have hR := cargs_ok (P := P) he hargs
  generalize hvf : a.eval fo = vf at hfv
  cases hfv
  obtain ⟨fn, tmps, assign, body, hyl, hround⟩ := hY l' c _ rest s _ hi hm hsc hR
  have hargsEq : (cargs'.toList.map a.eval).toArray = cargs'.map a.eval := by apply Array.ext'; simp
  rw [hargsEq] at hyl
  have hexec : (execOp a.eval ⟨dst, .call ⟨.value fo, cargs', argTypes⟩, ty, pos, after, guard⟩).run P c.w = .ok (.round l' fn tmps assign body) c.w := by
    simp [execOp, resolve, hvf, Deferred.ofValue, invoke, hyl]
  refine uponIn_of (fun _ h => by cases h) hexec ?_
  simp only [Oper.uponIn]
  refine ⟨fun h => (by cases h), ?_⟩
  refine RoundIn.mono (show RoundIn (Fr r) 0 P l' fn tmps assign body c.w _ from hround) ?_
  rintro en w' (⟨rfl, c', rfl, hm', hI, hE⟩ | ⟨rfl, c', rfl, hm', hI, hE⟩)
  · exact hK _ c' (Act.put_size _ _ _) (Act.put_defs _ _ _) (.inl ⟨hm', (he.ext hE).put hd (.bool true)⟩) hI hE
  · exact hK _ c' (Act.put_size _ _ _) (Act.put_defs _ _ _) (.inr ⟨hm', (he.ext hE).put hd (.bool false)⟩) hI hE

/-- One run up to the call of yield, two from there on. -/
def runK (P : Program) (rid nx : Nat) (ops : List AOper) (T U : Nat → List Bid × List Bid) : List Nat → AEnv → Mem → (AEnv → Mem → Prop) → Prop
  | [], e, m, K => K e m
  | i :: r, e, m, K => ∃ o, ops[i]? = some o ∧ ((∃ e1 m1, AStep P (nid rid nx i) o e m (T i).1 (T i).2 e1 m1 ∧ runK P rid nx ops T U r e1 m1 K) ∨
      (∃ e1 m1 e2 m2, YStep o e m e1 m1 e2 m2 ∧ yB ∈ (T i).2 ∧ (∃ e' m', runI P rid nx ops T r e1 m1 e' m' ∧ K e' m') ∧ (∃ e' m', runI P rid nx ops U r e2 m2 e' m' ∧ K e' m')))

theorem bubbleK {P : Program} {rid nx : Nat} {ops : List AOper} {T U : Nat → List Bid × List Bid} {i : Nat} {oi : AOper} (hoi : ops[i]? = some oi) {K : AEnv → Mem → Prop} : ∀ (l1 l2 : List Nat) (e : AEnv) (m : Mem),
    (∀ a, a ∈ l1 → pairOk rid nx T a i = true ∧ ∀ oa, ops[a]? = some oa → apartB oa oi = true) → runK P rid nx ops T U (l1 ++ i :: l2) e m K → runK P rid nx ops T U (i :: (l1 ++ l2)) e m K
  | [], l2, e, m, _, h => h
  | a :: l1, l2, e, m, hp, h => by
    obtain ⟨oa, hoa, h⟩ := h
    obtain ⟨h1, h2⟩ := hp a (by simp)
    obtain ⟨y1, y2, q1, q2, q3⟩ := pairOk_iff.1 h1
    rcases h with ⟨e1, m1, hs, hr⟩ | ⟨_, _, _, _, _, hy, _⟩
    · obtain ⟨oi', hoi', hr⟩ := bubbleK hoi l1 l2 e1 m1 (fun b hb => hp b (by simp [hb])) hr
      rw [hoi] at hoi'
      simp only [Option.some.injEq] at hoi'
      subst hoi'
      rcases hr with ⟨e2, m2, hs2, hr2⟩ | ⟨_, _, _, _, _, hy, _⟩
      · obtain ⟨e1', m1', h3, h4⟩ := step_comm hs hs2 (h2 oa hoa) q1 q2 q3
        exact ⟨oi, hoi, .inl ⟨e1', m1', h3, oa, hoa, .inl ⟨e2, m2, h4, hr2⟩⟩⟩
      · exact absurd hy y2
    · exact absurd hy y1

theorem wpOps_of_runK {P : Program} {r : Option Nat} {Y : Gd → Prop} {S0 : Nat → Nat → Prop} (hY : YOk P Y S0) {ops : Array Oper} {aops : List AOper} (hc : cops P ops = some aops) {rid nx N : Nat} {T U : Nat → List Bid × List Bid} (hd : dstOk N aops = true) {Q : Exit → Act → World → Prop} {K : AEnv → Mem → Prop} :
    ∀ (l : List Nat) (c : Cx) (e : AEnv) (a : Act), InvS Y S0 c → EnvOk c e a → a.tmps.size = N → (∀ i, i ∈ l → i < ops.size) → runK P rid nx aops T U l e c.m K →
      (∀ a' c' e', a'.tmps.size = N → a'.defers = a.defers → K e' c'.m → InvS Y S0 c' → c.Ext c' → EnvOk c' e' a' → Q .normal a' c'.w) → wpOpsIn (Fr r) 0 P ops Q l a c.w
  | [], c, e, a, hi, he, hN, _, hr, hK => hK a c e hN rfl hr hi (.refl c) he
  | i :: l, c, e, a, hi, he, hN, hl, hr, hK => by
    obtain ⟨o, ho, hr⟩ := hr
    rw [wpOpsIn_cons]
    have hil := hl i (by simp)
    obtain ⟨o', h1, h2⟩ := (mapM_get hc).2 i ops[i] (by simp [hil])
    rw [ho] at h1
    simp only [Option.some.injEq] at h1
    subst h1
    rcases hr with ⟨e1, m1, hs, hr'⟩ | ⟨e1, m1, e2, m2, hs, _, ⟨e', m', hr1, hk1⟩, ⟨e'', m'', hr2, hk2⟩⟩
    · refine step_ok hi he (Array.getElem?_eq_getElem hil) h2 (nid_ne _ _ _) hs (by rw [hN]; exact dstOk_get hd ho) ?_
      intro a' c' hs' hdf hm hI hE he'
      subst hm
      exact wpOps_of_runK hY hc hd l c' e1 a' hI he' (hs'.trans hN) (fun j hj => hl j (by simp [hj])) hr' (fun a2 c2 e2 h1 h2 h3 h4 h5 h6 => hK a2 c2 e2 h1 (h2.trans hdf) h3 h4 (hE.trans h5) h6)
    · refine ystep_ok hY hi he (Array.getElem?_eq_getElem hil) h2 hs (by rw [hN]; exact dstOk_get hd ho) ?_
      rintro a' c' hs' hdf (⟨hm, he'⟩ | ⟨hm, he'⟩) hI hE
      · subst hm
        exact wpOps_of_runI hc hd l c' e1 a' e' m' hI he' (hs'.trans hN) (fun j hj => hl j (by simp [hj])) hr1 (fun a2 c2 h1 h2 h3 h4 h5 h6 => hK a2 c2 e' h1 (h2.trans hdf) (by rw [h3]; exact hk1) h4 (hE.trans h5) h6)
      · subst hm
        exact wpOps_of_runI hc hd l c' e2 a' e'' m'' hI he' (hs'.trans hN) (fun j hj => hl j (by simp [hj])) hr2 (fun a2 c2 h1 h2 h3 h4 h5 h6 => hK a2 c2 e'' h1 (h2.trans hdf) (by rw [h3]; exact hk2) h4 (hE.trans h5) h6)

theorem runK_any {P : Program} {r : Option Nat} {Y : Gd → Prop} {S0 : Nat → Nat → Prop} (hY : YOk P Y S0) {ops : Array Oper} {aops : List AOper} (hc : cops P ops = some aops) {rid nx N : Nat} {T U : Nat → List Bid × List Bid} (hd : dstOk N aops = true) {Q : Exit → Act → World → Prop} {K : AEnv → Mem → Prop}
    (hback : ∀ i o, ops[i]? = some o → ∀ e, e ∈ o.after → Region.binds .any e = true → e.on < i)
    (hpair : ∀ i j, i < j → j < ops.size → reachB ops ops.size i j = false → pairOk rid nx T i j = true ∧ ∀ oi oj, aops[i]? = some oi → aops[j]? = some oj → apartB oi oj = true)
    (hpairU : ∀ i j, i < j → j < ops.size → reachB ops ops.size i j = false → pairOk rid nx U i j = true ∧ ∀ oi oj, aops[i]? = some oi → aops[j]? = some oj → apartB oi oj = true) :
    ∀ (fuel : Nat) (listed : Array Bool) (rem : List Nat) (c : Cx) (e : AEnv) (a : Act), rem.length = fuel → rem.Pairwise (· < ·) → (∀ j, j ∈ rem ↔ j < ops.size ∧ listed.getD j true = false) → listed.size = ops.size →
      (∀ p o, listed.getD p false = true → ops[p]? = some o → ∀ e, e ∈ o.after → Region.binds .any e = true → listed.getD e.on false = true) →
      InvS Y S0 c → EnvOk c e a → a.tmps.size = N → runK P rid nx aops T U rem e c.m K →
      (∀ a' c' e', a'.tmps.size = N → a'.defers = a.defers → K e' c'.m → InvS Y S0 c' → c.Ext c' → EnvOk c' e' a' → Q .normal a' c'.w) → wpAnyIn (Fr r) 0 P .any ops Q fuel listed a c.w := by
  intro fuel
  induction fuel with
  | zero =>
    intro listed rem c e a hlen hsort hrem hsz hcl hi he hN hr hK
    have hnil : rem = [] := List.eq_nil_of_length_eq_zero hlen
    subst hnil
    refine ⟨?_, hK a c e hN rfl hr hi (.refl c) he⟩
    apply List.eq_nil_iff_forall_not_mem.2
    intro j hj
    obtain ⟨h1, o, h2, _⟩ := mem_ready.1 hj
    have := (hrem j).2 ⟨(Array.getElem?_eq_some_iff.1 h2).1, h1⟩
    simp at this
  | succ fuel ih =>
    intro listed rem c e a hlen hsort hrem hsz hcl hi he hN hr hK
    refine ⟨fun hnone => ?_, fun i hir => ?_⟩
    · cases rem with
      | nil => simp at hlen
      | cons h rest =>
        obtain ⟨hh1, hh2⟩ := (hrem h).1 (by simp)
        have : h ∈ Region.ready .any ops listed := by
          refine mem_ready.2 ⟨hh2, ops[h], by simp [hh1], fun ed hed hb => ?_⟩
          have hlt := hback h ops[h] (by simp [hh1]) ed hed hb
          by_cases hl : listed.getD ed.on false = true
          · exact hl
          · exfalso
            have hf : listed.getD ed.on true = false := by
              have hlt2 : ed.on < listed.size := by omega
              simp [hlt2] at hl ⊢; exact hl
            have hin := (hrem ed.on).2 ⟨by omega, hf⟩
            rcases List.mem_cons.1 hin with e1 | e1
            · omega
            · have := (List.pairwise_cons.1 hsort).1 _ e1; omega
        rw [hnone] at this
        simp at this
    · obtain ⟨h1, o, h2, hpre⟩ := mem_ready.1 hir
      have hil := (Array.getElem?_eq_some_iff.1 h2).1
      have hin := (hrem i).2 ⟨hil, h1⟩
      obtain ⟨l1, l2, rfl⟩ := List.append_of_mem hin
      obtain ⟨oi, hoi, hcop⟩ := (mapM_get hc).2 i o (by simpa using h2)
      have hreach : ∀ f q p, reachB ops f q p = true → (∀ o, ops[p]? = some o → ∀ e, e ∈ o.after → Region.binds .any e = true → listed.getD e.on false = true) → listed.getD q false = true := by
        intro f
        induction f with
        | zero => intro q p h _; simp [reachB] at h
        | succ f ihf =>
          intro q p h hp
          simp only [reachB] at h
          split at h <;> try (simp at h; done)
          rename_i op hop
          simp only [List.any_eq_true, Bool.and_eq_true, Bool.or_eq_true, beq_iff_eq, Array.mem_toList_iff] at h
          obtain ⟨ed, hed, hb, h | h⟩ := h
          · have := hp op hop ed hed hb
            rwa [h] at this
          · exact ihf q ed.on h (fun o2 ho2 e2 he2 hb2 => hcl ed.on o2 (hp op hop ed hed hb) ho2 e2 he2 hb2)
      have hprep : ∀ o', ops[i]? = some o' → ∀ e, e ∈ o'.after → Region.binds .any e = true → listed.getD e.on false = true := by
        intro o' ho' ed hed hb
        rw [h2] at ho'
        simp only [Option.some.injEq] at ho'
        subst ho'
        exact hpre ed hed hb
      have hb := bubbleK (P := P) (rid := rid) (nx := nx) (T := T) (U := U) hoi l1 l2 e c.m (fun b hb => by
        have hbi : b < i := by
          rw [List.pairwise_append] at hsort
          exact hsort.2.2 b hb i (by simp)
        obtain ⟨hb1, hb2⟩ := (hrem b).1 (by simp [hb])
        have hnr : reachB ops ops.size b i = false := by
          cases hrb : reachB ops ops.size b i with
          | false => rfl
          | true =>
            have := hreach _ b i hrb hprep
            have hbl : b < listed.size := by omega
            simp [hbl] at this hb2
            rw [this] at hb2; cases hb2
        obtain ⟨q1, q2⟩ := hpair b i hbi hil hnr
        exact ⟨q1, fun oa hoa => q2 oa oi hoa hoi⟩) hr
      have hsort' : (l1 ++ l2).Pairwise (· < ·) := by
        rw [List.pairwise_append] at hsort ⊢
        exact ⟨hsort.1, (List.pairwise_cons.1 hsort.2.1).2, fun x hx y hy => hsort.2.2 x hx y (by simp [hy])⟩
      have hrem' : ∀ j, j ∈ l1 ++ l2 ↔ j < ops.size ∧ (listed.setIfInBounds i true).getD j true = false := by
        intro j
        have hij : j ∈ l1 ++ l2 → j ≠ i := by
          intro hj hji
          subst hji
          rw [List.pairwise_append] at hsort
          rcases List.mem_append.1 hj with hj | hj
          · have := hsort.2.2 j hj j (by simp); omega
          · have := (List.pairwise_cons.1 hsort.2.1).1 j hj; omega
        constructor
        · intro hj
          have hne := hij hj
          obtain ⟨q1, q2⟩ := (hrem j).1 (by simp only [List.mem_append, List.mem_cons] at hj ⊢; rcases hj with hj | hj; exact .inl hj; exact .inr (.inr hj))
          exact ⟨q1, by rw [getD_set_ne true (Ne.symm hne)]; exact q2⟩
        · rintro ⟨q1, q2⟩
          have hne : j ≠ i := by
            intro e; subst e
            have : j < listed.size := by omega
            simp [this] at q2
          rw [getD_set_ne true (Ne.symm hne)] at q2
          have := (hrem j).2 ⟨q1, q2⟩
          simp only [List.mem_append, List.mem_cons] at this ⊢
          rcases this with h | h | h
          · exact .inl h
          · exact absurd h hne
          · exact .inr h
      have hcl' : ∀ p o, (listed.setIfInBounds i true).getD p false = true → ops[p]? = some o → ∀ e, e ∈ o.after → Region.binds .any e = true → (listed.setIfInBounds i true).getD e.on false = true := by
        intro p o' hp ho' ed hed hbd
        by_cases hpi : p = i
        · subst hpi
          exact getD_set_true (hprep o' ho' ed hed hbd)
        · rw [getD_set_ne false (Ne.symm hpi)] at hp
          exact getD_set_true (hcl p o' hp ho' ed hed hbd)
      have hlen' : (l1 ++ l2).length = fuel := by simp at hlen ⊢; omega
      obtain ⟨oi', hoi', hb⟩ := hb
      rw [hoi] at hoi'
      simp only [Option.some.injEq] at hoi'
      subst hoi'
      rcases hb with ⟨e1, m1, hs, hr'⟩ | ⟨e1, m1, e2, m2, hs, _, ⟨e', m', hr1, hk1⟩, ⟨e'', m'', hr2, hk2⟩⟩
      · refine step_ok hi he h2 hcop (nid_ne _ _ _) hs (by rw [hN]; exact dstOk_get hd hoi) ?_
        intro a' c' hs' hdf hm hI hE he'
        subst hm
        exact ih (listed.setIfInBounds i true) (l1 ++ l2) c' e1 a' hlen' hsort' hrem' (by simp [hsz]) hcl' hI he' (hs'.trans hN) hr' (fun a2 c2 e2 q1 q2 q3 q4 q5 q6 => hK a2 c2 e2 q1 (q2.trans hdf) q3 q4 (hE.trans q5) q6)
      · refine ystep_ok hY hi he h2 hcop hs (by rw [hN]; exact dstOk_get hd hoi) ?_
        rintro a' c' hs' hdf (⟨hm, he'⟩ | ⟨hm, he'⟩) hI hE
        · subst hm
          exact runI_any hc hd hback hpair fuel (listed.setIfInBounds i true) (l1 ++ l2) c' e1 a' e' m' hlen' hsort' hrem' (by simp [hsz]) hcl' hI he' (hs'.trans hN) hr1 (fun a2 c2 q1 q2 q3 q4 q5 q6 => hK a2 c2 e' q1 (q2.trans hdf) (by rw [q3]; exact hk1) q4 (hE.trans q5) q6)
        · subst hm
          exact runI_any hc hd hback hpairU fuel (listed.setIfInBounds i true) (l1 ++ l2) c' e2 a' e'' m'' hlen' hsort' hrem' (by simp [hsz]) hcl' hI he' (hs'.trans hN) hr2 (fun a2 c2 q1 q2 q3 q4 q5 q6 => hK a2 c2 e'' q1 (q2.trans hdf) (by rw [q3]; exact hk2) q4 (hE.trans q5) q6)

/-- A region in which yield is called once at most. -/
def ropsY (P : Program) (rid nx : Nat) : Nat → List AOper → AEnv → Mem → List (List Bid × List Bid) → (AEnv → Mem → List (List Bid × List Bid) → Prop) → Prop
  | _, [], e, m, acc, K => K e m acc
  | i, o :: r, e, m, acc, K => match wants o.g e with
    | some true => match isY o.op e with
      | some (l, a) => match m yB with
        | some ⟨0, h :: b :: rest, s⟩ => h = [.int .i64 l] ∧ b = a ∧ scalL a = true ∧
            ropsD P rid nx (i + 1) r (putE e o.dst (.bool true)) (updB m yB (some ⟨0, [.int .i64 l] :: rest, s⟩)) (acc ++ [([], [yB])]) K ∧
            ropsD P rid nx (i + 1) r (putE e o.dst (.bool false)) (updB m yB (some ⟨0, [[]], s⟩)) (acc ++ [([], [yB])]) K
        | _ => False
      | none => effK P (nid rid nx i) m e o.op fun f => ropsY P rid nx (i + 1) r (putE e o.dst f.v) (applyW m f.ws) (acc ++ [(o.op.refs e, f.ws.map (·.1))]) K
    | some false => ropsY P rid nx (i + 1) r (putE e o.dst (.tup [])) m (acc ++ [([], [])]) K
    | none => False

theorem ropsY_ok {P : Program} {rid nx : Nat} {all : List AOper} {K : AEnv → Mem → List (List Bid × List Bid) → Prop} : ∀ (l : List AOper) (i : Nat) (e : AEnv) (m : Mem) (acc : List (List Bid × List Bid)), all.drop i = l → acc.length = i → ropsY P rid nx i l e m acc K →
    ∃ aT aU, aT.length = i + l.length ∧ aU.length = i + l.length ∧ (∀ j, j < i → aT[j]? = acc[j]?) ∧ (∃ e' m', K e' m' aT) ∧ (∃ e' m', K e' m' aU) ∧
      runK P rid nx all (getT aT) (getT aU) ((List.range l.length).map (i + ·)) e m (fun e' m' => K e' m' aT ∨ K e' m' aU)
  | [], i, e, m, acc, _, ha, h => ⟨acc, acc, by simpa using ha, by simpa using ha, fun _ _ => rfl, ⟨e, m, h⟩, ⟨e, m, h⟩, .inl h⟩
  | o :: l, i, e, m, acc, hd, ha, h => by
    have hi : all[i]? = some o := by have := congrArg (·[0]?) hd; simpa using this
    have hd' : all.drop (i + 1) = l := by rw [← List.drop_drop, hd]; rfl
    have hrange : ((List.range (o :: l).length).map (i + ·)) = i :: ((List.range l.length).map (i + 1 + ·)) := by
      simp only [List.length_cons, List.range_succ_eq_map, List.map_cons, List.map_map, Nat.add_zero]
      congr 1
      apply List.map_congr_left; intro x _; simp; omega
    have hgt : ∀ (aT : List (List Bid × List Bid)) (t : List Bid × List Bid), (∀ j, j < i + 1 → aT[j]? = (acc ++ [t])[j]?) → getT aT i = t := by
      intro aT t hp
      have := hp i (by omega)
      rw [List.getElem?_append_right (by omega)] at this
      simp [ha] at this
      simp [getT, List.getD_eq_getElem?_getD, this]
    have hpre : ∀ (aT : List (List Bid × List Bid)) (t : List Bid × List Bid), (∀ j, j < i + 1 → aT[j]? = (acc ++ [t])[j]?) → ∀ j, j < i → aT[j]? = acc[j]? := by
      intro aT t hp j hj
      rw [hp j (by omega), List.getElem?_append_left (by omega)]
    rw [hrange]
    simp only [ropsY] at h
    split at h
    · rename_i hw
      split at h
      · rename_i ly av hy
        split at h <;> try (exact h.elim)
        rename_i hh b rest s hm
        obtain ⟨rfl, rfl, hsc, h1, h2⟩ := h
        obtain ⟨aT, e1, m1, l1, p1, r1, k1⟩ := ropsD_ok l (i + 1) _ _ _ hd' (by simp [ha]) h1
        obtain ⟨aU, e2, m2, l2, p2, r2, k2⟩ := ropsD_ok l (i + 1) _ _ _ hd' (by simp [ha]) h2
        refine ⟨aT, aU, by simp [l1]; omega, by simp [l2]; omega, hpre aT _ p1, ⟨e1, m1, k1⟩, ⟨e2, m2, k2⟩, o, hi, .inr ⟨_, _, _, _, ⟨hw, ly, _, rest, s, hy, hm, hsc, rfl, rfl, rfl, rfl⟩, ?_, ⟨e1, m1, r1, .inl k1⟩, ⟨e2, m2, r2, .inr k2⟩⟩⟩
        rw [hgt aT _ p1]; simp
      · obtain ⟨f, hf, hk⟩ := effK_ok h
        obtain ⟨aT, aU, l1, l2, p1, k1, k2, r1⟩ := ropsY_ok l (i + 1) _ _ _ hd' (by simp [ha]) hk
        refine ⟨aT, aU, by simp [l1]; omega, by simp [l2]; omega, hpre aT _ p1, k1, k2, o, hi, .inl ⟨_, _, ?_, r1⟩⟩
        rw [hgt aT _ p1]
        exact .inl ⟨hw, rfl, f, hf, rfl, rfl, rfl⟩
    · rename_i hw
      obtain ⟨aT, aU, l1, l2, p1, k1, k2, r1⟩ := ropsY_ok l (i + 1) _ _ _ hd' (by simp [ha]) h
      refine ⟨aT, aU, by simp [l1]; omega, by simp [l2]; omega, hpre aT _ p1, k1, k2, o, hi, .inl ⟨_, _, ?_, r1⟩⟩
      rw [hgt aT _ p1]
      exact .inr ⟨hw, rfl, rfl, rfl, rfl⟩
    · exact h.elim

end Go.Proofs.Ytpgkpdojpmikkaa.Eng

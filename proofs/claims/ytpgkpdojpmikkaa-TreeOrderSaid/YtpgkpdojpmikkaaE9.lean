/-
  THE ENGINE, part 9: each compiled operation is what the machine does.
-/
import Derived.Test.YtpgkpdojpmikkaaE8
set_option linter.unusedVariables false
set_option linter.unusedSimpArgs false
namespace Go.Proofs.Ytpgkpdojpmikkaa.Eng
open Go Go.RowKit

def RepO (c : Cx) : Option AV → Option Value → Prop
  | none, none => True
  | some a, some v => Rep c a v
  | _, _ => False

theorem bnd_ok {c : Cx} {lo : Option AV} {lv : Option Value} {d l : Nat} (h : RepO c lo lv) (hb : bnd lo d = some l) : (lo = none ∧ lv = none ∧ l = d) ∨ (∃ k n, lo.isSome = true ∧ lv = some (.int k n) ∧ 0 ≤ n ∧ n.toNat = l) := by
  cases lo with
  | none =>
    cases lv with
    | none => simp only [bnd, Option.some.injEq] at hb; exact .inl ⟨rfl, rfl, hb.symm⟩
    | some v => exact h.elim
  | some a =>
    cases lv with
    | none => exact h.elim
    | some v =>
      cases a <;> simp only [bnd, reduceCtorEq] at hb
      rename_i k n
      split at hb <;> simp only [reduceCtorEq, Option.some.injEq] at hb
      rename_i h0
      cases h
      exact .inr ⟨k, n, rfl, rfl, h0, hb⟩

theorem run_bounds {P : Program} {c : Cx} {lo hi mx : Option AV} {lv hv mv : Option Value} (h1 : RepO c lo lv) (h2 : RepO c hi hv) (h3 : RepO c mx mv) {len cap l h m : Nat} (b1 : bnd lo 0 = some l) (b2 : bnd hi len = some h) (b3 : bnd mx len = some m)
    (hlh : l ≤ h) (hhm : h ≤ m) (hml : m ≤ len) (hlc : len ≤ cap) (hmh : mx.isSome = true → hi.isSome = true) (w : World) :
    (Instr.sliceBounds true len cap lv hv mv).run P w = .ok (l, h, if mx.isSome then m else cap) w := by
  rcases bnd_ok h3 b3 with ⟨e3, rfl, rfl⟩ | ⟨k3, n3, e3, rfl, p3, q3⟩
  · rcases bnd_ok h2 b2 with ⟨e2, rfl, rfl⟩ | ⟨k2, n2, e2, rfl, p2, q2⟩
    · rcases bnd_ok h1 b1 with ⟨e1, rfl, rfl⟩ | ⟨k1, n1, e1, rfl, p1, q1⟩
      · simp [Instr.sliceBounds, e3]
      · have : n1 ≤ (h : Int) := by omega
        simp [Instr.sliceBounds, Instr.sliceBound, asIntOf, e3, p1, this, q1]
    · have a2 : n2 ≤ (cap : Int) := by omega
      rcases bnd_ok h1 b1 with ⟨e1, rfl, rfl⟩ | ⟨k1, n1, e1, rfl, p1, q1⟩
      · simp [Instr.sliceBounds, Instr.sliceBound, asIntOf, e3, p2, a2, q2]
      · have : n1 ≤ (n2.toNat : Int) := by omega
        simp [Instr.sliceBounds, Instr.sliceBound, asIntOf, e3, p2, a2, p1, q1]
        subst q2
        rw [if_pos (by omega)]
  · rcases bnd_ok h2 b2 with ⟨e2, rfl, rfl⟩ | ⟨k2, n2, e2, rfl, p2, q2⟩
    · have := hmh e3; simp [e2] at this
    · have a3 : n3 ≤ (cap : Int) := by omega
      have a2 : n2 ≤ (n3.toNat : Int) := by omega
      rcases bnd_ok h1 b1 with ⟨e1, rfl, rfl⟩ | ⟨k1, n1, e1, rfl, p1, q1⟩
      · subst q3; subst q2
        simp only [Instr.sliceBounds, Instr.sliceBound, asIntOf, e3, Sem.run_bind, Sem.run_pure, Result.andThen_ok, Sem.run_ite, p3, a3, p2, a2, and_self, if_true]
      · subst q3; subst q2; subst q1
        have a1 : n1 ≤ (n2.toNat : Int) := by omega
        simp only [Instr.sliceBounds, Instr.sliceBound, asIntOf, e3, Sem.run_bind, Sem.run_pure, Result.andThen_ok, Sem.run_ite, p3, a3, p2, a2, p1, a1, and_self, if_true]

theorem cut_ok {P : Program} {c : Cx} {T e : TypeId} {z by_ : Nat} (ht : tsl P T = some (e, z, by_)) {full : Bool} {rows : List (List AV)} {A : Option Addr} {cap b o : Nat} {vs : Nat → Value} (hc : rows.length ≤ cap) (hf : full = true → cap = rows.length)
    (hz : ∀ r, r ∈ rows → r.length = z) (hA : rows ≠ [] → A = some ⟨b, o, none⟩)
    (hcell : ∀ (i j : Nat) (r : List AV) (a : AV), rows[i]? = some r → r[j]? = some a → c.w.cell? ⟨b, o + i * z + j, none⟩ = some (vs (i * z + j)) ∧ c.S b (o + i * z + j) ∧ (vs (i * z + j)).oneCell' = true)
    (hrep : ∀ (i j : Nat) (r : List AV) (a : AV), rows[i]? = some r → r[j]? = some a → Rep c a (vs (i * z + j)))
    {lo hi mx : Option AV} {lv hv mv : Option Value} (h1 : RepO c lo lv) (h2 : RepO c hi hv) (h3 : RepO c mx mv) {x : AV} (h : cut z full rows lo hi mx = some x) :
    ∃ q, (Instr.sliceAt T (.slice A rows.length cap) lv hv mv).run P c.w = .ok q c.w ∧ Rep c x q := by
  unfold cut at h
  split at h <;> try (simp at h; done)
  rename_i l hh m b1 b2 b3
  split at h <;> try (simp at h; done)
  rename_i hcond
  obtain ⟨c1, c2, c3, c4⟩ := hcond
  simp only [Option.some.injEq] at h
  obtain ⟨hun, hze, _, z0, _⟩ := tsl_ok ht
  have hrun := run_bounds (P := P) h1 h2 h3 b1 b2 b3 c1 c2 c3 hc c4 c.w
  generalize hM : (if mx.isSome then m else cap) = M at hrun
  have hMl : hh ≤ M ∧ M ≤ cap := by
    rw [← hM]; split <;> constructor <;> omega
  have hlen : ((rows.take hh).drop l).length = hh - l := by simp; omega
  have hr2 : (Instr.sliceAt T (.slice A rows.length cap) lv hv mv).run P c.w = .ok (.slice (if M = l then A else A.map (·.add (l * z))) (hh - l) (M - l)) c.w := by
    simp [Instr.sliceAt, Instr.slice, run_underlying hun, hrun, run_sizeOf' hze]
  refine ⟨_, hr2, ?_⟩
  subst h
  have hget : ∀ (i : Nat) (r : List AV), ((rows.take hh).drop l)[i]? = some r → rows[l + i]? = some r := by
    intro i r hi'
    rw [List.getElem?_drop, List.getElem?_take] at hi'
    split at hi'
    · exact hi'
    · simp at hi'
  have key := Rep.sl (c := c) z (if mx.isSome then m == hh else full && hh == rows.length) ((rows.take hh).drop l) (if M = l then A else A.map (·.add (l * z))) (M - l) b (o + l * z) (fun q => vs (l * z + q)) (by rw [hlen]; omega)
    (fun hfull => by
      rw [hlen]
      split at hfull
      · rename_i hmx
        simp only [hmx, if_true] at hM
        simp at hfull; omega
      · rename_i hmx
        simp only [hmx, Bool.false_eq_true, if_false] at hM
        simp at hfull
        have := hf hfull.1
        omega)
    (fun r hr => hz r (List.mem_of_mem_take (List.mem_of_mem_drop hr)))
    (fun hne => by
      have hl1 : 0 < hh - l := by rw [← hlen]; exact List.length_pos_iff.2 hne
      have hrn : rows ≠ [] := by intro e; simp [e] at c3; omega
      rw [if_neg (by omega), hA hrn]; simp [Addr.add_lit])
    (fun i j r a hi' ha => by
      have := hcell (l + i) j r a (hget i r hi') ha
      rw [Nat.add_mul] at this
      refine ⟨?_, ?_, ?_⟩
      · rw [show o + l * z + i * z + j = o + (l * z + i * z) + j by omega, show l * z + (i * z + j) = l * z + i * z + j by omega]; exact this.1
      · rw [show o + l * z + i * z + j = o + (l * z + i * z) + j by omega]; exact this.2.1
      · rw [show l * z + (i * z + j) = l * z + i * z + j by omega]; exact this.2.2)
    (fun i j r a hi' ha => by
      have := hrep (l + i) j r a (hget i r hi') ha
      rw [Nat.add_mul] at this
      rw [show l * z + (i * z + j) = l * z + i * z + j by omega]; exact this)
  rw [hlen] at key
  exact key

theorem RepO.ext {c c' : Cx} (hx : c.Ext c') {lo : Option AV} {lv : Option Value} (h : RepO c lo lv) : RepO c' lo lv := by
  cases lo <;> cases lv <;> simp only [RepO] at *
  exact h.ext hx

theorem eSlice_ok {P : Program} {w0 : Gd} {S0 : Nat → Nat → Prop} {c : Cx} (hi : Inv w0 S0 c) {T e : TypeId} {z by_ : Nat} (ht : tsl P T = some (e, z, by_)) {x : AV} {v : Value} {lo hi' mx : Option AV} {lv hv mv : Option Value} {f : Eff}
    (hr : Rep c x v) (h1 : RepO c lo lv) (h2 : RepO c hi' hv) (h3 : RepO c mx mv) (h : eSlice z c.m x lo hi' mx = some f) : OpOk P w0 S0 c (Instr.sliceAt T v lv hv mv) f := by
  unfold eSlice at h
  split at h <;> try (simp at h; done)
  · rename_i z' full rows
    split at h <;> try (simp at h; done)
    rename_i hz
    subst hz
    simp only [Option.map_eq_some_iff] at h
    obtain ⟨y, hy, rfl⟩ := h
    cases hr with
    | sl _ _ _ A cap b o vs hc hf hz hA hcell hrep =>
      obtain ⟨q, hq1, hq2⟩ := cut_ok (P := P) ht hc hf hz hA hcell hrep h1 h2 h3 hy
      exact OpOk.same hi hq1 hq2
  · rename_i bb n
    split at h <;> try (simp at h; done)
    rename_i k hm
    split at h <;> try (simp at h; done)
    rename_i hc
    obtain ⟨rfl, rfl⟩ := hc
    simp only [Option.map_eq_some_iff] at h
    obtain ⟨y, hy, rfl⟩ := h
    have hz0 : 0 < k.z := by
      cases hr with
      | own _ _ cap2 k2 hm2 hz2 hn2 hr2 => rw [hm] at hm2; cases hm2; exact hz2
      | ownOld _ _ k2 _ hm2 hz2 hn2 => rw [hm] at hm2; cases hm2; exact hz2
    have hb := hi.blkC hm hz0
    obtain ⟨cs, T', cap, hg, hcs, hcl, hcont⟩ := hb.cells
    have hv' : v = .slice (some ⟨c.β bb, 0, none⟩) k.rows.length cap := by
      cases hr with
      | own _ _ cap2 k2 hm2 hz2 hn2 hr2 =>
        rw [hm] at hm2; simp only [Option.some.injEq] at hm2; subst hm2
        obtain ⟨cs2, T2, hg2, hs2⟩ := hr2
        rw [hg] at hg2
        simp only [Option.some.injEq, Obj.cells.injEq] at hg2
        obtain ⟨rfl, _, _⟩ := hg2
        rw [Nat.eq_of_mul_eq_mul_right hb.z0 (hs2.symm.trans hcs)]
      | ownOld _ _ k2 _ hm2 hz2 hn2 =>
        rw [hm] at hm2; simp only [Option.some.injEq] at hm2; subst hm2; omega
    subst hv'
    obtain ⟨hI, hE⟩ := hi.share [bb]
    have get : ∀ (p j : Nat) (r : List AV) (a : AV), k.rows[p]? = some r → r[j]? = some a → cs[p * k.z + j]? = some (cs.getD (p * k.z + j) undef) ∧ (cs.getD (p * k.z + j) undef).oneCell' = true ∧ Rep c a (cs.getD (p * k.z + j) undef) := by
      intro p j r a h1 h2
      obtain ⟨v, e1, e2, e3⟩ := hcont p j r a h1 h2
      have e : cs.getD (p * k.z + j) undef = v := by simp [Array.getD_eq_getD_getElem?, e1]
      rw [e]; exact ⟨e1, e2, e3⟩
    obtain ⟨q, hq1, hq2⟩ := cut_ok (P := P) (c := c.share [bb]) ht (full := false) (A := some ⟨c.β bb, 0, none⟩) (b := c.β bb) (o := 0) (vs := fun q => cs.getD q undef) hcl (by simp) hb.len (fun _ => rfl)
      (fun p j r a h1 h2 => by
        obtain ⟨e1, e2, e3⟩ := get p j r a h1 h2
        have hj : j < k.z := by rw [← hb.len r (List.mem_of_getElem? h1)]; exact (List.getElem?_eq_some_iff.1 h2).1
        refine ⟨?_, .inr ⟨bb, k, by simp, hm, rfl, ?_⟩, e2⟩
        · show c.w.cell? _ = _
          rw [Nat.zero_add, cell_of_heap hg]; exact e1
        · rw [Nat.zero_add]; exact row_lt (List.getElem?_eq_some_iff.1 h1).1 hj)
      (fun p j r a h1 h2 => (get p j r a h1 h2).2.2.ext hE) (h1.ext hE) (h2.ext hE) (h3.ext hE) hy
    refine ⟨q, c.share [bb], hq1, ?_, hI, hE, hq2⟩
    have := applyW_fz c.m [bb]
    simp only [fzW, List.filterMap_cons, hm, Option.map_some, List.filterMap_nil] at this
    exact this.symm

theorem foldM_ok {P : Program} {c : Cx} (f : Int → Int → Int) (g : Value → Value → Sem Value) (hg : ∀ k x j y w, (g (.int k x) (.int j y)).run P w = .ok (.int k (f x y)) w) : ∀ (as : List AV) (vs : List Value) (a : AV) (v : Value) (r : AV), Rep c a v → RepL c as vs → foldM f a as = some r →
    ∃ q, (vs.foldlM g v).run P c.w = .ok q c.w ∧ Rep c r q
  | [], vs, a, v, r, ha, hs, h => by
    rw [hs.nil_inv]
    unfold foldM at h
    split at h
    · simp only [Option.some.injEq] at h; subst h; exact ⟨v, by simp, ha⟩
    · simp_all
    · simp at h
  | b :: as, vs, a, v, r, ha, hs, h => by
    obtain ⟨u, us, rfl, hu, hus⟩ := hs.cons_inv
    cases a with
    | int k x => cases b with
      | int j y =>
        simp only [foldM] at h
        cases ha; cases hu
        obtain ⟨q, h1, h2⟩ := foldM_ok f g hg _ us _ _ r (.int k (f x y)) hus h
        exact ⟨q, by simp [List.foldlM_cons, hg, h1], h2⟩
      | _ => simp [foldM] at h
    | _ => simp [foldM] at h

theorem RepO.map {P : Program} {c : Cx} {e : AEnv} {a : Act} (h : EnvOk c e a) (lo : Option Operand) : RepO c ((lo.map (cx P 0)).map (·.ev e)) (lo.map a.eval) := by
  cases lo with
  | none => trivial
  | some x => exact cx_ok h 0 x

theorem effStore_eq {P : Program} {T : TypeId} {z : Nat} (hz : tz P T = some z) (m : Mem) (p x : AV) : effStore P T m p x = eStore z m p x := by
  unfold effStore eStore; rw [hz]; cases p <;> rfl

theorem effIndexAddr_eq {P : Program} {T e : TypeId} {z by_ : Nat} (ht : tsl P T = some (e, z, by_)) (m : Mem) (x i : AV) : effIndexAddr P T m x i = pure' (eIaddr z m x i) := by
  unfold effIndexAddr eIaddr pure'; rw [ht]
  cases x <;> try rfl
  case sl z' full rows =>
    cases i <;> try rfl
    dsimp only
    split
    · rw [Option.map_map]; rfl
    · rfl
  case own b l =>
    cases i <;> try rfl
    dsimp only
    cases m b with
    | none => rfl
    | some k =>
      dsimp only
      split <;> rfl

theorem effBin_eq {P : Program} (op : BinOp) (T : TypeId) (x y : AV) : effBin P op T x y = eBin op (tbool P T) (if tagg P T = some true then teq P T else none) x y := by
  unfold effBin eBin
  cases x <;> try rfl
  all_goals (cases y <;> try rfl)
  dsimp only
  split
  · rfl
  · rfl

theorem run_equalIn_slice {P : Program} (w : World) (d : Nat) (t : TypeId) (A : Addr) (n cap : Nat) {E : TypeId} (h : P.underlying t = some (.slice E)) :
    (Op.equalIn (d + 1) t (.slice (some A) n cap) (.slice none 0 0)).run P w = .ok false w := by
  simp [Op.equalIn, run_underlying h]

theorem nilsl_ok {P : Program} {w0 : Gd} {S0 : Nat → Nat → Prop} {c : Cx} (hi : Inv w0 S0 c) {T : TypeId} (hT : (telem P T).isSome = true) (x y : Operand) (hy : isNilK y = true) {op : BinOp} (hop : op = .eql ∨ op = .neq) {a : Act} {xa r : AV} {vx : Value} (hr : Rep c xa vx) (h : eNilsl (op == .neq) c.m xa = some r) :
    ∃ q, (do eqGuard op T x y vx (a.eval y); binOp op T vx (a.eval y) : Sem Value).run P c.w = .ok q c.w ∧ Rep c r q := by
  have hye : a.eval y = .slice none 0 0 := by
    unfold isNilK at hy
    split at hy
    · rfl
    · cases hy
  obtain ⟨E, hE⟩ : ∃ E, P.underlying T = some (.slice E) := by
    unfold telem at hT
    split at hT
    · rename_i E hE; exact ⟨E, hE⟩
    · cases hT
  have hs : ∃ A n cap, vx = .slice (some A) n cap ∧ r = .bool (op == .neq) := by
    unfold eNilsl at h
    split at h <;> try (simp at h; done)
    · rename_i z f row rows
      simp only [Option.some.injEq] at h
      cases hr with
      | sl _ _ _ A cap b o vs h1 h2 h3 hA hc hh => exact ⟨⟨b, o, none⟩, _, cap, by rw [hA (by simp)], h.symm⟩
    · rename_i i n
      split at h <;> try (simp at h; done)
      rename_i k hk
      split at h <;> simp only [reduceCtorEq, Option.some.injEq] at h
      rename_i hn
      cases hr with
      | own _ _ cap k' hm' hz' hn' hroom => exact ⟨_, _, cap, rfl, h.symm⟩
      | ownOld _ _ k' _ hm' hz' hlt => rw [hk] at hm'; cases hm'; omega
  obtain ⟨A, n, cap, rfl, rfl⟩ := hs
  have heq : (Op.equal T (.slice (some A) n cap) (.slice none 0 0)).run P c.w = .ok false c.w := by
    exact run_equalIn_slice c.w 9999 T A n cap hE
  rw [hye]
  rcases hop with rfl | rfl
  · exact ⟨.bool false, by simp [eqGuard, binOp, heq], .bool _⟩
  · exact ⟨.bool true, by simp [eqGuard, binOp, heq], .bool _⟩

theorem opA_ok {P : Program} {w0 : Gd} {S0 : Nat → Nat → Prop} {c : Cx} (hi : Inv w0 S0 c) {e : AEnv} {a : Act} (he : EnvOk c e a) (o : Oper) {ao : AOp} {id : Bid} (hiy : id ≠ yB) {f : Eff} (hc : cop P o.type o.op = some ao) (h : effA id c.m e ao = some f) :
    OpRes P w0 S0 c (execOp a.eval o) f := by
  obtain ⟨dst, op, ty, pos, after, guard⟩ := o
  simp only at hc
  cases op <;> simp only [cop, reduceCtorEq, Option.some.injEq] at hc
  case move x =>
    subst hc
    simp only [effA, Option.some.injEq] at h
    subst h
    exact OpRes.value hi (cx_ok he ty x)
  case assign x =>
    subst hc
    simp only [effA, Option.some.injEq] at h
    subst h
    exact OpRes.value hi (cx_ok he ty x)
  case pick x y z =>
    subst hc
    simp only [effA] at h
    have hx := cx_ok (P := P) he 0 x
    split at h <;> simp only [reduceCtorEq, Option.some.injEq] at h
    rename_i t ht
    subst h
    rw [ht] at hx
    generalize hvx : a.eval x = vx at hx
    cases hx
    refine ⟨.value (if t = true then a.eval y else a.eval z), _, c, by simp [execOp, hvx, asBool], .inl rfl, rfl, hi, .refl c, ?_⟩
    cases t
    · exact cx_ok he ty z
    · exact cx_ok he ty y
  case alloc T =>
    simp only [Option.map_eq_some_iff] at hc
    obtain ⟨zs, hz, rfl⟩ := hc
    simp only [effA, eAlloc] at h
    exact (effAlloc_ok hi hiy (by rw [hz]; exact h)).res
  case box T x =>
    simp only [Option.map_eq_some_iff] at hc
    obtain ⟨z, hz, rfl⟩ := hc
    simp only [effA, eBox] at h
    exact (effBox_ok hi hiy (cx_ok he T x) (by simp only [effBox, hz]; exact h)).res
  case build T ps =>
    split at hc <;> simp only [reduceCtorEq, Option.some.injEq] at hc
    rename_i zs pl hz hpl
    subst hc
    simp only [effA] at h
    obtain ⟨v, hv, rfl⟩ := pure'_some h
    obtain ⟨hl, hp⟩ := cparts_ok (P := P) he (fldTy P T) ps
    exact OpRes.of_run hi (effBuild_ok hl hp (by simp only [effBuild, hz, hpl]; exact hv))
  case buildSlice T len ps =>
    split at hc <;> try (simp at hc; done)
    rename_i el z by_ ht
    split at hc <;> simp only [reduceCtorEq, Option.some.injEq] at hc
    rename_i hcond
    subst hc
    simp only [effA] at h
    obtain ⟨v, hv, rfl⟩ := pure'_some h
    obtain ⟨hl, hp⟩ := cparts_ok (P := P) he (fun _ => el) ps
    unfold eBsl at hv
    split at hv <;> simp only [reduceCtorEq, Option.some.injEq] at hv
    rename_i hc2
    exact (effBuildSlice_ok hi hl hp (by simp only [effBuildSlice, ht]; rw [if_pos ⟨hcond.1, hcond.2, hc2.1, hc2.2⟩, hv])).res
  case load T x =>
    split at hc <;> simp only [reduceCtorEq, Option.some.injEq] at hc
    rename_i z ag hz hag
    subst hc
    simp only [effA, eLoad] at h
    exact (effLoad_ok hi (cx_ok (P := P) he 0 x) (by
      simp only [effLoad, hz, hag]
      cases hrd : rdRow c.m ((cx P 0 x).ev e) with
      | none => simp [hrd] at h
      | some cs => simpa [hrd] using h)).res
  case store T p x =>
    simp only [Option.map_eq_some_iff] at hc
    obtain ⟨z, hz, rfl⟩ := hc
    simp only [effA] at h
    obtain ⟨c', h1, h2, h3, h4, h5⟩ := effStore_ok (P := P) hi (cx_ok (P := P) he 0 p) (cx_ok (P := P) he T x) (f := f) (T := T) (by rw [effStore_eq hz]; exact h)
    refine ⟨.skip, undef, c', by simp [execOp, h1], .inr ⟨rfl, rfl⟩, h2, h3, h4, ?_⟩
    rw [h5]; exact .undef _
  case nilCheck x =>
    subst hc
    simp only [effA] at h
    obtain ⟨v, hv, rfl⟩ := pure'_some h
    have hx := cx_ok (P := P) he 0 x
    generalize (cx P 0 x).ev e = ax at hx hv
    generalize hvx : a.eval x = vx at hx
    cases hx <;> simp only [eNil, reduceCtorEq, Option.some.injEq] at hv
    case rp cs b o vs hcell hrep =>
      subst hv
      exact ⟨_, _, c, by simp [execOp, hvx], .inl rfl, rfl, hi, .refl c, .rp cs b o vs hcell hrep⟩
    case fn f cs vs hl hrep =>
      subst hv
      exact ⟨_, _, c, by simp [execOp, hvx], .inl rfl, rfl, hi, .refl c, .fn f cs vs hl hrep⟩
    case ptr i n r off k hm hz0 hn =>
      simp only [hm, hn, if_true, Option.some.injEq] at hv
      subst hv
      refine ⟨_, _, c, by simp [execOp, hvx], .inl rfl, rfl, hi, .refl c, .ptr i _ r off k hm hz0 rfl⟩
    case ptrOld i n r off k hm hz0 hn =>
      simp only [hm] at hv
      rw [if_neg (by omega)] at hv
      simp at hv
  case makeSlice T l cc =>
    split at hc <;> try (simp at hc; done)
    rename_i el z by_ ht
    simp only [Option.map_eq_some_iff] at hc
    obtain ⟨zs, hzs, rfl⟩ := hc
    simp only [effA] at h
    exact (eMksl_ok hi hiy ht hzs (cx_ok (P := P) he 0 l) (cx_ok (P := P) he 0 cc) h).res
  case makeMap T hh =>
    split at hc <;> simp only [reduceCtorEq, Option.some.injEq] at hc
    rename_i kt et ht
    subst hc
    simp only [effA] at h
    split at h <;> try (simp at h; done)
    rename_i hint
    have h0 := eMkmap_ok (P := P) (t := T) hi hiy h
    cases hh with
    | none => exact h0.res
    | some x =>
      have hx := cx_ok (P := P) he 0 x
      simp only [Option.map_some] at hint
      generalize (cx P 0 x).ev e = ax at hx hint
      cases ax <;> simp [intO] at hint
      rename_i kd n
      generalize hvx : a.eval x = vx at hx
      cases hx
      obtain ⟨v, c', h1, h2, h3, h4, h5⟩ := h0
      rw [run_makeMap] at h1
      exact OpOk.res ⟨v, c', by simp only [Option.map_some, hvx]; rw [run_makeMapH ht]; exact h1, h2, h3, h4, h5⟩
  case lookup T x k ok =>
    split at hc <;> try (simp at hc; done)
    rename_i kt ks zv hl
    split at hc <;> simp only [reduceCtorEq, Option.some.injEq] at hc
    rename_i kag hkag
    subst hc
    simp only [effA] at h
    obtain ⟨v, hv, rfl⟩ := pure'_some h
    obtain ⟨et, ht, hks, hz⟩ := mlay_ok hl
    exact OpRes.of_run hi (eLook_ok hi ht hks hkag (tzv_ok hz.symm c) (cx_ok (P := P) he T x) (cx_ok (P := P) he kt k) hv)
  case mapUpdate T x k y =>
    split at hc <;> try (simp at hc; done)
    rename_i kt ks zv hl
    split at hc <;> simp only [reduceCtorEq, Option.some.injEq] at hc
    rename_i kag hkag
    subst hc
    simp only [effA] at h
    obtain ⟨et, ht, hks, _⟩ := mlay_ok hl
    obtain ⟨c', h1, h2, h3, h4, h5⟩ := eMput_ok (P := P) hi ht hks hkag (cx_ok (P := P) he T x) (cx_ok (P := P) he kt k) (cx_ok (P := P) he 0 y) h
    exact ⟨.skip, undef, c', by simp [execOp, h1], .inr ⟨rfl, rfl⟩, h2, h3, h4, by rw [h5]; exact .undef _⟩
  case binOp op T x y yT =>
    split at hc
    · rename_i hnp
      simp only [Option.some.injEq] at hc
      subst hc
      simp only [effA] at h
      obtain ⟨v, hv, rfl⟩ := pure'_some h
      have hye : a.eval y = .pointer none := by
        have := hnp.1
        unfold isNilP at this
        split at this
        · rfl
        · cases this
      obtain ⟨E, hE⟩ : ∃ E, P.underlying T = some (.pointer E) := by
        have := hnp.2.2
        unfold isPt at this
        split at this
        · exact ⟨_, by assumption⟩
        · cases this
      exact OpRes.of_run hi (nilpt_ok (P := P) hi hE x y hnp.2.1 hye (cx_ok (P := P) he T x) hv)
    simp only [Option.some.injEq] at hc
    split at hc
    · rename_i hnil
      subst hc
      simp only [effA] at h
      obtain ⟨v, hv, rfl⟩ := pure'_some h
      have hr := cx_ok (P := P) he T x
      generalize hxe : (cx P T x).ev e = xa at hr hv
      generalize hvx : a.eval x = vx at hr
      exact OpRes.of_run hi (by
        have := nilsl_ok (P := P) hi hnil.2.2 x y hnil.1 hnil.2.1 (a := a) hr hv
        rw [← hvx] at this
        exact this)
    subst hc
    simp only [effA] at h
    obtain ⟨v, hv, rfl⟩ := pure'_some h
    refine OpRes.of_run hi (effBin_ok (P := P) (op := op) (T := T) (r := v) x y (cx_ok (P := P) he T x) (cx_ok (P := P) he T y) ?_)
    rw [effBin_eq]; exact hv
  case unOp op T x =>
    subst hc
    simp only [effA] at h
    obtain ⟨v, hv, rfl⟩ := pure'_some h
    exact OpRes.of_run hi (effUn_ok (cx_ok (P := P) he T x) hv)
  case convert src dst x =>
    split at hc <;> simp only [reduceCtorEq, Option.some.injEq] at hc
    rename_i d k hs hk
    subst hc
    simp only [effA] at h
    obtain ⟨v, hv, rfl⟩ := pure'_some h
    refine OpRes.of_run hi (effConv_ok (P := P) (src := src) (dst := dst) (cx_ok (P := P) he src x) ?_)
    unfold eConv at hv
    unfold effConv
    split at hv <;> simp_all
  case makeFunc fn first cs =>
    cases fn <;> simp only [reduceCtorEq] at hc
    rename_i g
    split at hc <;> simp only [reduceCtorEq, Option.some.injEq] at hc
    rename_i hf
    subst hc
    simp only [effA, Option.some.injEq] at h
    subst h
    have hfirst : first = #[] := Array.eq_empty_of_size_eq_zero hf
    subst hfirst
    refine ⟨.value (.func (.func g) #[] (cs.map a.eval)), _, c, by simp [execOp, Instr.makeFunc], .inl rfl, rfl, hi, .refl c, .fn g _ _ (by simp) (fun i x v h1 h2 => ?_)⟩
    simp only [List.map_map, List.getElem?_map, Array.getElem?_toList, Option.map_eq_some_iff] at h1
    obtain ⟨y, hy, rfl⟩ := h1
    simp only [Array.getElem?_map, hy, Option.map_some, Option.some.injEq] at h2
    subst h2
    exact cx_ok he 0 y
  case slice T x lo hi' mx =>
    split at hc <;> simp only [reduceCtorEq, Option.some.injEq] at hc
    rename_i el z by_ ht
    subst hc
    simp only [effA] at h
    exact (eSlice_ok hi ht (cx_ok he T x) (RepO.map he lo) (RepO.map he hi') (RepO.map he mx) h).res
  case fieldAddr T x fd =>
    split at hc <;> try (simp at hc; done)
    rename_i off ty2 z hf
    split at hc <;> simp only [reduceCtorEq, Option.some.injEq] at hc
    rename_i hz
    subst hc
    simp only [effA] at h
    obtain ⟨v, hv, rfl⟩ := pure'_some h
    refine (effFieldAddr_ok hi (T := T) (fd := fd) (cx_ok (P := P) he 0 x) ?_).res
    simp only [effFieldAddr, hf, hz, if_false]
    unfold eFaddr at hv
    split at hv <;> try (simp at hv; done)
    · split at hv <;> try (simp at hv; done)
      split at hv <;> simp_all
    · simp_all
  case field T x fd =>
    split at hc <;> try (simp at hc; done)
    rename_i off ty2 z hf
    split at hc <;> simp only [reduceCtorEq, Option.some.injEq] at hc
    rename_i ag hag
    subst hc
    simp only [effA] at h
    obtain ⟨v, hv, rfl⟩ := pure'_some h
    have hx := cx_ok (P := P) he T x
    generalize (cx P T x).ev e = ax at hx hv
    generalize hvx : a.eval x = vx at hx
    obtain ⟨fs, fx, hu, hfx, rfl, rfl, hq⟩ := tfld_ok hf
    cases hx <;> simp only [eFld, reduceCtorEq] at hv
    rename_i cs vs hl hrep
    split at hv <;> try (simp at hv; done)
    rename_i hle
    have hL : RepL c ((cs.drop fx.offset).take z) ((vs.toList.drop fx.offset).take z) := (RepL.drop ⟨by simpa using hl, fun i a v h1 h2 => hrep i a v h1 (by simpa using h2)⟩ _).take _
    cases ag with
    | true =>
      simp only [mkv, if_true, Option.some.injEq] at hv
      subst hv
      have hp := run_part_agg (P := P) hag hq c.w vs fx.offset
      refine ⟨_, .agg (vs.extract fx.offset (fx.offset + z)), c, by simp [execOp, hvx, Instr.field, run_underlying hu, hfx, asAgg, hp], .inl rfl, rfl, hi, .refl c, ?_⟩
      refine .agg _ _ ?_ (fun i a v h1 h2 => hL.2 i a v h1 ?_)
      · have := hL.1; simp at this ⊢; omega
      · rw [← Array.getElem?_toList] at h2; simpa [List.extract_eq_take_drop] using h2
    | false =>
      simp only [mkv, Bool.false_eq_true, if_false] at hv
      split at hv <;> simp only [reduceCtorEq, Option.some.injEq] at hv
      rename_i y hy
      subst hv
      obtain ⟨u, r, hu2, h1, h2⟩ := (hy ▸ hL).cons_inv
      rw [h2.nil_inv] at hu2
      have hget : vs[fx.offset]? = some u := by
        have := congrArg (·[0]?) hu2
        simp only [List.getElem?_take, List.getElem?_drop, List.getElem?_cons_zero, Nat.add_zero] at this
        split at this
        · simpa using this
        · simp at this
      have hp := run_part_one (P := P) hag c.w vs fx.offset u hget
      exact ⟨_, _, c, by simp [execOp, hvx, Instr.field, run_underlying hu, hfx, asAgg, hp], .inl rfl, rfl, hi, .refl c, h1⟩
  case indexAddr T x i =>
    split at hc <;> simp only [reduceCtorEq, Option.some.injEq] at hc
    rename_i el z by_ ht
    subst hc
    simp only [effA] at h
    exact (effIndexAddr_ok hi (T := T) (cx_ok (P := P) he T x) (cx_ok (P := P) he 0 i) (by rw [effIndexAddr_eq ht]; exact h)).res
  case extract x i =>
    subst hc
    simp only [effA] at h
    obtain ⟨v, hv, rfl⟩ := pure'_some h
    have hx := cx_ok (P := P) he 0 x
    generalize (cx P 0 x).ev e = ax at hx hv
    generalize hvx : a.eval x = vx at hx
    cases hx <;> simp only [eExt, reduceCtorEq] at hv
    rename_i cs vs hl hrep
    have hil : i < vs.size := by rw [hl]; exact (List.getElem?_eq_some_iff.1 hv).1
    have hu := Array.getElem?_eq_getElem hil
    exact ⟨_, _, c, by simp [execOp, hvx, Instr.extract, hil], .inl rfl, rfl, hi, .refl c, hrep i v _ hv hu⟩
  case call cl =>
    obtain ⟨callee, args, argTypes⟩ := cl
    simp only at hc
    split at hc <;> try (simp at hc; done)
    · rename_i x hargs
      split at hc <;> try (simp at hc; done)
      rename_i T hT
      split at hc <;> simp only [reduceCtorEq, Option.some.injEq] at hc
      rename_i htel
      subst hc
      simp only [effA] at h
      obtain ⟨v, hv, rfl⟩ := pure'_some h
      have hR := cargs_ok (P := P) he hargs
      obtain ⟨u, us, hu1, hu2, hu3⟩ := hR.cons_inv
      rw [hu3.nil_inv] at hu1
      have hargs' : args.map a.eval = #[u] := by apply Array.ext'; simpa using hu1
      have hT' : argTypes = #[T] := by apply Array.ext'; simpa using hT
      simp only [eLen, Option.map_eq_some_iff] at hv
      obtain ⟨⟨z, rows⟩, hrd, rfl⟩ := hv
      obtain ⟨el, hel⟩ := Option.isSome_iff_exists.1 htel
      have := (effLen_ok (P := P) (T := T) (ty := ty) hi hu2 (f := ⟨.int .i64 rows.length, []⟩) (by simp only [effLen, hel, hrd])).res
      simpa [execOp, resolve, invoke, builtin, hargs', hT'] using this
    · rename_i s x hargs
      split at hc <;> try (simp at hc; done)
      rename_i T TX hT
      split at hc <;> try (simp at hc; done)
      rename_i el z by_ ex z' bx ht htx
      split at hc <;> simp only [reduceCtorEq, Option.some.injEq] at hc
      rename_i hcond
      subst hc
      simp only [effA] at h
      have hR := cargs_ok (P := P) he hargs
      obtain ⟨u, us, hu1, hu2, hu3⟩ := hR.cons_inv
      obtain ⟨u', us', hu1', hu2', hu3'⟩ := hu3.cons_inv
      rw [hu3'.nil_inv] at hu1'
      subst hu1'
      have hargs' : args.map a.eval = #[u, u'] := by apply Array.ext'; simpa using hu1
      have hT' : argTypes = #[T, TX] := by apply Array.ext'; simpa using hT
      have := (effAppend_ok (P := P) (T := T) (TX := TX) (ty := ty) (id := id) hi hiy hu2 hu2' (f := f) (by
        unfold eApp at h
        split at h <;> try (simp at h; done)
        rename_i zx xr hrd
        split at h <;> try (simp at h; done)
        rename_i hzx
        simp only [effAppend, ht, hrd, htx]
        rw [if_pos ⟨hzx, hcond.1, hcond.2⟩]
        exact h)).res
      simpa [execOp, resolve, invoke, builtin, hargs', hT'] using this
    · rename_i xs hargs
      simp only [Option.some.injEq] at hc
      subst hc
      simp only [effA] at h
      split at h <;> try (simp at h; done)
      rename_i ax r hxs
      obtain ⟨v, hv, rfl⟩ := pure'_some h
      have hR := cargs_ok (P := P) he hargs
      rw [hxs] at hR
      obtain ⟨u, us, hu1, hu2, hu3⟩ := hR.cons_inv
      obtain ⟨q, hq1, hq2⟩ := foldM_ok (P := P) _ Builtin.max2 (fun k x j y w => by simp [Builtin.max2]) r us ax u v hu2 hu3 hv
      have hargs' : (args.map a.eval).toList = u :: us := by simpa using hu1
      have : (Builtin.max_ argTypes ty (args.map a.eval)).run P c.w = .ok q c.w := by
        simp only [Builtin.max_, hargs']; exact hq1
      refine ⟨.value q, q, c, ?_, .inl rfl, rfl, hi, .refl c, hq2⟩
      simp [execOp, resolve, invoke, builtin, this]
    · rename_i xs hargs
      simp only [Option.some.injEq] at hc
      subst hc
      simp only [effA] at h
      split at h <;> try (simp at h; done)
      rename_i ax r hxs
      obtain ⟨v, hv, rfl⟩ := pure'_some h
      have hR := cargs_ok (P := P) he hargs
      rw [hxs] at hR
      obtain ⟨u, us, hu1, hu2, hu3⟩ := hR.cons_inv
      obtain ⟨q, hq1, hq2⟩ := foldM_ok (P := P) _ Builtin.min2 (fun k x j y w => by simp [Builtin.min2]) r us ax u v hu2 hu3 hv
      have hargs' : (args.map a.eval).toList = u :: us := by simpa using hu1
      have : (Builtin.min_ argTypes ty (args.map a.eval)).run P c.w = .ok q c.w := by
        simp only [Builtin.min_, hargs']; exact hq1
      refine ⟨.value q, q, c, ?_, .inl rfl, rfl, hi, .refl c, hq2⟩
      simp [execOp, resolve, invoke, builtin, this]
    · simp only [Option.some.injEq] at hc
      subst hc
      simp [effA] at h

end Go.Proofs.Ytpgkpdojpmikkaa.Eng

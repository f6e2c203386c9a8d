/-
  THE ENGINE, part 16b: what is handed over to a call, or by it, with what is known of its capacity (printed out of the texts of parts 7, 11, 12, 16).
-/
import Derived.Test.YtpgkpdojpmikkaaE16
set_option linter.unusedVariables false
set_option linter.unusedSimpArgs false
namespace Go.Proofs.Ytpgkpdojpmikkaa.Eng
open Go Go.RowKit

mutual
/-- A value as a call may have it: the same, slices that are full stay so. -/
def purK (m : Mem) : AV → Option AV
  | .own b n => match m b with
    | some k => if k.rows.length = n ∧ rfR k.rows = true then some (.sl k.z false k.rows) else none
    | none => none
  | .ptr b n r off => match m b with
    | some k => if k.rows.length = n then match k.rows[r]? with
        | some row => if rfL row = true then some (.rp (row.drop off)) else none
        | none => none
      else none
    | none => none
  | .agg cs => match purKL m cs with
    | some l => some (.agg l)
    | none => none
  | .tup cs => match purKL m cs with
    | some l => some (.tup l)
    | none => none
  | .fn f cs => match purKL m cs with
    | some l => some (.fn f l)
    | none => none
  | .sl z f rows => if rfR rows = true then some (.sl z f rows) else none
  | .rp cs => if rfL cs = true then some (.rp cs) else none
  | .undef => some .undef
  | .bool b => some (.bool b)
  | .int k n => some (.int k n)
  | .nilp => some .nilp
  | .mp _ => none
  | .yld l => some (.yld l)
def purKL (m : Mem) : List AV → Option (List AV)
  | [] => some []
  | a :: as => match purK m a, purKL m as with
    | some x, some l => some (x :: l)
    | _, _ => none
end

theorem purKL_get {m : Mem} : ∀ {cs l : List AV}, purKL m cs = some l → l.length = cs.length ∧ ∀ (i : Nat) (a : AV), cs[i]? = some a → ∃ x, l[i]? = some x ∧ purK m a = some x
  | [], l, h => by simp only [purKL, Option.some.injEq] at h; subst h; exact ⟨rfl, fun i a h => by simp at h⟩
  | b :: cs, l, h => by
    simp only [purKL] at h
    split at h <;> try (simp at h; done)
    rename_i x l' h1 h2
    simp only [Option.some.injEq] at h
    subst h
    obtain ⟨h3, h4⟩ := purKL_get h2
    refine ⟨by simp [h3], fun i a ha => ?_⟩
    cases i with
    | zero => simp at ha; subst ha; exact ⟨x, rfl, h1⟩
    | succ i => simp at ha ⊢; exact h4 i a ha

theorem purK_ok {w0 : Gd} {S0 : Nat → Nat → Prop} {c : Cx} (hi : Inv w0 S0 c) (bs : List Bid) {a : AV} {v : Value} (h : Rep c a v) : ∀ {a' : AV}, purK c.m a = some a' → (∀ b, b ∈ a.refs → b ∈ bs) → Rep (c.share bs).bare a' v := by
  have hE := (hi.share bs).2
  have hsame : ∀ b o, c.S b o → (c.share bs).bare.S b o ∧ (c.share bs).bare.w.cell? ⟨b, o, none⟩ = c.w.cell? ⟨b, o, none⟩ := fun b o h => ⟨.inl h, rfl⟩
  have list : ∀ (cs : List AV) (vs : Array Value) (l : List AV), vs.size = cs.length → (∀ (i : Nat) (a : AV) (v : Value), cs[i]? = some a → vs[i]? = some v → ∀ {a' : AV}, purK c.m a = some a' → (∀ b, b ∈ a.refs → b ∈ bs) → Rep (c.share bs).bare a' v) →
      purKL c.m cs = some l → (∀ b, b ∈ refsL cs → b ∈ bs) → vs.size = l.length ∧ ∀ (i : Nat) (a : AV) (v : Value), l[i]? = some a → vs[i]? = some v → Rep (c.share bs).bare a v := by
    intro cs vs l hl ih hp hr
    obtain ⟨h1, h2⟩ := purKL_get hp
    refine ⟨by omega, fun i a v ha hv => ?_⟩
    have hil : i < cs.length := by have := (List.getElem?_eq_some_iff.1 ha).1; omega
    obtain ⟨x, hx1, hx2⟩ := h2 i cs[i] (List.getElem?_eq_getElem hil)
    rw [ha] at hx1
    simp only [Option.some.injEq] at hx1
    subst hx1
    exact ih i cs[i] v (List.getElem?_eq_getElem hil) hv hx2 (fun b hb => hr b (refsL_mem (List.getElem?_eq_getElem hil) b hb))
  induction h with
  | undef v => intro a' hp _; simp only [purK, Option.some.injEq] at hp; subst hp; exact .undef v
  | bool b => intro a' hp _; simp only [purK, Option.some.injEq] at hp; subst hp; exact .bool b
  | int k n => intro a' hp _; simp only [purK, Option.some.injEq] at hp; subst hp; exact .int k n
  | nilp => intro a' hp _; simp only [purK, Option.some.injEq] at hp; subst hp; exact .nilp
  | yld l => intro a' hp _; simp only [purK, Option.some.injEq] at hp; subst hp; exact .yld l
  | mp i k h1 hm hz => intro a' hp _; simp [purK] at hp
  | agg cs vs hl _ ih =>
    intro a' hp hr
    simp only [purK] at hp
    split at hp <;> simp only [reduceCtorEq, Option.some.injEq] at hp
    rename_i l hl'
    subst hp
    obtain ⟨h1, h2⟩ := list cs vs l hl ih hl' (by simpa [AV.refs] using hr)
    exact .agg l vs h1 h2
  | tup cs vs hl _ ih =>
    intro a' hp hr
    simp only [purK] at hp
    split at hp <;> simp only [reduceCtorEq, Option.some.injEq] at hp
    rename_i l hl'
    subst hp
    obtain ⟨h1, h2⟩ := list cs vs l hl ih hl' (by simpa [AV.refs] using hr)
    exact .tup l vs h1 h2
  | fn f cs vs hl _ ih =>
    intro a' hp hr
    simp only [purK] at hp
    split at hp <;> simp only [reduceCtorEq, Option.some.injEq] at hp
    rename_i l hl'
    subst hp
    obtain ⟨h1, h2⟩ := list cs vs l hl ih hl' (by simpa [AV.refs] using hr)
    exact .fn f l vs h1 h2
  | sl z full rows A cap b o vs hc hf hz hA hcell hrep ih =>
    intro a' hp hr
    simp only [purK] at hp
    split at hp <;> simp only [reduceCtorEq, Option.some.injEq] at hp
    rename_i hrf
    subst hp
    exact .sl z full rows A cap b o vs hc hf hz hA (fun i j r a h1 h2 => ⟨(hcell i j r a h1 h2).1, .inl (hcell i j r a h1 h2).2.1, (hcell i j r a h1 h2).2.2⟩)
      (fun i j r a h1 h2 => (hrep i j r a h1 h2).rf hsame (rfL_mem (rfR_mem hrf h1) h2))
  | rp cs b o vs hcell hrep ih =>
    intro a' hp hr
    simp only [purK] at hp
    split at hp <;> simp only [reduceCtorEq, Option.some.injEq] at hp
    rename_i hrf
    subst hp
    exact .rp cs b o vs (fun j a h => ⟨(hcell j a h).1, .inl (hcell j a h).2.1, (hcell j a h).2.2⟩) (fun j a h => (hrep j a h).rf hsame (rfL_mem hrf h))
  | own i n cap k hm hz0 hn hroom =>
    intro a' hp hr
    simp only [purK, hm] at hp
    split at hp <;> simp only [reduceCtorEq, Option.some.injEq] at hp
    rename_i hc
    subst hp
    have hb := hi.blkC hm hz0
    obtain ⟨cs, T, cap', hg, hcs, hl, hcont⟩ := hb.cells
    obtain ⟨cs2, T2, hg2, hs2⟩ := hroom
    rw [hg] at hg2
    simp only [Option.some.injEq, Obj.cells.injEq] at hg2
    obtain ⟨rfl, _, _⟩ := hg2
    have ecap : cap = cap' := Nat.eq_of_mul_eq_mul_right hb.z0 (hs2.symm.trans hcs)
    subst ecap
    subst hn
    have get : ∀ (p j : Nat) (r : List AV) (a : AV), k.rows[p]? = some r → r[j]? = some a → cs[p * k.z + j]? = some (cs.getD (p * k.z + j) undef) ∧ (cs.getD (p * k.z + j) undef).oneCell' = true ∧ Rep c a (cs.getD (p * k.z + j) undef) := by
      intro p j r a h1 h2
      obtain ⟨v, e1, e2, e3⟩ := hcont p j r a h1 h2
      have e : cs.getD (p * k.z + j) undef = v := by simp [Array.getD_eq_getD_getElem?, e1]
      rw [e]; exact ⟨e1, e2, e3⟩
    exact .sl k.z false k.rows (some ⟨c.β i, 0, none⟩) cap (c.β i) 0 (fun q => cs.getD q undef) hl (by simp) hb.len (fun _ => rfl)
      (fun p j r a h1 h2 => by
        obtain ⟨e1, e2, e3⟩ := get p j r a h1 h2
        have hj : j < k.z := by rw [← hb.len r (List.mem_of_getElem? h1)]; exact (List.getElem?_eq_some_iff.1 h2).1
        refine ⟨?_, .inr ⟨i, k, hr i (by simp [AV.refs]), hm, rfl, ?_⟩, e2⟩
        · show c.w.cell? _ = _
          rw [Nat.zero_add, cell_of_heap hg]; exact e1
        · rw [Nat.zero_add]; exact row_lt (List.getElem?_eq_some_iff.1 h1).1 hj)
      (fun p j r a h1 h2 => (get p j r a h1 h2).2.2.rf hsame (rfL_mem (rfR_mem hc.2 h1) h2))
  | ownOld i n k v hm hz0 hn =>
    intro a' hp _
    simp only [purK, hm] at hp
    rw [if_neg (by omega)] at hp
    simp at hp
  | ptr i n r off k hm hz0 hn =>
    intro a' hp hr
    simp only [purK, hm, hn, if_true] at hp
    split at hp <;> try (simp at hp; done)
    rename_i row hrow
    split at hp <;> simp only [reduceCtorEq, Option.some.injEq] at hp
    rename_i hrf
    subst hp
    have hb := hi.blkC hm hz0
    obtain ⟨cs, T, cap', hg, hcs, hl, hcont⟩ := hb.cells
    have get : ∀ (j : Nat) (a : AV), row[j]? = some a → cs[r * k.z + j]? = some (cs.getD (r * k.z + j) undef) ∧ (cs.getD (r * k.z + j) undef).oneCell' = true ∧ Rep c a (cs.getD (r * k.z + j) undef) := by
      intro j a h2
      obtain ⟨v, e1, e2, e3⟩ := hcont r j row a hrow h2
      have e : cs.getD (r * k.z + j) undef = v := by simp [Array.getD_eq_getD_getElem?, e1]
      rw [e]; exact ⟨e1, e2, e3⟩
    exact .rp (row.drop off) (c.β i) (r * k.z + off) (fun j => cs.getD (r * k.z + (off + j)) undef)
      (fun j a ha => by
        have ha' : row[off + j]? = some a := by simpa using ha
        obtain ⟨e1, e2, e3⟩ := get (off + j) a ha'
        have hj : off + j < k.z := by rw [← hb.len row (List.mem_of_getElem? hrow)]; exact (List.getElem?_eq_some_iff.1 ha').1
        refine ⟨?_, .inr ⟨i, k, hr i (by simp [AV.refs]), hm, rfl, ?_⟩, e2⟩
        · show c.w.cell? _ = _
          rw [cell_of_heap hg, Nat.add_assoc]; exact e1
        · rw [Nat.add_assoc]; exact row_lt (List.getElem?_eq_some_iff.1 hrow).1 hj)
      (fun j a ha => by
        have ha' : row[off + j]? = some a := by simpa using ha
        exact (get (off + j) a ha').2.2.rf hsame (rfL_mem hrf ha'))
  | ptrOld i n r off k v hm hz0 hn =>
    intro a' hp _
    simp only [purK, hm] at hp
    rw [if_neg (by omega)] at hp
    simp at hp

theorem purKL_ok {w0 : Gd} {S0 : Nat → Nat → Prop} {c : Cx} (hi : Inv w0 S0 c) (bs : List Bid) {as l : List AV} {vs : List Value} (h : RepL c as vs) (hp : purKL c.m as = some l) (hr : ∀ b, b ∈ refsL as → b ∈ bs) : RepL (c.share bs).bare l vs := by
  obtain ⟨h1, h2⟩ := purKL_get hp
  refine ⟨by rw [h.1, h1], fun i a v ha hv => ?_⟩
  have hil : i < as.length := by have := (List.getElem?_eq_some_iff.1 ha).1; omega
  obtain ⟨x, hx1, hx2⟩ := h2 i as[i] (List.getElem?_eq_getElem hil)
  rw [ha] at hx1
  simp only [Option.some.injEq] at hx1
  subst hx1
  exact purK_ok hi bs (h.2 i _ v (List.getElem?_eq_getElem hil) hv) hx2 (fun b hb => hr b (refsL_mem (List.getElem?_eq_getElem hil) b hb))

/-- The call of a function whose contract is known. -/
theorem callK_ok {P : Program} {w0 : Gd} {S0 : Nat → Nat → Prop} {c : Cx} (hi : Inv w0 S0 c) {f : FuncId} {as l : List AV} {vs : List Value} {r : AV} (hv : RepL c as vs) (hp : purKL c.m as = some l) (hc : PureC P f l r) :
    Calls P f vs.toArray c.w (fun e w' => ∃ v c', e = .returned v ∧ c'.w = w' ∧ c'.m = applyW c.m (if r.scal = true then [] else fzW c.m (refsL as)) ∧ Inv w0 S0 c' ∧ c.Ext c' ∧ Rep c' r v) := by
  obtain ⟨hI1, hE1⟩ := hi.share (refsL as)
  refine (hc.2 (c.share (refsL as)).S c.w vs (fun b o h => hI1.sdom b o h) (purKL_ok hi (refsL as) hv hp (fun b hb => hb))).mono ?_
  rintro e w' ⟨v, rfl, hb, hr⟩
  by_cases hs : r.scal = true
  · obtain ⟨hI2, hE2⟩ := hi.grow hb
    exact ⟨v, _, rfl, rfl, by simp [hs, applyW], hI2, hE2, hr.scal hs⟩
  · obtain ⟨hI2, hE2⟩ := hI1.grow hb
    obtain ⟨hI3, hE3⟩ := hI2.addS (fun b o => c.w.heap.size ≤ b ∧ b < w'.heap.size) (fun b o h => ⟨fun hp => by have := w0.lt _ _ hi.q _ hp; omega, h.2⟩) (fun i k o hk hy hx => by
      have h1 := (hI1.blk i k hk hy).lt
      have h2 := hx.1
      have h3 : (c.share (refsL as)).w = c.w := rfl
      rw [h3] at h1
      simp only at h2
      omega)
    refine ⟨v, _, rfl, rfl, by simp only [hs, if_false, applyW_fz, Bool.false_eq_true]; rfl, hI3, (hE1.trans hE2).trans hE3, ?_⟩
    refine Rep.ext ?_ hr
    refine ⟨fun b o h => ⟨h, rfl⟩, fun i k h => ?_, .refl _⟩
    simp at h

section
variable {m m' : Mem}
mutual
theorem purK_congr : ∀ {a : AV}, (∀ b, b ∈ a.refs → m' b = m b) → purK m' a = purK m a
  | .undef, _ => rfl
  | .bool _, _ => rfl
  | .int _ _, _ => rfl
  | .nilp, _ => rfl
  | .sl _ _ _, _ => rfl
  | .rp _, _ => rfl
  | .mp _, _ => rfl
  | .yld _, _ => rfl
  | .own b n, h => by simp only [purK, h b (by simp [AV.refs])]
  | .ptr b n r o, h => by simp only [purK, h b (by simp [AV.refs])]
  | .agg cs, h => by simp only [purK, purKL_congr (as := cs) (by simpa [AV.refs] using h)]
  | .tup cs, h => by simp only [purK, purKL_congr (as := cs) (by simpa [AV.refs] using h)]
  | .fn f cs, h => by simp only [purK, purKL_congr (as := cs) (by simpa [AV.refs] using h)]
theorem purKL_congr : ∀ {as : List AV}, (∀ b, b ∈ refsL as → m' b = m b) → purKL m' as = purKL m as
  | [], _ => rfl
  | a :: as, h => by simp only [purKL, purK_congr (a := a) (fun b hb => h b (by simp [refsL, hb])), purKL_congr (as := as) (fun b hb => h b (by simp [refsL, hb]))]
end
end

theorem EffC.pureK {P : Program} {k : FuncId} {as l : List AV} {id : Bid} {m : Mem} {r : AV} (hp : purKL m as = some l) (hc : PureC P k l r) : EffC P k as id m ⟨r, if r.scal = true then [] else fzW m (refsL as)⟩ := by
  refine ⟨hc.1, fun w0 S0 c vs hag hid hiy hi hv => ?_⟩
  have := callK_ok hi hv ((purKL_congr hag).trans hp) hc
  rw [fzW_congr hag] at this
  exact this

theorem fun_okK {P : Program} {f : FuncId} {fn : Func} {af : AFn} (hf : P.funcs[f]? = some fn) (hc : cfun P fn = some af) {args : List AV} {r : AV} (hn : args.length ≤ af.n)
    (h : awp P af.body (fun x s => (match x with | .exit _ => False | _ => True) ∧ ∃ x, resV s af.res = some x ∧ purK s.m x = some r) ⟨argE args, fun _ => none, 0⟩) : PureC P f args r := by
  refine ⟨bodied_of hf hc, fun S w vs hdom hvs => fun_run (c0 := startC S w) (Y0 := (· = Gd.of w)) (by simp) hf hc (fun h => by cases h) ⟨_, rfl, startI hdom⟩ hn hvs h ?_⟩
  rintro s x v c hm ⟨_, rfl, hI⟩ _ h2 hp
  refine ⟨v, rfl, hI.q.2, ?_⟩
  rw [← hm] at hp
  have := purK_ok hI x.refs h2 hp (fun b hb => hb)
  obtain ⟨hIs, _⟩ := hI.share x.refs
  have hx : Cx.Ext (c.share x.refs).bare ⟨fun b o => S b o ∨ (w.heap.size ≤ b ∧ b < c.w.heap.size), fun _ => 0, c.w, fun _ => none⟩ := by
    refine ⟨fun b o hbo => ⟨?_, rfl⟩, fun i k h => by simp [Cx.bare] at h, .refl _⟩
    rcases hIs.sn b o hbo with h | h
    · exact .inl h
    · exact .inr ⟨Nat.le_of_not_lt h, hIs.sdom b o hbo⟩
  exact Rep.ext hx this


end Go.Proofs.Ytpgkpdojpmikkaa.Eng

/-
  THE ENGINE, part 7: slices that are cut; values that are handed over to a call; calls.
-/
import Derived.Test.YtpgkpdojpmikkaaE6
set_option linter.unusedVariables false
set_option linter.unusedSimpArgs false
namespace Go.Proofs.Ytpgkpdojpmikkaa.Eng
open Go Go.RowKit

/-! ### sharing one's own blocks -/
def fz (k : ABlk) : ABlk := { k with sole := false }
def fzM (m : Mem) (bs : List Bid) : Mem := fun b => if b ∈ bs then (m b).map fz else m b
/-- The cells of one's own blocks. -/
def cellsOf (c : Cx) (bs : List Bid) : Nat → Nat → Prop := fun g o => ∃ b k, b ∈ bs ∧ c.m b = some k ∧ g = c.β b ∧ o < k.rows.length * k.z
def Cx.share (c : Cx) (bs : List Bid) : Cx := ⟨fun g o => c.S g o ∨ cellsOf c bs g o, c.β, c.w, fzM c.m bs⟩

theorem fzM_some {m : Mem} {bs : List Bid} {b : Bid} {k : ABlk} (h : fzM m bs b = some k) : ∃ k0, m b = some k0 ∧ k.z = k0.z ∧ k.rows = k0.rows ∧ (b ∈ bs → k.sole = false) ∧ (b ∉ bs → k = k0) := by
  unfold fzM at h
  split at h
  · rename_i hb
    simp only [Option.map_eq_some_iff] at h
    obtain ⟨k0, h1, rfl⟩ := h
    exact ⟨k0, h1, rfl, rfl, fun _ => rfl, fun h => absurd hb h⟩
  · rename_i hb
    exact ⟨k, h, rfl, rfl, fun h => absurd h hb, fun _ => rfl⟩

theorem fzM_of {m : Mem} {bs : List Bid} {b : Bid} {k : ABlk} (h : m b = some k) : ∃ k', fzM m bs b = some k' ∧ k'.z = k.z ∧ k'.rows = k.rows := by
  unfold fzM
  split
  · exact ⟨fz k, by simp [h], rfl, rfl⟩
  · exact ⟨k, h, rfl, rfl⟩

theorem Inv.share {w0 : Gd} {S0 : Nat → Nat → Prop} {c : Cx} (hi : Inv w0 S0 c) (bs : List Bid) : Inv w0 S0 (c.share bs) ∧ c.Ext (c.share bs) := by
  have hx : c.Ext (c.share bs) := by
    refine ⟨fun b o h => ⟨.inl h, rfl⟩, fun i k h => ?_, .refl _⟩
    obtain ⟨k', h1, h2, h3⟩ := fzM_of (bs := bs) h
    exact ⟨k', h1, h2, fun _ => rfl, fun _ => ⟨by rw [h3]; exact Nat.le_refl _, fun _ => ⟨rfl, fun _ h => h⟩⟩⟩
  refine ⟨⟨fun i k h hy => ?_, fun i k o h hy hs hS => ?_, fun i j k l h1 h2 y1 y2 hb => ?_, fun b o h => ?_, fun b o h => .inl (hi.s0 b o h), fun b o h => ?_, fun k hk => ?_, ?_⟩, hx⟩
  · obtain ⟨k0, h0, hz, hr, _⟩ := fzM_some h
    have hb := (hi.blk i k0 h0 hy).ext hx (hi.blk i k0 h0 hy).base rfl
    refine ⟨hb.base, by rw [hz, hr]; exact hb.len', fun hp => ?_, fun h0 => by rw [hr]; exact hb.map (by omega)⟩
    have := hb.cells' (by omega)
    rw [hz, hr]; exact this
  · obtain ⟨k0, h0, hz, hr, hin, hout⟩ := fzM_some h
    rcases hS with hS | ⟨b, k1, hb, hk1, hβ, ho⟩
    · refine hi.excl i k0 o h0 hy ?_ hS
      rcases hs with hs | hs
      · by_cases hb : i ∈ bs
        · rw [hin hb] at hs; cases hs
        · rw [hout hb] at hs; exact .inl hs
      · rw [hz, hr] at hs; exact .inr hs
    · have hz1 : 0 < k1.z := by
        rcases Nat.eq_zero_or_pos k1.z with e | e
        · rw [e] at ho; omega
        · exact e
      have e : i = b := hi.inj i b k0 k1 h0 hk1 hy (hi.ney hk1 hz1) hβ
      subst e
      rw [h0] at hk1
      simp only [Option.some.injEq] at hk1
      subst hk1
      rcases hs with hs | hs
      · rw [hin hb] at hs; cases hs
      · rw [hz, hr] at hs; omega
  · obtain ⟨k0, h0, _⟩ := fzM_some h1
    obtain ⟨l0, h0', _⟩ := fzM_some h2
    exact hi.inj i j k0 l0 h0 h0' y1 y2 hb
  · rcases h with h | ⟨i, k, _, hk, rfl, ho⟩
    · exact hi.sdom b o h
    · have hz1 : 0 < k.z := by
        rcases Nat.eq_zero_or_pos k.z with e | e
        · rw [e] at ho; omega
        · exact e
      exact (hi.blkC hk hz1).lt
  · rcases h with h | ⟨i, k, _, hk, rfl, ho⟩
    · exact hi.sn b o h
    · have hz1 : 0 < k.z := by
        rcases Nat.eq_zero_or_pos k.z with e | e
        · rw [e] at ho; omega
        · exact e
      exact .inr (hi.blkC hk hz1).base
  · obtain ⟨k0, h0, hz, _⟩ := fzM_some hk
    rw [hz]; exact hi.gh k0 h0
  · show w0.Q ((fzM c.m bs yB).map (·.rows)) c.w
    have : (fzM c.m bs yB).map (·.rows) = (c.m yB).map (·.rows) := by
      unfold fzM; split
      · rw [Option.map_map]; rfl
      · rfl
    rw [this]; exact hi.q

/-! ### what a call is handed -/
mutual
def AV.rf : AV → Bool
  | .own _ _ => false
  | .ptr _ _ _ _ => false
  | .mp _ => false
  | .agg cs => rfL cs
  | .tup cs => rfL cs
  | .rp cs => rfL cs
  | .fn _ cs => rfL cs
  | .sl _ _ rows => rfR rows
  | _ => true
def rfL : List AV → Bool
  | [] => true
  | a :: as => a.rf && rfL as
def rfR : List (List AV) → Bool
  | [] => true
  | r :: rs => rfL r && rfR rs
end

theorem rfL_mem : ∀ {cs : List AV}, rfL cs = true → ∀ {i : Nat} {a : AV}, cs[i]? = some a → a.rf = true
  | [], _, i, a, h => by simp at h
  | b :: cs, h, 0, a, ha => by simp only [rfL, Bool.and_eq_true] at h; simp at ha; subst ha; exact h.1
  | b :: cs, h, i + 1, a, ha => by simp only [rfL, Bool.and_eq_true] at h; exact rfL_mem h.2 (by simpa using ha)
theorem rfR_mem : ∀ {rows : List (List AV)}, rfR rows = true → ∀ {i : Nat} {r : List AV}, rows[i]? = some r → rfL r = true
  | [], _, i, a, h => by simp at h
  | b :: cs, h, 0, a, ha => by simp only [rfR, Bool.and_eq_true] at h; simp at ha; subst ha; exact h.1
  | b :: cs, h, i + 1, a, ha => by simp only [rfR, Bool.and_eq_true] at h; exact rfR_mem h.2 (by simpa using ha)

/-- What has no references to one's own blocks reads the same without them. -/
theorem Rep.rf {c c' : Cx} (hs : ∀ b o, c.S b o → c'.S b o ∧ c'.w.cell? ⟨b, o, none⟩ = c.w.cell? ⟨b, o, none⟩) {a : AV} {v : Value} (h : Rep c a v) (hf : a.rf = true) : Rep c' a v := by
  induction h with
  | undef v => exact .undef v
  | bool b => exact .bool b
  | int k n => exact .int k n
  | agg cs vs hl _ ih => exact .agg cs vs hl (fun i a v h1 h2 => ih i a v h1 h2 (rfL_mem (by simpa [AV.rf] using hf) h1))
  | tup cs vs hl _ ih => exact .tup cs vs hl (fun i a v h1 h2 => ih i a v h1 h2 (rfL_mem (by simpa [AV.rf] using hf) h1))
  | sl z full rows A cap b o vs hc hf' hz hA hcell _ ih =>
    refine .sl z full rows A cap b o vs hc hf' hz hA (fun i j r a hr ha => ?_) (fun i j r a hr ha => ih i j r a hr ha (rfL_mem (rfR_mem (by simpa [AV.rf] using hf) hr) ha))
    obtain ⟨h1, h2, h3⟩ := hcell i j r a hr ha
    exact ⟨(hs _ _ h2).2.trans h1, (hs _ _ h2).1, h3⟩
  | rp cs b o vs hcell _ ih =>
    refine .rp cs b o vs (fun j a ha => ?_) (fun j a ha => ih j a ha (rfL_mem (by simpa [AV.rf] using hf) ha))
    obtain ⟨h1, h2, h3⟩ := hcell j a ha
    exact ⟨(hs _ _ h2).2.trans h1, (hs _ _ h2).1, h3⟩
  | own i n cap k hm hz hn hr => simp [AV.rf] at hf
  | ownOld i n k v hm hz hn => simp [AV.rf] at hf
  | ptr i n r off k hm hz hn => simp [AV.rf] at hf
  | ptrOld i n r off k v hm hz hn => simp [AV.rf] at hf
  | mp i k h1 hm hz => simp [AV.rf] at hf
  | yld l => exact .yld l
  | fn f cs vs hl _ ih => exact .fn f cs vs hl (fun i a v h1 h2 => ih i a v h1 h2 (rfL_mem (by simpa [AV.rf] using hf) h1))
  | nilp => exact .nilp

mutual
/-- A value as a call may have it: one's own blocks as what is only read. -/
def pur (m : Mem) : AV → Option AV
  | .own b n => match m b with
    | some k => if k.rows.length = n ∧ rfR k.rows = true then some (.sl k.z false k.rows) else none
    | none => none
  | .ptr b n r off => match m b with
    | some k => if k.rows.length = n then match k.rows[r]? with
        | some row => if rfL row = true then some (.rp (row.drop off)) else none
        | none => none
      else none
    | none => none
  | .agg cs => match purL m cs with
    | some l => some (.agg l)
    | none => none
  | .tup cs => match purL m cs with
    | some l => some (.tup l)
    | none => none
  | .fn f cs => match purL m cs with
    | some l => some (.fn f l)
    | none => none
  | .sl z _ rows => if rfR rows = true then some (.sl z false rows) else none
  | .rp cs => if rfL cs = true then some (.rp cs) else none
  | .undef => some .undef
  | .bool b => some (.bool b)
  | .int k n => some (.int k n)
  | .nilp => some .nilp
  | .mp _ => none
  | .yld l => some (.yld l)
def purL (m : Mem) : List AV → Option (List AV)
  | [] => some []
  | a :: as => match pur m a, purL m as with
    | some x, some l => some (x :: l)
    | _, _ => none
end

mutual
/-- One's own blocks that a value names. -/
def AV.refs : AV → List Bid
  | .own b _ => [b]
  | .ptr b _ _ _ => [b]
  | .mp b => [b]
  | .agg cs => refsL cs
  | .tup cs => refsL cs
  | .fn _ cs => refsL cs
  | _ => []
def refsL : List AV → List Bid
  | [] => []
  | a :: as => a.refs ++ refsL as
end

theorem refsL_mem : ∀ {cs : List AV} {i : Nat} {a : AV}, cs[i]? = some a → ∀ b, b ∈ a.refs → b ∈ refsL cs
  | [], i, a, h, b, hb => by simp at h
  | x :: cs, 0, a, ha, b, hb => by simp at ha; subst ha; simp [refsL, hb]
  | x :: cs, i + 1, a, ha, b, hb => by simp only [refsL, List.mem_append]; exact .inr (refsL_mem (by simpa using ha) b hb)

theorem purL_get {m : Mem} : ∀ {cs l : List AV}, purL m cs = some l → l.length = cs.length ∧ ∀ (i : Nat) (a : AV), cs[i]? = some a → ∃ x, l[i]? = some x ∧ pur m a = some x
  | [], l, h => by simp only [purL, Option.some.injEq] at h; subst h; exact ⟨rfl, fun i a h => by simp at h⟩
  | b :: cs, l, h => by
    simp only [purL] at h
    split at h <;> try (simp at h; done)
    rename_i x l' h1 h2
    simp only [Option.some.injEq] at h
    subst h
    obtain ⟨h3, h4⟩ := purL_get h2
    refine ⟨by simp [h3], fun i a ha => ?_⟩
    cases i with
    | zero => simp at ha; subst ha; exact ⟨x, rfl, h1⟩
    | succ i => simp at ha ⊢; exact h4 i a ha

/-- The world as a call sees it. -/
def Cx.bare (c : Cx) : Cx := ⟨c.S, fun _ => 0, c.w, fun _ => none⟩

theorem pur_ok {w0 : Gd} {S0 : Nat → Nat → Prop} {c : Cx} (hi : Inv w0 S0 c) (bs : List Bid) {a : AV} {v : Value} (h : Rep c a v) : ∀ {a' : AV}, pur c.m a = some a' → (∀ b, b ∈ a.refs → b ∈ bs) → Rep (c.share bs).bare a' v := by
  have hE := (hi.share bs).2
  have hsame : ∀ b o, c.S b o → (c.share bs).bare.S b o ∧ (c.share bs).bare.w.cell? ⟨b, o, none⟩ = c.w.cell? ⟨b, o, none⟩ := fun b o h => ⟨.inl h, rfl⟩
  have list : ∀ (cs : List AV) (vs : Array Value) (l : List AV), vs.size = cs.length → (∀ (i : Nat) (a : AV) (v : Value), cs[i]? = some a → vs[i]? = some v → ∀ {a' : AV}, pur c.m a = some a' → (∀ b, b ∈ a.refs → b ∈ bs) → Rep (c.share bs).bare a' v) →
      purL c.m cs = some l → (∀ b, b ∈ refsL cs → b ∈ bs) → vs.size = l.length ∧ ∀ (i : Nat) (a : AV) (v : Value), l[i]? = some a → vs[i]? = some v → Rep (c.share bs).bare a v := by
    intro cs vs l hl ih hp hr
    obtain ⟨h1, h2⟩ := purL_get hp
    refine ⟨by omega, fun i a v ha hv => ?_⟩
    have hil : i < cs.length := by have := (List.getElem?_eq_some_iff.1 ha).1; omega
    obtain ⟨x, hx1, hx2⟩ := h2 i cs[i] (List.getElem?_eq_getElem hil)
    rw [ha] at hx1
    simp only [Option.some.injEq] at hx1
    subst hx1
    exact ih i cs[i] v (List.getElem?_eq_getElem hil) hv hx2 (fun b hb => hr b (refsL_mem (List.getElem?_eq_getElem hil) b hb))
  induction h with
  | undef v => intro a' hp _; simp only [pur, Option.some.injEq] at hp; subst hp; exact .undef v
  | bool b => intro a' hp _; simp only [pur, Option.some.injEq] at hp; subst hp; exact .bool b
  | int k n => intro a' hp _; simp only [pur, Option.some.injEq] at hp; subst hp; exact .int k n
  | nilp => intro a' hp _; simp only [pur, Option.some.injEq] at hp; subst hp; exact .nilp
  | yld l => intro a' hp _; simp only [pur, Option.some.injEq] at hp; subst hp; exact .yld l
  | mp i k h1 hm hz => intro a' hp _; simp [pur] at hp
  | agg cs vs hl _ ih =>
    intro a' hp hr
    simp only [pur] at hp
    split at hp <;> simp only [reduceCtorEq, Option.some.injEq] at hp
    rename_i l hl'
    subst hp
    obtain ⟨h1, h2⟩ := list cs vs l hl ih hl' (by simpa [AV.refs] using hr)
    exact .agg l vs h1 h2
  | tup cs vs hl _ ih =>
    intro a' hp hr
    simp only [pur] at hp
    split at hp <;> simp only [reduceCtorEq, Option.some.injEq] at hp
    rename_i l hl'
    subst hp
    obtain ⟨h1, h2⟩ := list cs vs l hl ih hl' (by simpa [AV.refs] using hr)
    exact .tup l vs h1 h2
  | fn f cs vs hl _ ih =>
    intro a' hp hr
    simp only [pur] at hp
    split at hp <;> simp only [reduceCtorEq, Option.some.injEq] at hp
    rename_i l hl'
    subst hp
    obtain ⟨h1, h2⟩ := list cs vs l hl ih hl' (by simpa [AV.refs] using hr)
    exact .fn f l vs h1 h2
  | sl z full rows A cap b o vs hc hf hz hA hcell hrep ih =>
    intro a' hp hr
    simp only [pur] at hp
    split at hp <;> simp only [reduceCtorEq, Option.some.injEq] at hp
    rename_i hrf
    subst hp
    exact .sl z false rows A cap b o vs hc (by simp) hz hA (fun i j r a h1 h2 => ⟨(hcell i j r a h1 h2).1, .inl (hcell i j r a h1 h2).2.1, (hcell i j r a h1 h2).2.2⟩)
      (fun i j r a h1 h2 => (hrep i j r a h1 h2).rf hsame (rfL_mem (rfR_mem hrf h1) h2))
  | rp cs b o vs hcell hrep ih =>
    intro a' hp hr
    simp only [pur] at hp
    split at hp <;> simp only [reduceCtorEq, Option.some.injEq] at hp
    rename_i hrf
    subst hp
    exact .rp cs b o vs (fun j a h => ⟨(hcell j a h).1, .inl (hcell j a h).2.1, (hcell j a h).2.2⟩) (fun j a h => (hrep j a h).rf hsame (rfL_mem hrf h))
  | own i n cap k hm hz0 hn hroom =>
    intro a' hp hr
    simp only [pur, hm] at hp
    split at hp <;> simp only [reduceCtorEq, Option.some.injEq] at hp
    rename_i hc
    subst hp
    have hb := hi.blkC hm hz0
    obtain ⟨cs, T, cap', hg, hcs, hl, hcont⟩ := hb.cells
    obtain ⟨cs2, T2, hg2, hs2⟩ := hroom
    rw [hg] at hg2
    simp only [Option.some.injEq, Obj.cells.injEq] at hg2
    obtain ⟨rfl, _, _⟩ := hg2
    have ecap : cap = cap' := Nat.eq_of_mul_eq_mul_right hb.z0 (hs2.symm.trans hcs)
    subst ecap
    subst hn
    have get : ∀ (p j : Nat) (r : List AV) (a : AV), k.rows[p]? = some r → r[j]? = some a → cs[p * k.z + j]? = some (cs.getD (p * k.z + j) undef) ∧ (cs.getD (p * k.z + j) undef).oneCell' = true ∧ Rep c a (cs.getD (p * k.z + j) undef) := by
      intro p j r a h1 h2
      obtain ⟨v, e1, e2, e3⟩ := hcont p j r a h1 h2
      have e : cs.getD (p * k.z + j) undef = v := by simp [Array.getD_eq_getD_getElem?, e1]
      rw [e]; exact ⟨e1, e2, e3⟩
    exact .sl k.z false k.rows (some ⟨c.β i, 0, none⟩) cap (c.β i) 0 (fun q => cs.getD q undef) hl (by simp) hb.len (fun _ => rfl)
      (fun p j r a h1 h2 => by
        obtain ⟨e1, e2, e3⟩ := get p j r a h1 h2
        have hj : j < k.z := by rw [← hb.len r (List.mem_of_getElem? h1)]; exact (List.getElem?_eq_some_iff.1 h2).1
        refine ⟨?_, .inr ⟨i, k, hr i (by simp [AV.refs]), hm, rfl, ?_⟩, e2⟩
        · show c.w.cell? _ = _
          rw [Nat.zero_add, cell_of_heap hg]; exact e1
        · rw [Nat.zero_add]; exact row_lt (List.getElem?_eq_some_iff.1 h1).1 hj)
      (fun p j r a h1 h2 => (get p j r a h1 h2).2.2.rf hsame (rfL_mem (rfR_mem hc.2 h1) h2))
  | ownOld i n k v hm hz0 hn =>
    intro a' hp _
    simp only [pur, hm] at hp
    rw [if_neg (by omega)] at hp
    simp at hp
  | ptr i n r off k hm hz0 hn =>
    intro a' hp hr
    simp only [pur, hm, hn, if_true] at hp
    split at hp <;> try (simp at hp; done)
    rename_i row hrow
    split at hp <;> simp only [reduceCtorEq, Option.some.injEq] at hp
    rename_i hrf
    subst hp
    have hb := hi.blkC hm hz0
    obtain ⟨cs, T, cap', hg, hcs, hl, hcont⟩ := hb.cells
    have get : ∀ (j : Nat) (a : AV), row[j]? = some a → cs[r * k.z + j]? = some (cs.getD (r * k.z + j) undef) ∧ (cs.getD (r * k.z + j) undef).oneCell' = true ∧ Rep c a (cs.getD (r * k.z + j) undef) := by
      intro j a h2
      obtain ⟨v, e1, e2, e3⟩ := hcont r j row a hrow h2
      have e : cs.getD (r * k.z + j) undef = v := by simp [Array.getD_eq_getD_getElem?, e1]
      rw [e]; exact ⟨e1, e2, e3⟩
    exact .rp (row.drop off) (c.β i) (r * k.z + off) (fun j => cs.getD (r * k.z + (off + j)) undef)
      (fun j a ha => by
        have ha' : row[off + j]? = some a := by simpa using ha
        obtain ⟨e1, e2, e3⟩ := get (off + j) a ha'
        have hj : off + j < k.z := by rw [← hb.len row (List.mem_of_getElem? hrow)]; exact (List.getElem?_eq_some_iff.1 ha').1
        refine ⟨?_, .inr ⟨i, k, hr i (by simp [AV.refs]), hm, rfl, ?_⟩, e2⟩
        · show c.w.cell? _ = _
          rw [cell_of_heap hg, Nat.add_assoc]; exact e1
        · rw [Nat.add_assoc]; exact row_lt (List.getElem?_eq_some_iff.1 hrow).1 hj)
      (fun j a ha => by
        have ha' : row[off + j]? = some a := by simpa using ha
        exact (get (off + j) a ha').2.2.rf hsame (rfL_mem hrf ha'))
  | ptrOld i n r off k v hm hz0 hn =>
    intro a' hp _
    simp only [pur, hm] at hp
    rw [if_neg (by omega)] at hp
    simp at hp

theorem purL_ok {w0 : Gd} {S0 : Nat → Nat → Prop} {c : Cx} (hi : Inv w0 S0 c) (bs : List Bid) {as l : List AV} {vs : List Value} (h : RepL c as vs) (hp : purL c.m as = some l) (hr : ∀ b, b ∈ refsL as → b ∈ bs) : RepL (c.share bs).bare l vs := by
  obtain ⟨h1, h2⟩ := purL_get hp
  refine ⟨by rw [h.1, h1], fun i a v ha hv => ?_⟩
  have hil : i < as.length := by have := (List.getElem?_eq_some_iff.1 ha).1; omega
  obtain ⟨x, hx1, hx2⟩ := h2 i as[i] (List.getElem?_eq_getElem hil)
  rw [ha] at hx1
  simp only [Option.some.injEq] at hx1
  subst hx1
  exact pur_ok hi bs (h.2 i _ v (List.getElem?_eq_getElem hil) hv) hx2 (fun b hb => hr b (refsL_mem (List.getElem?_eq_getElem hil) b hb))

/-! ### contracts -/
/-- It has a body of its own. -/
def Bodied (P : Program) (f : FuncId) : Prop := ∃ fn, P.funcs[f]? = some fn ∧ (fn.name == "runtime.NumGoroutine") = false ∧ fn.body.isSome = true

/-- The function, called with these values, answers r, and writes nothing that was there. -/
def PureC (P : Program) (f : FuncId) (args : List AV) (r : AV) : Prop := Bodied P f ∧
  ∀ (S : Nat → Nat → Prop) (w : World) (vs : List Value), (∀ b o, S b o → b < w.heap.size) → RepL ⟨S, fun _ => 0, w, fun _ => none⟩ args vs →
    Calls P f vs.toArray w (fun e w' => ∃ v, e = .returned v ∧ Below w.heap.size w w' ∧ Rep ⟨fun b o => S b o ∨ (w.heap.size ≤ b ∧ b < w'.heap.size), fun _ => 0, w', fun _ => none⟩ r v)

mutual
/-- Nothing in it leads to memory. -/
def AV.scal : AV → Bool
  | .bool _ => true
  | .int _ _ => true
  | .nilp => true
  | .agg cs => scalL cs
  | .tup cs => scalL cs
  | _ => false
def scalL : List AV → Bool
  | [] => true
  | a :: as => a.scal && scalL as
end

theorem scalL_mem : ∀ {cs : List AV}, scalL cs = true → ∀ {i : Nat} {a : AV}, cs[i]? = some a → a.scal = true
  | [], _, i, a, h => by simp at h
  | b :: cs, h, 0, a, ha => by simp only [scalL, Bool.and_eq_true] at h; simp at ha; subst ha; exact h.1
  | b :: cs, h, i + 1, a, ha => by simp only [scalL, Bool.and_eq_true] at h; exact scalL_mem h.2 (by simpa using ha)

theorem Rep.scal {c c' : Cx} {a : AV} {v : Value} (h : Rep c a v) (hf : a.scal = true) : Rep c' a v := by
  induction h with
  | bool b => exact .bool b
  | int k n => exact .int k n
  | nilp => exact .nilp
  | agg cs vs hl _ ih => exact .agg cs vs hl (fun i a v h1 h2 => ih i a v h1 h2 (scalL_mem (by simpa [AV.scal] using hf) h1))
  | tup cs vs hl _ ih => exact .tup cs vs hl (fun i a v h1 h2 => ih i a v h1 h2 (scalL_mem (by simpa [AV.scal] using hf) h1))
  | _ => simp [AV.scal] at hf

/-- What a call does to one's own blocks. -/
def fzW (m : Mem) (bs : List Bid) : List (Bid × ABlk) := bs.filterMap fun b => (m b).map fun k => (b, fz k)

theorem applyW_fzW (m0 : Mem) (bs : List Bid) : ∀ m : Mem, (∀ b, m b = m0 b ∨ m b = (m0 b).map fz) → applyW m (fzW m0 bs) = fun b => if b ∈ bs then (m0 b).map fz else m b := by
  induction bs with
  | nil => intro m h; simp [fzW, applyW]
  | cons b bs ih =>
    intro m h
    unfold fzW
    cases hb : m0 b with
    | none =>
      have e : (b :: bs).filterMap (fun b => (m0 b).map fun k => (b, fz k)) = fzW m0 bs := by simp [fzW, hb]
      rw [e, ih m h]
      funext x
      by_cases hx : x ∈ bs
      · simp [hx]
      · by_cases hxb : x = b
        · subst hxb
          rcases h x with h' | h' <;> simp [hx, h', hb]
        · simp [hx, hxb]
    | some k =>
      have e : (b :: bs).filterMap (fun b => (m0 b).map fun k => (b, fz k)) = (b, fz k) :: fzW m0 bs := by simp [fzW, hb]
      rw [e, applyW, ih]
      · funext x
        by_cases hx : x ∈ bs
        · simp [hx]
        · by_cases hxb : x = b
          · subst hxb; simp [hx, hb]
          · simp [hx, hxb, updB]
      · intro x
        by_cases hxb : x = b
        · subst hxb; right; simp [hb]
        · simpa [updB, hxb] using h x

theorem applyW_fz (m : Mem) (bs : List Bid) : applyW m (fzW m bs) = fzM m bs := by
  rw [applyW_fzW m bs m (fun _ => .inl rfl)]; rfl

/-- The call of a function whose contract is known. -/
theorem call_ok {P : Program} {w0 : Gd} {S0 : Nat → Nat → Prop} {c : Cx} (hi : Inv w0 S0 c) {f : FuncId} {as l : List AV} {vs : List Value} {r : AV} (hv : RepL c as vs) (hp : purL c.m as = some l) (hc : PureC P f l r) :
    Calls P f vs.toArray c.w (fun e w' => ∃ v c', e = .returned v ∧ c'.w = w' ∧ c'.m = applyW c.m (if r.scal = true then [] else fzW c.m (refsL as)) ∧ Inv w0 S0 c' ∧ c.Ext c' ∧ Rep c' r v) := by
  obtain ⟨hI1, hE1⟩ := hi.share (refsL as)
  refine (hc.2 (c.share (refsL as)).S c.w vs (fun b o h => hI1.sdom b o h) (purL_ok hi (refsL as) hv hp (fun b hb => hb))).mono ?_
  rintro e w' ⟨v, rfl, hb, hr⟩
  by_cases hs : r.scal = true
  · obtain ⟨hI2, hE2⟩ := hi.grow hb
    exact ⟨v, _, rfl, rfl, by simp [hs, applyW], hI2, hE2, hr.scal hs⟩
  · obtain ⟨hI2, hE2⟩ := hI1.grow hb
    obtain ⟨hI3, hE3⟩ := hI2.addS (fun b o => c.w.heap.size ≤ b ∧ b < w'.heap.size) (fun b o h => ⟨fun hp => by have := w0.lt _ _ hi.q _ hp; omega, h.2⟩) (fun i k o hk hy hx => by
      have h1 := (hI1.blk i k hk hy).lt
      have h2 := hx.1
      have h3 : (c.share (refsL as)).w = c.w := rfl
      rw [h3] at h1
      simp only at h2
      omega)
    refine ⟨v, _, rfl, rfl, by simp only [hs, if_false, applyW_fz, Bool.false_eq_true]; rfl, hI3, (hE1.trans hE2).trans hE3, ?_⟩
    refine Rep.ext ?_ hr
    refine ⟨fun b o h => ⟨h, rfl⟩, fun i k h => ?_, .refl _⟩
    simp at h

/-- What a call does, said of whatever memory the caller has that is like m where it matters: where the arguments lead, and at the name of a new block. -/
def EffC (P : Program) (k : FuncId) (as : List AV) (id : Bid) (m : Mem) (f : Eff) : Prop := Bodied P k ∧
  ∀ (w0 : Gd) (S0 : Nat → Nat → Prop) (c : Cx) (vs : List Value), (∀ b, b ∈ refsL as → c.m b = m b) → c.m id = m id → id ≠ yB → Inv w0 S0 c → RepL c as vs →
    Calls P k vs.toArray c.w (fun e w' => ∃ v c', e = .returned v ∧ c'.w = w' ∧ c'.m = applyW c.m f.ws ∧ Inv w0 S0 c' ∧ c.Ext c' ∧ Rep c' f.v v)

theorem EffC.congr {P : Program} {k : FuncId} {as : List AV} {id : Bid} {m m' : Mem} {f : Eff} (h : EffC P k as id m f) (hm : ∀ b, b ∈ refsL as → m' b = m b) (hid : m' id = m id) : EffC P k as id m' f :=
  ⟨h.1, fun w0 S0 c vs h1 h2 hy hi hv => h.2 w0 S0 c vs (fun b hb => (h1 b hb).trans (hm b hb)) (h2.trans hid) hy hi hv⟩

def oneM (i : Bid) (k : ABlk) : Mem := fun j => if j = i then some k else none

/-- The function, called with these values, answers a slice that is nobody else's, of these rows. -/
def OwnC (P : Program) (f : FuncId) (args : List AV) (z : Nat) (rows : List (List AV)) : Prop := Bodied P f ∧ 0 < z ∧ rfR rows = true ∧
  ∀ (S : Nat → Nat → Prop) (w : World) (vs : List Value), (∀ b o, S b o → b < w.heap.size) → RepL ⟨S, fun _ => 0, w, fun _ => none⟩ args vs →
    Calls P f vs.toArray w (fun e w' => ∃ v c', e = .returned v ∧ c'.w = w' ∧ c'.m = oneM (0, 1) ⟨z, rows, true⟩ ∧ Inv (.of w) S c' ∧ Rep c' (.own (0, 1) rows.length) v)

end Go.Proofs.Ytpgkpdojpmikkaa.Eng

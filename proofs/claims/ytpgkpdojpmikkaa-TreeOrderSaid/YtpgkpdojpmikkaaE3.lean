/-
  THE ENGINE, part 3: what the operations do to abstract values, and that the machine does the same: reading, addresses, variables.
-/
import Derived.Test.YtpgkpdojpmikkaaE2
set_option linter.unusedVariables false
set_option linter.unusedSimpArgs false
namespace Go.Proofs.Ytpgkpdojpmikkaa.Eng
open Go Go.RowKit

abbrev AEnv := Nat → AV

def ev (P : Program) (e : AEnv) (t : TypeId) : Operand → AV
  | .tmp i => e i
  | .const v => absC P t v
  | .func f => .fn f []
  | .global _ => .undef

/-- What is yielded, and the blocks that are written. -/
structure Eff where
  v : AV
  ws : List (Bid × ABlk)

def applyW (m : Mem) : List (Bid × ABlk) → Mem
  | [] => m
  | (i, k) :: r => applyW (updB m i (some k)) r

def EnvOk (c : Cx) (e : AEnv) (a : Act) : Prop := ∀ i, Rep c (e i) (a.tmps.getD i undef)

theorem EnvOk.ext {c c' : Cx} (hx : c.Ext c') {e : AEnv} {a : Act} (h : EnvOk c e a) : EnvOk c' e a := fun i => (h i).ext hx

theorem ev_ok {P : Program} {c : Cx} {e : AEnv} {a : Act} (h : EnvOk c e a) (t : TypeId) (x : Operand) : Rep c (ev P e t x) (a.eval x) := by
  cases x with
  | tmp i => exact h i
  | const v => exact absC_ok c P t v
  | func f => exact .fn f [] #[] rfl (fun i a v h1 => by simp at h1)
  | global g => exact .undef _

/-- The machine's part of an operation that yields a value. -/
def OpOk (P : Program) (w0 : Gd) (S0 : Nat → Nat → Prop) (c : Cx) (s : Sem Value) (f : Eff) : Prop :=
  ∃ v c', s.run P c.w = .ok v c'.w ∧ c'.m = applyW c.m f.ws ∧ Inv w0 S0 c' ∧ c.Ext c' ∧ Rep c' f.v v

theorem OpOk.same {P : Program} {w0 : Gd} {S0 : Nat → Nat → Prop} {c : Cx} (hi : Inv w0 S0 c) {s : Sem Value} {x : AV} {v : Value} (h : s.run P c.w = .ok v c.w) (hr : Rep c x v) : OpOk P w0 S0 c s ⟨x, []⟩ :=
  ⟨v, c, h, rfl, hi, .refl c, hr⟩

theorem RepL.of_rows {c : Cx} {cs : List AV} {vs : Nat → Value} (h : ∀ (j : Nat) (a : AV), cs[j]? = some a → Rep c a (vs j)) : RepL c cs ((List.range cs.length).map vs) :=
  ⟨by simp, fun i a v h1 h2 => by
    have hi := (List.getElem?_eq_some_iff.1 h1).1
    simp only [List.getElem?_map, List.getElem?_range hi, Option.map_some, Option.some.injEq] at h2
    subst h2
    exact h i a h1⟩

/-! ### reading -/
/-- The cells behind a pointer. -/
def rdRow (m : Mem) : AV → Option (List AV)
  | .ptr b n r off => match m b with
    | some k => if k.rows.length = n then (k.rows[r]?).map (·.drop off) else none
    | none => none
  | .rp cs => some cs
  | _ => none

theorem rdRow_ok {w0 : Gd} {S0 : Nat → Nat → Prop} {c : Cx} (hi : Inv w0 S0 c) {a : AV} {v : Value} {cs : List AV} (hr : Rep c a v) (h : rdRow c.m a = some cs) :
    ∃ (b o : Nat) (vs : Nat → Value), v = .pointer (some ⟨b, o, none⟩) ∧ (∀ (j : Nat) (a : AV), cs[j]? = some a → c.w.cell? ⟨b, o + j, none⟩ = some (vs j) ∧ (vs j).oneCell' = true ∧ Rep c a (vs j)) := by
  cases hr <;> (simp only [rdRow] at h) <;> try (simp at h; done)
  case rp cs' b o vs hcell hrep =>
    simp only [Option.some.injEq] at h
    subst h
    exact ⟨b, o, vs, rfl, fun j a ha => ⟨(hcell j a ha).1, (hcell j a ha).2.2, hrep j a ha⟩⟩
  case ptr i n r off k hm hz0 hn =>
    simp only [hm, hn, if_true] at h
    cases hk : k.rows[r]? with
    | none => simp [hk] at h
    | some row =>
      simp only [hk, Option.map_some, Option.some.injEq] at h
      subst h
      have hb := hi.blkC hm hz0
      obtain ⟨cs, T, cap, hg, hs, hl, hc⟩ := hb.cells
      refine ⟨c.β i, r * k.z + off, fun j => cs.getD (r * k.z + (off + j)) undef, rfl, fun j a ha => ?_⟩
      have ha' : row[off + j]? = some a := by simpa using ha
      obtain ⟨u, hu, ho, hrep⟩ := hc r (off + j) row a hk ha'
      have e : cs.getD (r * k.z + (off + j)) undef = u := by simp [Array.getD_eq_getD_getElem?, hu]
      dsimp only
      rw [e]
      refine ⟨?_, ho, hrep⟩
      rw [cell_of_heap hg, Nat.add_assoc, hu]
  case ptrOld i n r off k hm hz0 hn =>
    simp only [hm] at h
    rw [if_neg (by omega)] at h
    simp at h

def mkv (ag : Bool) (cs : List AV) : Option AV := if ag then some (.agg cs) else match cs with
  | [a] => some a
  | _ => none

def effLoad (P : Program) (T : TypeId) (m : Mem) (a : AV) : Option Eff := match tz P T, tagg P T, rdRow m a with
  | some z, some ag, some cs => if z ≤ cs.length then (mkv ag (cs.take z)).map fun v => ⟨v, []⟩ else none
  | _, _, _ => none

theorem run_isAgg' {P : Program} {t : TypeId} {b : Bool} (h : tagg P t = some b) (w : World) : (isAgg t).run P w = .ok b w := by
  unfold tagg at h
  split at h <;> simp at h <;> subst h <;> rename_i hu <;> simp [isAgg, run_underlying hu]

theorem run_sizeOf' {P : Program} {t : TypeId} {z : Nat} (h : tz P t = some z) (w : World) : (sizeOf t).run P w = .ok z w := by
  unfold tz at h
  simp only [Option.map_eq_some_iff] at h
  obtain ⟨i, hi, rfl⟩ := h
  simp [sizeOf, typeInfo, hi]

theorem run_loadVar' {P : Program} {t : TypeId} {z : Nat} {ag : Bool} (hz : tz P t = some z) (ha : tagg P t = some ag) (w : World) (a : Addr) (vs : List Value) (hl : vs.length = z)
    (h : ∀ j v, vs[j]? = some v → w.cell? (a.add j) = some v) :
    (ag = true → (loadVar t a).run P w = .ok (.agg vs.toArray) w) ∧ (ag = false → ∀ v, vs = [v] → (loadVar t a).run P w = .ok v w) := by
  constructor
  · rintro rfl
    simp [loadVar, run_isAgg' ha, run_sizeOf' hz, ← hl, run_loadCells_list w a vs h]
  · rintro rfl v rfl
    have := h 0 v rfl
    rw [Addr.add_zero'] at this
    simp [loadVar, run_isAgg' ha, this]

theorem effLoad_ok {P : Program} {w0 : Gd} {S0 : Nat → Nat → Prop} {c : Cx} (hi : Inv w0 S0 c) {T : TypeId} {a : AV} {v : Value} {f : Eff} (hr : Rep c a v) (h : effLoad P T c.m a = some f) : OpOk P w0 S0 c (Instr.loadAt T v) f := by
  unfold effLoad at h
  split at h <;> try (simp at h; done)
  rename_i z ag cs hz hag hrd
  split at h <;> try (simp at h; done)
  rename_i hle
  obtain ⟨b, o, vs, rfl, hcell⟩ := rdRow_ok hi hr hrd
  have hlen : (cs.take z).length = z := by simp; omega
  have hlv : ((List.range z).map vs).length = z := by simp
  have hget : ∀ j u, ((List.range z).map vs)[j]? = some u → c.w.cell? ((⟨b, o, none⟩ : Addr).add j) = some u := by
    intro j u hu
    have hj : j < z := by have := (List.getElem?_eq_some_iff.1 hu).1; simpa using this
    simp only [List.getElem?_map, List.getElem?_range hj, Option.map_some, Option.some.injEq] at hu
    subst hu
    rw [Addr.add_lit]
    exact (hcell j cs[j] (List.getElem?_eq_getElem (by omega))).1
  have hL := run_loadVar' (P := P) hz hag c.w ⟨b, o, none⟩ _ hlv hget
  have hrep : RepL c (cs.take z) ((List.range z).map vs) := by
    have := RepL.of_rows (c := c) (cs := cs.take z) (vs := vs) (fun j a ha => (hcell j a (by rw [List.getElem?_take] at ha; split at ha; exact ha; simp at ha)).2.2)
    rwa [hlen] at this
  cases ag with
  | true =>
    simp only [mkv, if_true, Option.map_some, Option.some.injEq] at h
    subst h
    exact OpOk.same hi (v := .agg ((List.range z).map vs).toArray) (by simp [Instr.loadAt, Instr.sureAddr, hL.1 rfl]) (.agg _ _ (by simp; omega) (fun i a v h1 h2 => hrep.2 i a v h1 (by simpa using h2)))
  | false =>
    simp only [mkv, Bool.false_eq_true, if_false] at h
    split at h <;> try (simp at h; done)
    rename_i x hx
    simp only [Option.map_some, Option.some.injEq] at h
    subst h
    obtain ⟨u, r, hu, h1, h2⟩ := (hx ▸ hrep).cons_inv
    rw [h2.nil_inv] at hu
    exact OpOk.same hi (by simp [Instr.loadAt, Instr.sureAddr, hL.2 rfl u hu]) h1

/-! ### addresses -/
def effFieldAddr (P : Program) (T : TypeId) (m : Mem) (x : AV) (fd : Nat) : Option Eff := match tfld P T fd with
  | some (off, _, z) => if z = 0 then none else match x with
    | .ptr b n r o => match m b with
      | some k => if k.rows.length = n then some ⟨.ptr b n r (o + off), []⟩ else none
      | none => none
    | .rp cs => some ⟨.rp (cs.drop off), []⟩
    | _ => none
  | none => none

theorem tfld_ok {P : Program} {T : TypeId} {fd off z : Nat} {ty : TypeId} (h : tfld P T fd = some (off, ty, z)) : ∃ fs x, P.underlying T = some (.struct fs) ∧ fs[fd]? = some x ∧ x.offset = off ∧ x.type = ty ∧ tz P ty = some z := by
  unfold tfld at h
  split at h <;> try (simp at h; done)
  rename_i fs hu
  split at h <;> try (simp at h; done)
  rename_i x hx
  simp only [Option.map_eq_some_iff, Prod.mk.injEq] at h
  obtain ⟨q, hq, rfl, rfl, rfl⟩ := h
  exact ⟨fs, x, hu, hx, rfl, rfl, hq⟩

theorem run_fieldAt' {P : Program} {T : TypeId} {fd off z : Nat} {ty : TypeId} (h : tfld P T fd = some (off, ty, z)) (hz : z ≠ 0) (w : World) (b o : Nat) :
    (Instr.fieldAt T (.pointer (some ⟨b, o, none⟩)) fd).run P w = .ok (.pointer (some ⟨b, o + off, none⟩)) w := by
  obtain ⟨fs, x, hu, hx, rfl, rfl, hq⟩ := tfld_ok h
  simp [Instr.fieldAt, run_underlying hu, hx, Instr.sureAddr, fieldPlace, run_sizeOf' hq, hz, Addr.add_lit]

theorem effFieldAddr_ok {P : Program} {w0 : Gd} {S0 : Nat → Nat → Prop} {c : Cx} (hi : Inv w0 S0 c) {T : TypeId} {x : AV} {v : Value} {fd : Nat} {f : Eff} (hr : Rep c x v) (h : effFieldAddr P T c.m x fd = some f) : OpOk P w0 S0 c (Instr.fieldAt T v fd) f := by
  unfold effFieldAddr at h
  split at h <;> try (simp at h; done)
  rename_i off ty z hf
  split at h <;> try (simp at h; done)
  rename_i hz
  cases hr <;> (try dsimp only at h) <;> try (simp at h; done)
  case rp cs b o vs hcell hrep =>
    simp only [Option.some.injEq] at h
    subst h
    refine OpOk.same hi (run_fieldAt' hf hz c.w b o) (.rp _ b (o + off) (fun j => vs (off + j)) (fun j a ha => ?_) (fun j a ha => hrep (off + j) a (by simpa using ha)))
    have := hcell (off + j) a (by simpa using ha)
    rwa [← Nat.add_assoc] at this
  case ptr i n r o k hm hz0 hn =>
    simp only [hm, hn, if_true, Option.some.injEq] at h
    subst h
    refine OpOk.same hi (run_fieldAt' hf hz c.w _ _) ?_
    rw [Nat.add_assoc]
    exact .ptr i _ r (o + off) k hm hz0 rfl
  case ptrOld i n r o k hm hz0 hn =>
    simp only [hm] at h
    rw [if_neg (by omega)] at h
    simp at h

def effIndexAddr (P : Program) (T : TypeId) (m : Mem) (x i : AV) : Option Eff := match tsl P T with
  | some (_, z, _) => match x, i with
    | .sl z' _ rows, .int _ n => if z' = z ∧ 0 ≤ n then (rows[n.toNat]?).map fun r => ⟨.rp r, []⟩ else none
    | .own b l, .int _ n => match m b with
      | some k => if k.rows.length = l ∧ k.z = z ∧ 0 ≤ n ∧ n < l then some ⟨.ptr b l n.toNat 0, []⟩ else none
      | none => none
    | _, _ => none
  | none => none

theorem tsl_ok {P : Program} {T e : TypeId} {z by_ : Nat} (h : tsl P T = some (e, z, by_)) : P.underlying T = some (.slice e) ∧ tz P e = some z ∧ tby P e = some by_ ∧ 0 < z ∧ 0 < by_ := by
  unfold tsl at h
  split at h <;> try (simp at h; done)
  rename_i e' he
  unfold telem at he
  split at he <;> try (simp at he; done)
  rename_i hu
  simp only [Option.some.injEq] at he
  subst he
  split at h <;> try (simp at h; done)
  rename_i z' b' h1 h2
  split at h <;> try (simp at h; done)
  rename_i h3
  simp only [Option.some.injEq, Prod.mk.injEq] at h
  obtain ⟨rfl, rfl, rfl⟩ := h
  exact ⟨hu, h1, h2, h3.1, h3.2⟩

theorem run_indexAt' {P : Program} {T e : TypeId} {z by_ : Nat} (h : tsl P T = some (e, z, by_)) (w : World) (b o len cap : Nat) (k : IntKind) (i : Int) (h0 : 0 ≤ i) (h1 : i < len) :
    (Instr.indexAt T (.slice (some ⟨b, o, none⟩) len cap) (.int k i)).run P w = .ok (.pointer (some ⟨b, o + i.toNat * z, none⟩)) w := by
  obtain ⟨hu, hz, _, _, _⟩ := tsl_ok h
  simp [Instr.indexAt, asIntOf, run_underlying hu, h0, h1, run_sizeOf' hz, Addr.add_lit]

theorem effIndexAddr_ok {P : Program} {w0 : Gd} {S0 : Nat → Nat → Prop} {c : Cx} (hi : Inv w0 S0 c) {T : TypeId} {x y : AV} {v u : Value} {f : Eff} (hr : Rep c x v) (hy : Rep c y u) (h : effIndexAddr P T c.m x y = some f) :
    OpOk P w0 S0 c (Instr.indexAt T v u) f := by
  unfold effIndexAddr at h
  split at h <;> try (simp at h; done)
  rename_i e z by_ ht
  cases hr <;> (try dsimp only at h) <;> try (simp at h; done)
  case sl z' full rows A cap b o vs hc hf hz hA hcell hrep =>
    cases hy <;> (try dsimp only at h) <;> try (simp at h; done)
    rename_i kk n
    split at h <;> try (simp at h; done)
    rename_i hcond
    obtain ⟨rfl, h0⟩ := hcond
    cases hrow : rows[n.toNat]? with
    | none => simp [hrow] at h
    | some row =>
      simp only [hrow, Option.map_some, Option.some.injEq] at h
      subst h
      have hlt := (List.getElem?_eq_some_iff.1 hrow).1
      obtain rfl := hA (by intro h0; simp [h0] at hrow)
      refine OpOk.same hi (run_indexAt' ht c.w b o _ cap kk n h0 (by omega)) (.rp row b _ (fun j => vs (n.toNat * z' + j)) (fun j a ha => ?_) (fun j a ha => hrep _ _ _ _ hrow ha))
      exact hcell _ _ _ _ hrow ha
  case own i n cap k hm hz0 hn hroom =>
    cases hy <;> (try dsimp only at h) <;> try (simp at h; done)
    rename_i kk j
    simp only [hm] at h
    split at h <;> try (simp at h; done)
    rename_i hcond
    obtain ⟨h1, h2, h3, h4⟩ := hcond
    simp only [Option.some.injEq] at h
    subst h
    refine OpOk.same hi (run_indexAt' ht c.w _ 0 n cap kk j h3 h4) ?_
    rw [← h2]
    simpa using Rep.ptr i n j.toNat 0 k hm hz0 hn
  case ownOld i n k hm hz0 hn =>
    cases hy <;> (try dsimp only at h) <;> try (simp at h; done)
    simp only [hm] at h
    rw [if_neg (by omega)] at h
    simp at h

/-! ### slices' rows -/
def rdSl (m : Mem) : AV → Option (Nat × List (List AV))
  | .sl z _ rows => some (z, rows)
  | .own b n => match m b with
    | some k => if k.rows.length = n then some (k.z, k.rows) else none
    | none => none
  | _ => none

/-- What a readable slice is in the machine. -/
theorem rdSl_ok {w0 : Gd} {S0 : Nat → Nat → Prop} {c : Cx} (hi : Inv w0 S0 c) {a : AV} {v : Value} {z : Nat} {rows : List (List AV)} (hr : Rep c a v) (h : rdSl c.m a = some (z, rows)) :
    ∃ (A : Option Addr) (cap b o : Nat) (vs : Nat → Value), v = .slice A rows.length cap ∧ rows.length ≤ cap ∧ (rows ≠ [] → A = some ⟨b, o, none⟩) ∧ (∀ r, r ∈ rows → r.length = z) ∧
      (∀ (i j : Nat) (r : List AV) (x : AV), rows[i]? = some r → r[j]? = some x → c.w.cell? ⟨b, o + i * z + j, none⟩ = some (vs (i * z + j)) ∧ (vs (i * z + j)).oneCell' = true ∧ Rep c x (vs (i * z + j))) := by
  cases hr <;> (simp only [rdSl] at h) <;> try (simp at h; done)
  case sl z' full rows' A cap b o vs hc hf hz hA hcell hrep =>
    simp only [Option.some.injEq, Prod.mk.injEq] at h
    obtain ⟨rfl, rfl⟩ := h
    exact ⟨A, cap, b, o, vs, rfl, hc, hA, hz, fun i j r x h1 h2 => ⟨(hcell i j r x h1 h2).1, (hcell i j r x h1 h2).2.2, hrep i j r x h1 h2⟩⟩
  case own i n cap k hm hz0 hn hroom =>
    simp only [hm, hn, if_true, Option.some.injEq, Prod.mk.injEq] at h
    obtain ⟨rfl, rfl⟩ := h
    have hb := hi.blkC hm hz0
    obtain ⟨cs, T, cap', hg, hs, hl, hc⟩ := hb.cells
    obtain ⟨cs2, T2, hg2, hs2⟩ := hroom
    have ecs : cs2 = cs := by rw [hg] at hg2; simp at hg2; exact hg2.1.symm
    have ecap : cap = cap' := by
      have h1 : cap * k.z = cap' * k.z := by rw [← hs2, ← hs, ecs]
      exact Nat.eq_of_mul_eq_mul_right hb.z0 h1
    subst ecap
    subst hn
    refine ⟨_, cap, c.β i, 0, fun q => cs.getD q undef, rfl, hl, fun _ => rfl, hb.len, fun p j r x h1 h2 => ?_⟩
    obtain ⟨u, hu, ho, hrep⟩ := hc p j r x h1 h2
    have e : cs.getD (p * k.z + j) undef = u := by simp [Array.getD_eq_getD_getElem?, hu]
    dsimp only
    rw [e]
    refine ⟨?_, ho, hrep⟩
    rw [cell_of_heap hg, Nat.zero_add, hu]
  case ownOld i n k hm hz0 hn =>
    simp only [hm] at h
    rw [if_neg (by omega)] at h
    simp at h

def effLen (P : Program) (T : TypeId) (m : Mem) (x : AV) : Option Eff := match telem P T, rdSl m x with
  | some _, some (_, rows) => some ⟨.int .i64 rows.length, []⟩
  | _, _ => none

theorem effLen_ok {P : Program} {w0 : Gd} {S0 : Nat → Nat → Prop} {c : Cx} (hi : Inv w0 S0 c) {T ty : TypeId} {x : AV} {v : Value} {f : Eff} (hr : Rep c x v) (h : effLen P T c.m x = some f) : OpOk P w0 S0 c (Builtin.len_ #[T] ty #[v]) f := by
  unfold effLen at h
  split at h <;> try (simp at h; done)
  rename_i e z rows he hrd
  simp only [Option.some.injEq] at h
  subst h
  obtain ⟨A, cap, b, o, vs, rfl, _⟩ := rdSl_ok hi hr hrd
  unfold telem at he
  split at he <;> try (simp at he; done)
  rename_i hu
  exact OpOk.same hi (by simp [Builtin.len_, run_underlying hu, goInt]) (.int _ _)

end Go.Proofs.Ytpgkpdojpmikkaa.Eng

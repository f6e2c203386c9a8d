/-
  THE ENGINE, part 5: comparisons, arithmetic, values that are built, slices that are cut.
-/
import Derived.Test.YtpgkpdojpmikkaaE4
import Derived.Laws.StructEq
set_option linter.unusedVariables false
set_option linter.unusedSimpArgs false
namespace Go.Proofs.Ytpgkpdojpmikkaa.Eng
open Go Go.RowKit

/-! ### equality -/
/-- Two values are equal; kinds: true: whole numbers, false: bools. -/
def aeq1 : Bool → AV → AV → Option Bool
  | false, .bool a, .bool b => some (a == b)
  | true, .int k a, .int j b => if k = j then some (a == b) else none
  | _, _, _ => none
def aeqL : List Bool → List AV → List AV → Option Bool
  | [], [], [] => some true
  | k :: ks, a :: as, b :: bs => match aeq1 k a b, aeqL ks as bs with
    | some x, some y => some (x && y)
    | _, _ => none
  | _, _, _ => none

theorem aeqL_split : ∀ {ks : List Bool} {as bs : List AV} {r : Bool} (n : Nat), aeqL ks as bs = some r → ∃ x y, aeqL (ks.take n) (as.take n) (bs.take n) = some x ∧ aeqL (ks.drop n) (as.drop n) (bs.drop n) = some y ∧ r = (x && y)
  | [], [], [], r, n, h => ⟨true, true, by simp [aeqL], by simp [aeqL], by simpa [aeqL] using h.symm⟩
  | k :: ks, a :: as, b :: bs, r, 0, h => ⟨true, r, by simp [aeqL], by simpa using h, by simp⟩
  | k :: ks, a :: as, b :: bs, r, n + 1, h => by
    simp only [aeqL] at h
    split at h <;> try (simp at h; done)
    rename_i x y h1 h2
    simp only [Option.some.injEq] at h
    obtain ⟨p, q, h3, h4, h5⟩ := aeqL_split n h2
    exact ⟨x && p, q, by simp [aeqL, h1, h3], by simpa using h4, by rw [← h, h5, Bool.and_assoc]⟩
  | [], _ :: _, _, _, _, h => by simp [aeqL] at h
  | [], [], _ :: _, _, _, h => by simp [aeqL] at h
  | _ :: _, [], _, _, _, h => by simp [aeqL] at h
  | _ :: _, _ :: _, [], _, _, h => by simp [aeqL] at h

theorem aeqL_len : ∀ {ks : List Bool} {as bs : List AV} {r : Bool}, aeqL ks as bs = some r → as.length = ks.length ∧ bs.length = ks.length
  | [], [], [], _, _ => ⟨rfl, rfl⟩
  | k :: ks, a :: as, b :: bs, r, h => by
    simp only [aeqL] at h
    split at h <;> try (simp at h; done)
    rename_i h2
    obtain ⟨h3, h4⟩ := aeqL_len h2
    exact ⟨by simp [h3], by simp [h4]⟩
  | [], _ :: _, _, _, h => by simp [aeqL] at h
  | [], [], _ :: _, _, h => by simp [aeqL] at h
  | _ :: _, [], _, _, h => by simp [aeqL] at h
  | _ :: _, _ :: _, [], _, h => by simp [aeqL] at h

def eqFlds (P : Program) (rec : TypeId → Option (List Bool)) : List Field → Nat → Option (List Bool)
  | [], _ => some []
  | f :: fs, acc => if f.name = "_" ∨ f.offset ≠ acc then none else match rec f.type with
    | some ks => if tz P f.type = some ks.length then (eqFlds P rec fs (acc + ks.length)).map (ks ++ ·) else none
    | none => none

/-- The cells of bools and whole numbers that a type has, if it has nothing else. -/
def eqLay (P : Program) : Nat → TypeId → Option (List Bool)
  | 0, _ => none
  | d + 1, t => match P.underlying t with
    | some .bool => some [false]
    | some (.int _) => some [true]
    | some (.struct fs) => if P.stoodInHeld t = true then none else eqFlds P (eqLay P d) fs.toList 0
    | _ => none

def EqOk (P : Program) (D : Nat) (t : TypeId) (ks : List Bool) : Prop := ∀ (c : Cx) (as bs : List AV) (vs us : List Value) (r : Bool) (w : World), RepL c as vs → RepL c bs us → aeqL ks as bs = some r →
  (tagg P t = some true → (Op.equalIn D t (.agg vs.toArray) (.agg us.toArray)).run P w = .ok r w) ∧ (tagg P t = some false → ∀ v u, vs = [v] → us = [u] → (Op.equalIn D t v u).run P w = .ok r w)

theorem run_part_agg {P : Program} {t : TypeId} {z : Nat} (ha : tagg P t = some true) (hz : tz P t = some z) (w : World) (cs : Array Value) (off : Nat) : (part t cs off).run P w = .ok (.agg (cs.extract off (off + z))) w := by
  simp [part, run_isAgg' ha, run_sizeOf' hz]
theorem run_part_one {P : Program} {t : TypeId} (ha : tagg P t = some false) (w : World) (cs : Array Value) (off : Nat) (v : Value) (h : cs[off]? = some v) : (part t cs off).run P w = .ok v w := by
  simp [part, run_isAgg' ha, h]

theorem tagg_some {P : Program} {t : TypeId} {d : TypeDesc} (h : P.underlying t = some d) : ∃ b, tagg P t = some b := by
  unfold tagg; rw [h]; cases d <;> exact ⟨_, rfl⟩

theorem eqLay_agg {P : Program} {d : Nat} {t : TypeId} {ks : List Bool} (h : eqLay P d t = some ks) : ∃ b, tagg P t = some b := by
  cases d with
  | zero => simp [eqLay] at h
  | succ d =>
    simp only [eqLay] at h
    split at h <;> try (simp at h; done)
    all_goals (rename_i hu; exact tagg_some hu)

theorem eqLay_one {P : Program} {d : Nat} {t : TypeId} {ks : List Bool} (h : eqLay P d t = some ks) (ha : tagg P t = some false) : ks.length = 1 := by
  cases d with
  | zero => simp [eqLay] at h
  | succ d =>
    simp only [eqLay] at h
    split at h <;> try (simp at h; done)
    · simp only [Option.some.injEq] at h; rw [← h]; rfl
    · simp only [Option.some.injEq] at h; rw [← h]; rfl
    · rename_i fs hu
      simp [tagg, hu] at ha

theorem eqFlds_ok {P : Program} {d D : Nat} (IH : ∀ t ks, eqLay P d t = some ks → EqOk P D t ks) (c : Cx) (as bs : List AV) (vs us : List Value) (w : World) (hv : RepL c as vs) (hu : RepL c bs us) :
    ∀ (fs : List Field) (acc : Nat) (ks : List Bool) (r : Bool), eqFlds P (eqLay P d) fs acc = some ks → aeqL ks (as.drop acc) (bs.drop acc) = some r → (Op.eqFields D vs.toArray us.toArray fs).run P w = .ok r w
  | [], acc, ks, r, h, he => by
    simp only [eqFlds, Option.some.injEq] at h
    subst h
    obtain ⟨h1, h2⟩ := aeqL_len he
    rw [List.eq_nil_of_length_eq_zero h1, List.eq_nil_of_length_eq_zero h2] at he
    simp only [aeqL, Option.some.injEq] at he
    subst he
    simp [Op.eqFields]
  | f :: fs, acc, ks, r, h, he => by
    simp only [eqFlds] at h
    split at h <;> try (simp at h; done)
    rename_i hc
    split at h <;> try (simp at h; done)
    rename_i q hq
    split at h <;> try (simp at h; done)
    rename_i hz
    simp only [Option.map_eq_some_iff] at h
    obtain ⟨kr, hkr, rfl⟩ := h
    have hname : f.name ≠ "_" := fun e => hc (.inl e)
    have hoff : f.offset = acc := Decidable.byContradiction fun e => hc (.inr e)
    subst hoff
    obtain ⟨l1, l2⟩ := aeqL_len he
    simp only [List.length_drop, List.length_append] at l1 l2
    obtain ⟨x, y, h1, h2, rfl⟩ := aeqL_split q.length he
    simp only [List.take_left, List.drop_left] at h1 h2
    have ih := eqFlds_ok IH c as bs vs us w hv hu fs (f.offset + q.length) kr y hkr (by simpa [List.drop_drop] using h2)
    have key := IH f.type q hq c ((as.drop f.offset).take q.length) ((bs.drop f.offset).take q.length) ((vs.drop f.offset).take q.length) ((us.drop f.offset).take q.length) x w ((hv.drop _).take _) ((hu.drop _).take _) h1
    have hpart : ∃ a b, (part f.type vs.toArray f.offset).run P w = .ok a w ∧ (part f.type us.toArray f.offset).run P w = .ok b w ∧ (Op.equalIn D f.type a b).run P w = .ok x w := by
      obtain ⟨ag, hag⟩ := eqLay_agg hq
      cases ag with
      | true =>
        refine ⟨_, _, run_part_agg hag hz w _ _, run_part_agg hag hz w _ _, ?_⟩
        have := key.1 hag
        rw [← this]
        congr 3
        · apply Array.ext'; simp [List.extract_eq_take_drop]
        · apply Array.ext'; simp [List.extract_eq_take_drop]
      | false =>
        have hq1 := eqLay_one hq hag
        rw [hq1] at key
        have hvl := hv.1
        have hul := hu.1
        have l1 : f.offset < vs.length := by omega
        have l2 : f.offset < us.length := by omega
        refine ⟨vs[f.offset], us[f.offset], run_part_one hag w _ _ _ (by simp [l1]), run_part_one hag w _ _ _ (by simp [l2]), key.2 hag _ _ ?_ ?_⟩
        · rw [List.take_one, List.head?_drop, List.getElem?_eq_getElem l1]; rfl
        · rw [List.take_one, List.head?_drop, List.getElem?_eq_getElem l2]; rfl
    obtain ⟨a, b, p1, p2, p3⟩ := hpart
    simp only [Op.eqFields, hname, ne_eq, not_false_eq_true, if_true, Sem.run_bind, p1, p2, p3, Result.andThen_ok]
    cases x
    · simp
    · simpa using ih

theorem aeqL_one {c : Cx} {k : Bool} {as bs : List AV} {r : Bool} (h : aeqL [k] as bs = some r) : ∃ a b, as = [a] ∧ bs = [b] ∧ aeq1 k a b = some r := by
  obtain ⟨h1, h2⟩ := aeqL_len h
  match as, bs, h1, h2 with
  | [a], [b], _, _ =>
    refine ⟨a, b, rfl, rfl, ?_⟩
    simp only [aeqL] at h
    cases hx : aeq1 k a b with
    | none => simp [hx] at h
    | some x => simpa [hx] using h

theorem aeq1_bool {a b : AV} {r : Bool} (h : aeq1 false a b = some r) : ∃ x y, a = .bool x ∧ b = .bool y ∧ r = (x == y) := by
  unfold aeq1 at h
  split at h
  · simp only [Option.some.injEq] at h; exact ⟨_, _, rfl, rfl, h.symm⟩
  · contradiction
  · simp at h
theorem aeq1_int {a b : AV} {r : Bool} (h : aeq1 true a b = some r) : ∃ k x y, a = .int k x ∧ b = .int k y ∧ r = (x == y) := by
  unfold aeq1 at h
  split at h
  · contradiction
  · split at h
    · rename_i e; subst e; simp only [Option.some.injEq] at h; exact ⟨_, _, _, rfl, rfl, h.symm⟩
    · simp at h
  · simp at h

theorem equalIn_ok {P : Program} : ∀ (d : Nat) (t : TypeId) (ks : List Bool), eqLay P d t = some ks → ∀ k, EqOk P (d + k) t ks
  | 0, t, ks, h, k => by simp [eqLay] at h
  | d + 1, t, ks, h, k => by
    intro c as bs vs us r w hv hu he
    simp only [eqLay] at h
    split at h <;> try (simp at h; done)
    · rename_i hun
      simp only [Option.some.injEq] at h
      subst h
      refine ⟨fun hag => by simp [tagg, hun] at hag, fun _ v u ev eu => ?_⟩
      subst ev; subst eu
      obtain ⟨a, b, rfl, rfl, he1⟩ := aeqL_one (c := c) he
      have r1 := hv.2 0 a v rfl rfl
      have r2 := hu.2 0 b u rfl rfl
      obtain ⟨x, y, rfl, rfl, rfl⟩ := aeq1_bool he1
      cases r1; cases r2
      rw [show d + 1 + k = (d + k) + 1 by omega, run_equalIn_bool w _ t _ _ hun]
    · rename_i kk hun
      simp only [Option.some.injEq] at h
      subst h
      refine ⟨fun hag => by simp [tagg, hun] at hag, fun _ v u ev eu => ?_⟩
      subst ev; subst eu
      obtain ⟨a, b, rfl, rfl, he1⟩ := aeqL_one (c := c) he
      have r1 := hv.2 0 a v rfl rfl
      have r2 := hu.2 0 b u rfl rfl
      obtain ⟨kx, x, y, rfl, rfl, rfl⟩ := aeq1_int he1
      cases r1; cases r2
      rw [show d + 1 + k = (d + k) + 1 by omega, run_equalIn_int w _ t _ kk _ _ hun]
    · rename_i fs hun
      split at h <;> try (simp at h; done)
      rename_i hs
      refine ⟨fun _ => ?_, fun hag => by simp [tagg, hun] at hag⟩
      have hfo : P.fieldsOf t = fs := by simp [Program.fieldsOf, hun]
      rw [show d + 1 + k = (d + k) + 1 by omega, run_equalIn_struct w (d + k) t _ _ (by rw [hfo]; exact hun) (by simpa using hs), hfo]
      exact eqFlds_ok (fun t n h => equalIn_ok d t n h k) c as bs vs us w hv hu fs.toList 0 ks r h (by simpa using he)

/-- A type whose values may be compared cell by cell. -/
def teq (P : Program) (t : TypeId) : Option (List Bool) := if P.eqGuardType P.depth t = true then none else eqLay P 20 t

/-! ### two operands -/
def effBin (P : Program) (op : BinOp) (T : TypeId) (x y : AV) : Option AV := match x, y with
  | .int k a, .int j b => if k = j then match op with
      | .add => some (.int k (k.wrap (a + b)))
      | .sub => some (.int k (k.wrap (a - b)))
      | .mul => some (.int k (k.wrap (a * b)))
      | .quo => if b = 0 then none else some (.int k (k.wrap (a.tdiv b)))
      | .rem => if b = 0 then none else some (.int k (a.tmod b))
      | .eql => some (.bool (a == b))
      | .neq => some (.bool (a != b))
      | .lss => some (.bool (decide (a < b)))
      | .leq => some (.bool (decide (a ≤ b)))
      | .gtr => some (.bool (decide (b < a)))
      | .geq => some (.bool (decide (b ≤ a)))
      | .and => some (.int k (k.wrap (BitVec.ofInt k.bits a &&& BitVec.ofInt k.bits b).toNat))
      | .or => some (.int k (k.wrap (BitVec.ofInt k.bits a ||| BitVec.ofInt k.bits b).toNat))
      | .xor => some (.int k (k.wrap (BitVec.ofInt k.bits a ^^^ BitVec.ofInt k.bits b).toNat))
      | .andNot => some (.int k (k.wrap (BitVec.ofInt k.bits a &&& ~~~ BitVec.ofInt k.bits b).toNat))
      | _ => none
    else none
  | .bool a, .bool b => if tbool P T then match op with
      | .eql => some (.bool (a == b))
      | .neq => some (.bool (!(a == b)))
      | _ => none
    else none
  | .agg as, .agg bs => if tagg P T = some true then match teq P T with
      | some ks => match op, aeqL ks as bs with
        | .eql, some r => some (.bool r)
        | .neq, some r => some (.bool (!r))
        | _, _ => none
      | none => none
    else none
  | _, _ => none

theorem effBin_ok {P : Program} {c : Cx} {op : BinOp} {T : TypeId} {x y r : AV} {v u : Value} (xo yo : Operand) (hx : Rep c x v) (hy : Rep c y u) (h : effBin P op T x y = some r) :
    ∃ q, (do eqGuard op T xo yo v u; binOp op T v u : Sem Value).run P c.w = .ok q c.w ∧ Rep c r q := by
  unfold effBin at h
  split at h <;> try (simp at h; done)
  · rename_i k a j b
    cases hx; cases hy
    split at h <;> try (simp at h; done)
    rename_i hk
    subst hk
    cases op <;> simp only [reduceCtorEq, Option.some.injEq] at h
    case quo => split at h <;> simp only [reduceCtorEq, Option.some.injEq] at h; rename_i hb; subst h; exact ⟨_, by simp [eqGuard_at_int, binOp_quo, Op.intDiv, hb], .int _ _⟩
    case rem => split at h <;> simp only [reduceCtorEq, Option.some.injEq] at h; rename_i hb; subst h; exact ⟨_, by simp [eqGuard_at_int, binOp_rem, Op.intDiv, hb], .int _ _⟩
    case add => subst h; exact ⟨_, by simp [eqGuard_at_int, binOp_add, Op.intArith], .int _ _⟩
    case sub => subst h; exact ⟨_, by simp [eqGuard_at_int, binOp_sub, Op.intArith], .int _ _⟩
    case mul => subst h; exact ⟨_, by simp [eqGuard_at_int, binOp_mul, Op.intArith], .int _ _⟩
    case eql => subst h; exact ⟨_, by simp [eqGuard_at_int, binOp_eql], .bool _⟩
    case neq => subst h; exact ⟨_, by simp [eqGuard_at_int, binOp_neq], .bool _⟩
    case lss => subst h; exact ⟨_, by simp [eqGuard_at_int, binOp_lss], .bool _⟩
    case leq => subst h; exact ⟨_, by simp [eqGuard_at_int, binOp_leq], .bool _⟩
    case gtr => subst h; exact ⟨_, by simp [eqGuard_at_int, binOp_gtr], .bool _⟩
    case geq => subst h; exact ⟨_, by simp [eqGuard_at_int, binOp_geq], .bool _⟩
    case and => subst h; exact ⟨_, by simp [eqGuard_at_int, binOp_and, Op.intBits], .int _ _⟩
    case or => subst h; exact ⟨_, by simp [eqGuard_at_int, binOp_or, Op.intBits], .int _ _⟩
    case xor => subst h; exact ⟨_, by simp [eqGuard_at_int, binOp_xor, Op.intBits], .int _ _⟩
    case andNot => subst h; exact ⟨_, by simp [eqGuard_at_int, binOp_andNot, Op.intBits], .int _ _⟩
  · rename_i a b
    cases hx; cases hy
    split at h <;> try (simp at h; done)
    rename_i ht
    have hun : P.underlying T = some .bool := by
      unfold tbool at ht; split at ht <;> simp_all
    have := run_equalIn_bool (P := P) c.w 9999 T a b hun
    cases op <;> simp only [reduceCtorEq, Option.some.injEq] at h
    · subst h; exact ⟨.bool (a == b), by simp [eqGuard_at_bool, binOp, Op.equal, Op.maxDepth, this], .bool _⟩
    · subst h; exact ⟨.bool (!(a == b)), by simp [eqGuard_at_bool, binOp, Op.equal, Op.maxDepth, this], .bool _⟩
  · rename_i as bs
    cases hx with
    | agg _ vs hl1 hr1 =>
    cases hy with
    | agg _ us hl2 hr2 =>
    split at h <;> try (simp at h; done)
    rename_i hag
    split at h <;> try (simp at h; done)
    rename_i ks hks
    unfold teq at hks
    split at hks <;> try (simp at hks; done)
    rename_i hgt
    have hrun : ∀ r, aeqL ks as bs = some r → (Op.equalIn 10000 T (.agg vs) (.agg us)).run P c.w = .ok r c.w := fun r hr => by
      have := (equalIn_ok 20 T ks hks 9980 c as bs vs.toList us.toList r c.w ⟨by simpa using hl1, fun i a v h1 h2 => hr1 i a v h1 (by simpa using h2)⟩ ⟨by simpa using hl2, fun i a v h1 h2 => hr2 i a v h1 (by simpa using h2)⟩ hr).1 hag
      simpa using this
    have hg := fun op => run_eqGuard_agg (P := P) c.w op T xo yo vs us (by simpa using hgt)
    split at h <;> simp only [reduceCtorEq, Option.some.injEq] at h
    · rename_i r' hr'; subst h; exact ⟨.bool r', by simp only [Sem.run_bind, hg, Result.andThen_ok, run_eql_struct, hrun _ hr'], .bool _⟩
    · rename_i r' hr'; subst h; exact ⟨.bool (!r'), by simp only [Sem.run_bind, hg, Result.andThen_ok, run_neq_struct, hrun _ hr'], .bool _⟩

def effUn (op : UnOp) (x : AV) : Option AV := match op, x with
  | .not, .bool b => some (.bool (!b))
  | .neg, .int k n => some (.int k (k.wrap (0 - n)))
  | _, _ => none

theorem effUn_ok {P : Program} {c : Cx} {op : UnOp} {x r : AV} {v : Value} (hx : Rep c x v) (h : effUn op x = some r) : ∃ q, (Op.unary op v).run P c.w = .ok q c.w ∧ Rep c r q := by
  unfold effUn at h
  split at h <;> simp only [reduceCtorEq, Option.some.injEq] at h
  · subst h; cases hx; exact ⟨_, by simp [Op.unary], .bool _⟩
  · subst h; cases hx; exact ⟨_, by simp [Op.unary, Op.intArith], .int _ _⟩

def effConv (P : Program) (src dst : TypeId) (x : AV) : Option AV := match P.underlying src, tint P dst, x with
  | some _, some k, .int _ n => some (.int k (k.wrap n))
  | _, _, _ => none

theorem effConv_ok {P : Program} {c : Cx} {src dst : TypeId} {x r : AV} {v : Value} (hx : Rep c x v) (h : effConv P src dst x = some r) : ∃ q, (convert src dst v).run P c.w = .ok q c.w ∧ Rep c r q := by
  unfold effConv at h
  split at h <;> simp only [reduceCtorEq, Option.some.injEq] at h
  rename_i d k j n hs hd
  subst h
  cases hx
  unfold tint at hd
  split at hd <;> simp only [reduceCtorEq, Option.some.injEq] at hd
  rename_i hun
  subst hd
  exact ⟨_, by simp [convert, run_underlying hs, run_underlying hun, Conv.intToInt], .int _ _⟩

end Go.Proofs.Ytpgkpdojpmikkaa.Eng

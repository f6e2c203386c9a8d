/-
  THE ENGINE, part 8: operations with all that hangs on types resolved; that the machine does what they say.
-/
import Derived.Test.YtpgkpdojpmikkaaE7c
set_option linter.unusedVariables false
set_option linter.unusedSimpArgs false
namespace Go.Proofs.Ytpgkpdojpmikkaa.Eng
open Go Go.RowKit

inductive AX where
  | t (i : Nat)
  | k (a : AV)

def AX.ev (e : AEnv) : AX → AV
  | .t i => e i
  | .k a => a

def cx (P : Program) (T : TypeId) : Operand → AX
  | .tmp i => .t i
  | .const v => .k (absC P T v)
  | .func f => .k (.fn f [])
  | .global _ => .k .undef

theorem cx_ok {P : Program} {c : Cx} {e : AEnv} {a : Act} (h : EnvOk c e a) (T : TypeId) (x : Operand) : Rep c ((cx P T x).ev e) (a.eval x) := by
  have := ev_ok (P := P) h T x
  cases x <;> exact this

inductive AOp where
  | mv (x : AX)
  | pick (c a b : AX)
  | alloc (zs : List AV)
  | box (z : Nat) (x : AX)
  | build (zs : List AV) (pl : List (Nat × Nat)) (ps : List (Nat × AX))
  | bsl (z len : Nat) (ps : List (Nat × AX))
  | load (z : Nat) (ag : Bool) (x : AX)
  | store (z : Nat) (p x : AX)
  | nilck (x : AX)
  | bin (op : BinOp) (tb : Bool) (ta : Option (List Bool)) (x y : AX)
  | un (op : UnOp) (x : AX)
  | conv (k : IntKind) (x : AX)
  | mkfn (f : FuncId) (cs : List AX)
  | slice (z : Nat) (x : AX) (lo hi mx : Option AX)
  | faddr (off : Nat) (x : AX)
  | fld (off z : Nat) (ag : Bool) (x : AX)
  | iaddr (z : Nat) (x i : AX)
  | ext (x : AX) (i : Nat)
  | len (x : AX)
  | app (z by_ : Nat) (s x : AX)
  | mx (xs : List AX)
  | mn (xs : List AX)
  | nilsl (b : Bool) (x : AX)
  | nilpt (b : Bool) (x : AX)
  | mksl (by_ : Nat) (zs : List AV) (l c : AX)
  | mkmap (h : Option AX)
  | look (kag : Bool) (ks : List Bool) (zv : AV) (ok : Bool) (x k : AX)
  | mput (kag : Bool) (ks : List Bool) (x k v : AX)
  | call (f : AX) (args : List AX)

/-! ### the effects -/
def eLoad (z : Nat) (ag : Bool) (m : Mem) (a : AV) : Option Eff := match rdRow m a with
  | some cs => if z ≤ cs.length then (mkv ag (cs.take z)).map fun v => ⟨v, []⟩ else none
  | none => none
def eStore (z : Nat) (m : Mem) (p x : AV) : Option Eff := match p with
  | .ptr b n r off => match m b with
    | some k => if k.sole = true ∧ k.rows.length = n ∧ x.okv m = true ∧ x.cells.length = z then match k.rows[r]? with
        | some row => if off + z ≤ row.length then some ⟨.undef, [(b, { k with rows := k.rows.set r (splice row off x.cells) })]⟩ else none
        | none => none
      else none
    | none => none
  | _ => none
def eAlloc (zs : List AV) (id : Bid) (m : Mem) : Option Eff := if zs ≠ [] ∧ m id = none then some ⟨.ptr id 1 0 0, [(id, ⟨zs.length, [zs], true⟩)]⟩ else none
def eBox (z : Nat) (id : Bid) (m : Mem) (x : AV) : Option Eff := if x.okv m = true ∧ x.cells.length = z ∧ x.cells ≠ [] ∧ m id = none then some ⟨.ptr id 1 0 0, [(id, ⟨x.cells.length, [x.cells], true⟩)]⟩ else none
def eBsl (z len : Nat) (m : Mem) (ps : List (Nat × AV)) : Option AV := if ps.map (·.1) = List.range len ∧ (ps.all fun p => p.2.okv m && p.2.cells.length == z) = true then some (.sl z true (ps.map (·.2.cells))) else none
def eNil (m : Mem) : AV → Option AV
  | .rp cs => some (.rp cs)
  | .fn f cs => some (.fn f cs)
  | .ptr b n r o => match m b with
    | some k => if k.rows.length = n then some (.ptr b n r o) else none
    | none => none
  | _ => none
def eBin (op : BinOp) (tb : Bool) (ta : Option (List Bool)) (x y : AV) : Option AV := match x, y with
  | .int k a, .int j b => if k = j then match op with
      | .add => some (.int k (k.wrap (a + b)))
      | .sub => some (.int k (k.wrap (a - b)))
      | .mul => some (.int k (k.wrap (a * b)))
      | .quo => if b = 0 then none else some (.int k (k.wrap (a.tdiv b)))
      | .rem => if b = 0 then none else some (.int k (a.tmod b))
      | .eql => some (.bool (a == b))
      | .neq => some (.bool (a != b))
      | .lss => some (.bool (decide (a < b)))
      | .leq => some (.bool (decide (a ≤ b)))
      | .gtr => some (.bool (decide (b < a)))
      | .geq => some (.bool (decide (b ≤ a)))
      | .and => some (.int k (k.wrap (BitVec.ofInt k.bits a &&& BitVec.ofInt k.bits b).toNat))
      | .or => some (.int k (k.wrap (BitVec.ofInt k.bits a ||| BitVec.ofInt k.bits b).toNat))
      | .xor => some (.int k (k.wrap (BitVec.ofInt k.bits a ^^^ BitVec.ofInt k.bits b).toNat))
      | .andNot => some (.int k (k.wrap (BitVec.ofInt k.bits a &&& ~~~ BitVec.ofInt k.bits b).toNat))
      | _ => none
    else none
  | .bool a, .bool b => if tb then match op with
      | .eql => some (.bool (a == b))
      | .neq => some (.bool (!(a == b)))
      | _ => none
    else none
  | .agg as, .agg bs => match ta with
      | some ks => match op, aeqL ks as bs with
        | .eql, some r => some (.bool r)
        | .neq, some r => some (.bool (!r))
        | _, _ => none
      | none => none
  | _, _ => none
def eConv (k : IntKind) : AV → Option AV
  | .int _ n => some (.int k (k.wrap n))
  | _ => none
def bnd : Option AV → Nat → Option Nat
  | none, d => some d
  | some (.int _ n), _ => if 0 ≤ n then some n.toNat else none
  | some _, _ => none
/-- From l to h of n rows; mx: up to where it may grow. -/
def cut (z : Nat) (full : Bool) (rows : List (List AV)) (lo hi mx : Option AV) : Option AV := match bnd lo 0, bnd hi rows.length, bnd mx rows.length with
  | some l, some h, some m => if l ≤ h ∧ h ≤ m ∧ m ≤ rows.length ∧ (mx.isSome = true → hi.isSome = true) then some (.sl z (if mx.isSome then m == h else full && h == rows.length) ((rows.take h).drop l)) else none
  | _, _, _ => none
def eSlice (z : Nat) (m : Mem) (x : AV) (lo hi mx : Option AV) : Option Eff := match x with
  | .sl z' full rows => if z' = z then (cut z full rows lo hi mx).map fun v => ⟨v, []⟩ else none
  | .own b n => match m b with
    | some k => if k.rows.length = n ∧ k.z = z then (cut z false k.rows lo hi mx).map fun v => ⟨v, [(b, fz k)]⟩ else none
    | none => none
  | _ => none
def eFaddr (off : Nat) (m : Mem) : AV → Option AV
  | .ptr b n r o => match m b with
    | some k => if k.rows.length = n then some (.ptr b n r (o + off)) else none
    | none => none
  | .rp cs => some (.rp (cs.drop off))
  | _ => none
def eFld (off z : Nat) (ag : Bool) : AV → Option AV
  | .agg cs => if off + z ≤ cs.length then mkv ag ((cs.drop off).take z) else none
  | _ => none
def eIaddr (z : Nat) (m : Mem) (x i : AV) : Option AV := match x, i with
  | .sl z' _ rows, .int _ n => if z' = z ∧ 0 ≤ n then (rows[n.toNat]?).map fun r => .rp r else none
  | .own b l, .int _ n => match m b with
    | some k => if k.rows.length = l ∧ k.z = z ∧ 0 ≤ n ∧ n < l then some (.ptr b l n.toNat 0) else none
    | none => none
  | _, _ => none
def eExt (i : Nat) : AV → Option AV
  | .tup vs => vs[i]?
  | _ => none
def eLen (m : Mem) (x : AV) : Option AV := (rdSl m x).map fun p => .int .i64 p.2.length
def eApp (z by_ : Nat) (id : Bid) (m : Mem) (s x : AV) : Option Eff := match rdSl m x with
  | some (zx, xr) => if zx = z then
      if xr = [] then match rdSl m s with
        | some _ => some ⟨s, []⟩
        | none => none
      else match s with
        | .sl zs true rows => if zs = z ∧ m id = none ∧ (rows.length + xr.length) * by_ ≤ 140737488355328 then some ⟨.own id (rows.length + xr.length), [(id, ⟨z, rows ++ xr, true⟩)]⟩ else none
        | .own b n => match m b with
          | some k => if k.rows.length = n ∧ k.z = z ∧ (n + xr.length) * by_ ≤ 140737488355328 then some ⟨.own b (n + xr.length), [(b, { k with rows := k.rows ++ xr })]⟩ else none
          | none => none
        | _ => none
    else none
  | none => none
def foldM (f : Int → Int → Int) : AV → List AV → Option AV
  | .int k a, [] => some (.int k a)
  | .int k a, .int j b :: r => foldM f (.int k (f a b)) r
  | _, _ => none

/-- A slice that has elements is not nil. -/
def eNilsl (b : Bool) (m : Mem) : AV → Option AV
  | .sl _ _ (_ :: _) => some (.bool b)
  | .own i n => match m i with
    | some k => if k.rows.length = n then some (.bool b) else none
    | none => none
  | _ => none

def pure' (x : Option AV) : Option Eff := x.map fun v => ⟨v, []⟩

def intO : Option AV → Bool
  | none => true
  | some (.int _ _) => true
  | _ => false

def effA (id : Bid) (m : Mem) (e : AEnv) : AOp → Option Eff
  | .mv x => some ⟨x.ev e, []⟩
  | .pick c a b => match c.ev e with
    | .bool t => some ⟨if t = true then a.ev e else b.ev e, []⟩
    | _ => none
  | .alloc zs => eAlloc zs id m
  | .box z x => eBox z id m (x.ev e)
  | .build zs pl ps => pure' ((fillA m pl (ps.map fun p => (p.1, p.2.ev e)) zs).map .agg)
  | .bsl z len ps => pure' (eBsl z len m (ps.map fun p => (p.1, p.2.ev e)))
  | .load z ag x => eLoad z ag m (x.ev e)
  | .store z p x => eStore z m (p.ev e) (x.ev e)
  | .nilck x => pure' (eNil m (x.ev e))
  | .bin op tb ta x y => pure' (eBin op tb ta (x.ev e) (y.ev e))
  | .un op x => pure' (effUn op (x.ev e))
  | .conv k x => pure' (eConv k (x.ev e))
  | .mkfn f cs => some ⟨.fn f (cs.map (·.ev e)), []⟩
  | .slice z x lo hi mx => eSlice z m (x.ev e) (lo.map (·.ev e)) (hi.map (·.ev e)) (mx.map (·.ev e))
  | .faddr off x => pure' (eFaddr off m (x.ev e))
  | .fld off z ag x => pure' (eFld off z ag (x.ev e))
  | .iaddr z x i => pure' (eIaddr z m (x.ev e) (i.ev e))
  | .ext x i => pure' (eExt i (x.ev e))
  | .len x => pure' (eLen m (x.ev e))
  | .app z by_ s x => eApp z by_ id m (s.ev e) (x.ev e)
  | .mx xs => match xs.map (·.ev e) with
    | a :: r => pure' (foldM (fun x y => if y > x then y else x) a r)
    | [] => none
  | .mn xs => match xs.map (·.ev e) with
    | a :: r => pure' (foldM (fun x y => if y < x then y else x) a r)
    | [] => none
  | .nilsl b x => pure' (eNilsl b m (x.ev e))
  | .nilpt b x => pure' (eNilpt b m (x.ev e))
  | .mksl by_ zs l c => eMksl by_ zs id m (l.ev e) (c.ev e)
  | .mkmap h => if intO (h.map (·.ev e)) = true then eMkmap id m else none
  | .look kag ks zv ok x k => pure' (eLook kag ks zv ok m (x.ev e) (k.ev e))
  | .mput kag ks x k v => eMput kag ks m (x.ev e) (k.ev e) (v.ev e)
  | .call _ _ => none

/-! ### compiling an operation -/
def cargs (P : Program) : List Operand → List TypeId → Option (List AX)
  | [], [] => some []
  | x :: xs, t :: ts => (cargs P xs ts).map (cx P t x :: ·)
  | _, _ => none

def cparts (P : Program) (ty : Nat → TypeId) (ps : List (Nat × Operand)) : List (Nat × AX) := ps.map fun p => (p.1, cx P (ty p.1) p.2)

def fldTy (P : Program) (T : TypeId) (i : Nat) : TypeId := match P.underlying T with
  | some (.struct fs) => ((fs[i]?).map (·.type)).getD 0
  | _ => 0

def isNilK : Operand → Bool
  | .const (.slice none 0 0) => true
  | _ => false

def isNilP : Operand → Bool
  | .const (.pointer none) => true
  | _ => false

def isPt (P : Program) (T : TypeId) : Bool := match P.underlying T with
  | some (.pointer _) => true
  | _ => false

def cop (P : Program) (ty : TypeId) : Op → Option AOp
  | .move x => some (.mv (cx P ty x))
  | .assign x => some (.mv (cx P ty x))
  | .pick c a b => some (.pick (cx P 0 c) (cx P ty a) (cx P ty b))
  | .alloc T => (tzero P T).map .alloc
  | .box T x => (tz P T).map fun z => .box z (cx P T x)
  | .build T ps => match tzero P T, tplaces P T with
    | some zs, some pl => some (.build zs pl (cparts P (fldTy P T) ps.toList))
    | _, _ => none
  | .buildSlice T len ps => match tsl P T with
    | some (e, z, _) => if (tzero P e).isSome = true ∧ len * z ≤ 2 ^ 24 then some (.bsl z len (cparts P (fun _ => e) ps.toList)) else none
    | none => none
  | .load T x => match tz P T, tagg P T with
    | some z, some ag => some (.load z ag (cx P 0 x))
    | _, _ => none
  | .store T p x => (tz P T).map fun z => .store z (cx P 0 p) (cx P T x)
  | .nilCheck x => some (.nilck (cx P 0 x))
  | .makeSlice T l c => match tsl P T with
    | some (e, _, by_) => (tzero P e).map fun zs => .mksl by_ zs (cx P 0 l) (cx P 0 c)
    | none => none
  | .makeMap T h => match P.underlying T with
    | some (.map _ _) => some (.mkmap (h.map (cx P 0)))
    | _ => none
  | .lookup T x k ok => match mlay P T with
    | some (kt, ks, some zv) => match tagg P kt with
      | some kag => some (.look kag ks zv ok (cx P T x) (cx P kt k))
      | none => none
    | _ => none
  | .mapUpdate T x k v => match mlay P T with
    | some (kt, ks, _) => match tagg P kt with
      | some kag => some (.mput kag ks (cx P T x) (cx P kt k) (cx P 0 v))
      | none => none
    | none => none
  | .binOp op T x y _ => if isNilP y = true ∧ (op = .eql ∨ op = .neq) ∧ isPt P T = true then some (.nilpt (op == .neq) (cx P T x)) else some <| if isNilK y = true ∧ (op = .eql ∨ op = .neq) ∧ (telem P T).isSome = true then .nilsl (op == .neq) (cx P T x) else (.bin op (tbool P T) (if tagg P T = some true then teq P T else none) (cx P T x) (cx P T y))
  | .unOp op T x => some (.un op (cx P T x))
  | .convert src dst x => match P.underlying src, tint P dst with
    | some _, some k => some (.conv k (cx P src x))
    | _, _ => none
  | .makeFunc (.func f) first cs => if first.size = 0 then some (.mkfn f (cs.toList.map (cx P 0))) else none
  | .slice T x lo hi mx => match tsl P T with
    | some (_, z, _) => some (.slice z (cx P T x) (lo.map (cx P 0)) (hi.map (cx P 0)) (mx.map (cx P 0)))
    | none => none
  | .fieldAddr T x f => match tfld P T f with
    | some (off, _, z) => if z = 0 then none else some (.faddr off (cx P 0 x))
    | none => none
  | .field T x f => match tfld P T f with
    | some (off, ty, z) => match tagg P ty with
      | some ag => some (.fld off z ag (cx P T x))
      | none => none
    | none => none
  | .indexAddr T x i => match tsl P T with
    | some (_, z, _) => some (.iaddr z (cx P T x) (cx P 0 i))
    | none => none
  | .extract x i => some (.ext (cx P 0 x) i)
  | .call c => match c.callee, cargs P c.args.toList c.argTypes.toList with
    | .builtin .len, some [x] => match c.argTypes.toList with
      | [T] => if (telem P T).isSome = true then some (.len x) else none
      | _ => none
    | .builtin .append, some [s, x] => match c.argTypes.toList with
      | [T, TX] => match tsl P T, tsl P TX with
        | some (e, z, by_), some (_, z', _) => if z' = z ∧ (tzero P e).isSome = true then some (.app z by_ s x) else none
        | _, _ => none
      | _ => none
    | .builtin .max, some xs => some (.mx xs)
    | .builtin .min, some xs => some (.mn xs)
    | .value f, some xs => some (.call (cx P 0 f) xs)
    | _, _ => none
  | _ => none

/-- What the machine's operation comes to. -/
def OpRes (P : Program) (w0 : Gd) (S0 : Nat → Nat → Prop) (c : Cx) (s : Sem Next) (f : Eff) : Prop :=
  ∃ r v c', s.run P c.w = .ok r c'.w ∧ (r = .value v ∨ (r = .skip ∧ v = undef)) ∧ c'.m = applyW c.m f.ws ∧ Inv w0 S0 c' ∧ c.Ext c' ∧ Rep c' f.v v

theorem OpOk.res {P : Program} {w0 : Gd} {S0 : Nat → Nat → Prop} {c : Cx} {s : Sem Value} {f : Eff} (h : OpOk P w0 S0 c s f) : OpRes P w0 S0 c (do pure (.value (← s))) f := by
  obtain ⟨v, c', h1, h2, h3, h4, h5⟩ := h
  exact ⟨_, v, c', by simp [h1], .inl rfl, h2, h3, h4, h5⟩

theorem OpRes.value {P : Program} {w0 : Gd} {S0 : Nat → Nat → Prop} {c : Cx} (hi : Inv w0 S0 c) {v : Value} {x : AV} (h : Rep c x v) : OpRes P w0 S0 c (pure (.value v)) ⟨x, []⟩ :=
  ⟨_, v, c, rfl, .inl rfl, rfl, hi, .refl c, h⟩

theorem pure'_some {x : Option AV} {f : Eff} (h : pure' x = some f) : ∃ v, x = some v ∧ f = ⟨v, []⟩ := by
  simp only [pure', Option.map_eq_some_iff] at h
  obtain ⟨v, h1, h2⟩ := h
  exact ⟨v, h1, h2.symm⟩

theorem OpRes.of_run {P : Program} {w0 : Gd} {S0 : Nat → Nat → Prop} {c : Cx} (hi : Inv w0 S0 c) {s : Sem Value} {x : AV} (h : ∃ q, s.run P c.w = .ok q c.w ∧ Rep c x q) : OpRes P w0 S0 c (do pure (.value (← s))) ⟨x, []⟩ := by
  obtain ⟨q, h1, h2⟩ := h
  exact (OpOk.same hi h1 h2).res

theorem cargs_ok {P : Program} {c : Cx} {e : AEnv} {a : Act} (h : EnvOk c e a) : ∀ {xs : List Operand} {ts : List TypeId} {as : List AX}, cargs P xs ts = some as → RepL c (as.map (·.ev e)) (xs.map a.eval)
  | [], [], as, h' => by simp only [cargs, Option.some.injEq] at h'; subst h'; exact RepL.nil c
  | x :: xs, t :: ts, as, h' => by
    simp only [cargs, Option.map_eq_some_iff] at h'
    obtain ⟨as', h1, rfl⟩ := h'
    exact RepL.cons (cx_ok h t x) (cargs_ok h h1)
  | [], _ :: _, as, h' => by simp [cargs] at h'
  | _ :: _, [], as, h' => by simp [cargs] at h'

theorem cparts_ok {P : Program} {c : Cx} {e : AEnv} {a : Act} (h : EnvOk c e a) (ty : Nat → TypeId) (ps : Array (Nat × Operand)) :
    (ps.map fun (i, x) => (i, a.eval x)).size = ((cparts P ty ps.toList).map fun p => (p.1, p.2.ev e)).length ∧ ∀ (i : Nat) (p : Nat × AV) (q : Nat × Value), ((cparts P ty ps.toList).map fun p => (p.1, p.2.ev e))[i]? = some p → (ps.map fun (i, x) => (i, a.eval x))[i]? = some q → q.1 = p.1 ∧ Rep c p.2 q.2 := by
  refine ⟨by simp [cparts], fun i p q hp hq => ?_⟩
  simp only [cparts, List.map_map, List.getElem?_map, Array.getElem?_toList, Option.map_eq_some_iff] at hp
  obtain ⟨x, hx, rfl⟩ := hp
  simp only [Array.getElem?_map, hx, Option.map_some, Option.some.injEq] at hq
  subst hq
  exact ⟨rfl, cx_ok h _ _⟩

end Go.Proofs.Ytpgkpdojpmikkaa.Eng

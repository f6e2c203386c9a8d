/-
  THE ENGINE, part 7b: maps of one's own: made, looked up, and a new entry put in.
-/
import Derived.Test.YtpgkpdojpmikkaaE7
import Derived.Carry
set_option linter.unusedVariables false
set_option linter.unusedSimpArgs false
namespace Go.Proofs.Ytpgkpdojpmikkaa.Eng
open Go Go.RowKit

/-- The cells are bools (false) and whole numbers (true). -/
def klay : List Bool → List AV → Bool
  | [], [] => true
  | false :: ks, .bool _ :: as => klay ks as
  | true :: ks, .int _ _ :: as => klay ks as
  | _, _ => false

theorem klay_len : ∀ {ks : List Bool} {as : List AV}, klay ks as = true → as.length = ks.length
  | [], [], _ => rfl
  | false :: ks, .bool _ :: as, h => by simp [klay_len (ks := ks) (as := as) (by simpa [klay] using h)]
  | true :: ks, .int _ _ :: as, h => by simp [klay_len (ks := ks) (as := as) (by simpa [klay] using h)]
  | [], _ :: _, h => by simp [klay] at h
  | k :: _, [], h => by cases k <;> simp [klay] at h
  | false :: _, a :: _, h => by cases a <;> first | (simp [klay] at h; done) | exact (by simp [klay_len (by simpa [klay] using h)])
  | true :: _, a :: _, h => by cases a <;> first | (simp [klay] at h; done) | exact (by simp [klay_len (by simpa [klay] using h)])

theorem klay_tail : ∀ {k : Bool} {ks : List Bool} {as : List AV}, klay (k :: ks) as = true → ∃ a r, as = a :: r ∧ klay ks r = true ∧ (k = false → ∃ b, a = .bool b) ∧ (k = true → ∃ i n, a = .int i n)
  | k, ks, [], h => by cases k <;> simp [klay] at h
  | false, ks, a :: as, h => by
    cases a <;> first | (simp [klay] at h; done) | skip
    rename_i b
    exact ⟨_, _, rfl, by simpa [klay] using h, fun _ => ⟨b, rfl⟩, fun h => by cases h⟩
  | true, ks, a :: as, h => by
    cases a <;> first | (simp [klay] at h; done) | skip
    rename_i i n
    exact ⟨_, _, rfl, by simpa [klay] using h, (fun h => by cases h), fun _ => ⟨i, n, rfl⟩⟩

theorem klay_split : ∀ (n : Nat) {ks : List Bool} {as : List AV}, klay ks as = true → klay (ks.take n) (as.take n) = true ∧ klay (ks.drop n) (as.drop n) = true
  | 0, ks, as, h => ⟨by simp [klay], by simpa using h⟩
  | n + 1, [], as, h => by
    have := klay_len h
    have : as = [] := List.eq_nil_of_length_eq_zero this
    subst this
    exact ⟨by simp [klay], by simp [klay]⟩
  | n + 1, k :: ks, as, h => by
    obtain ⟨a, r, rfl, h1, h2, h3⟩ := klay_tail h
    obtain ⟨h4, h5⟩ := klay_split n h1
    refine ⟨?_, by simpa using h5⟩
    cases k with
    | false => obtain ⟨b, rfl⟩ := h2 rfl; simpa [klay] using h4
    | true => obtain ⟨i, m, rfl⟩ := h3 rfl; simpa [klay] using h4

def CheckOk (P : Program) (em : Bool) (D : Nat) (t : TypeId) (ks : List Bool) : Prop := ∀ (c : Cx) (as : List AV) (vs : List Value) (w : World), RepL c as vs → klay ks as = true →
  (tagg P t = some true → (Instr.checkKey em D t (.agg vs.toArray)).run P w = .ok () w) ∧ (tagg P t = some false → ∀ v, vs = [v] → (Instr.checkKey em D t v).run P w = .ok () w)

theorem checkFlds_ok {P : Program} {em : Bool} {d D : Nat} (IH : ∀ t ks, eqLay P d t = some ks → CheckOk P em D t ks) (c : Cx) (as : List AV) (vs : List Value) (w : World) (hv : RepL c as vs) :
    ∀ (fs : List Field) (acc : Nat) (ks : List Bool), eqFlds P (eqLay P d) fs acc = some ks → klay ks (as.drop acc) = true →
      (forIn fs PUnit.unit fun (f : Field) (_ : PUnit) => (do
        if f.name ≠ "_" then
          Instr.checkKey em D f.type (← part f.type vs.toArray f.offset)
          pure (ForInStep.yield PUnit.unit)
        else pure (ForInStep.yield PUnit.unit) : Sem (ForInStep PUnit))).run P w = .ok PUnit.unit w
  | [], acc, ks, h, he => by simp
  | f :: fs, acc, ks, h, he => by
    simp only [eqFlds] at h
    split at h <;> try (simp at h; done)
    rename_i hc
    split at h <;> try (simp at h; done)
    rename_i q hq
    split at h <;> try (simp at h; done)
    rename_i hz
    simp only [Option.map_eq_some_iff] at h
    obtain ⟨kr, hkr, rfl⟩ := h
    have hname : f.name ≠ "_" := fun e => hc (.inl e)
    have hoff : f.offset = acc := Decidable.byContradiction fun e => hc (.inr e)
    subst hoff
    have l1 := klay_len he
    simp only [List.length_drop, List.length_append] at l1
    obtain ⟨h1, h2⟩ := klay_split q.length he
    simp only [List.take_left, List.drop_left] at h1 h2
    have ih := checkFlds_ok IH c as vs w hv fs (f.offset + q.length) kr hkr (by simpa [List.drop_drop] using h2)
    have key := IH f.type q hq c ((as.drop f.offset).take q.length) ((vs.drop f.offset).take q.length) w ((hv.drop _).take _) h1
    have hpart : ∃ a, (part f.type vs.toArray f.offset).run P w = .ok a w ∧ (Instr.checkKey em D f.type a).run P w = .ok () w := by
      obtain ⟨ag, hag⟩ := eqLay_agg hq
      cases ag with
      | true =>
        refine ⟨_, run_part_agg hag hz w _ _, ?_⟩
        have := key.1 hag
        rw [← this]
        congr 2
        apply congrArg
        apply Array.ext'; simp [List.extract_eq_take_drop]
      | false =>
        have hq1 := eqLay_one hq hag
        rw [hq1] at key
        have hvl := hv.1
        have l1 : f.offset < vs.length := by omega
        refine ⟨vs[f.offset], run_part_one hag w _ _ _ (by simp [l1]), key.2 hag _ ?_⟩
        rw [List.take_one, List.head?_drop, List.getElem?_eq_getElem l1]; rfl
    obtain ⟨a, p1, p2⟩ := hpart
    simp only [List.forIn_cons, Sem.run_bind, hname, ne_eq, not_false_eq_true, if_true, Result.andThen_ok, p1, p2, Sem.run_pure]
    simpa using ih

theorem checkKey_ok {P : Program} {em : Bool} : ∀ (d : Nat) (t : TypeId) (ks : List Bool), eqLay P d t = some ks → ∀ k, CheckOk P em (d + k) t ks
  | 0, t, ks, h, k => by simp [eqLay] at h
  | d + 1, t, ks, h, k => by
    intro c as vs w hv he
    simp only [eqLay] at h
    split at h <;> try (simp at h; done)
    · rename_i hun
      refine ⟨fun hag => by simp [tagg, hun] at hag, fun _ v ev => ?_⟩
      rw [show d + 1 + k = (d + k) + 1 by omega, Instr.checkKey]
      simp [run_underlying hun]
    · rename_i kk hun
      refine ⟨fun hag => by simp [tagg, hun] at hag, fun _ v ev => ?_⟩
      rw [show d + 1 + k = (d + k) + 1 by omega, Instr.checkKey]
      simp [run_underlying hun]
    · rename_i fs hun
      split at h <;> try (simp at h; done)
      rename_i hs
      refine ⟨fun _ => ?_, fun hag => by simp [tagg, hun] at hag⟩
      rw [show d + 1 + k = (d + k) + 1 by omega, Instr.checkKey]
      simp only [Sem.run_bind, run_underlying hun, Result.andThen_ok]
      rw [← Array.forIn_toList]
      have := checkFlds_ok (fun t n h => checkKey_ok (em := em) d t n h k) c as vs w hv fs.toList 0 ks h (by simpa using he)
      simp at this
      simp [this]

/-- What lies at a key. -/
def mfind (ks : List Bool) (k : List AV) : List (List AV) → Option (Option AV)
  | [] => some none
  | [x, v] :: r => match aeqL ks k x.cells with
    | some true => some (some v)
    | some false => mfind ks k r
    | none => none
  | _ :: _ => none

/-- A type's zero value, if it is plain. -/
def tzv (P : Program) (t : TypeId) : Option AV := match P.info? t with
  | some i => i.zero.map absC0
  | none => none

theorem tzv_ok {P : Program} {t : TypeId} {x : AV} (h : tzv P t = some x) (c : Cx) : ∃ z, (zeroValue t).run P c.w = .ok z c.w ∧ Rep c x z := by
  unfold tzv at h
  split at h <;> try (simp at h; done)
  rename_i i hi
  simp only [Option.map_eq_some_iff] at h
  obtain ⟨v, hv, rfl⟩ := h
  exact ⟨v, by simp [zeroValue, typeInfo, hi, hv], absC0_ok c v⟩

/-- A key's layout, and the zero value. -/
def mlay (P : Program) (t : TypeId) : Option (TypeId × List Bool × Option AV) := match P.underlying t with
  | some (.map k e) => match eqLay P 20 k with
    | some ks => some (k, ks, tzv P e)
    | none => none
  | _ => none

theorem mlay_ok {P : Program} {t k : TypeId} {ks : List Bool} {zv : Option AV} (h : mlay P t = some (k, ks, zv)) : ∃ e, P.underlying t = some (.map k e) ∧ eqLay P 20 k = some ks ∧ zv = tzv P e := by
  unfold mlay at h
  split at h <;> try (simp at h; done)
  rename_i k' e hu
  split at h <;> simp only [reduceCtorEq, Option.some.injEq, Prod.mk.injEq] at h
  rename_i ks' h1
  obtain ⟨rfl, rfl, rfl⟩ := h
  exact ⟨e, hu, h1, rfl⟩

/-- A key as it is written: its cells. -/
def keyOkA (ag : Bool) : AV → Bool
  | .agg _ => ag
  | .bool _ => !ag
  | .int _ _ => !ag
  | _ => false

theorem keyOkA_rep {c : Cx} {ag : Bool} {x : AV} {v : Value} (h : Rep c x v) (hk : keyOkA ag x = true) : (ag = true → ∃ vs : Array Value, v = .agg vs ∧ RepL c x.cells vs.toList) ∧ (ag = false → RepL c x.cells [v]) := by
  cases h <;> simp [keyOkA] at hk
  case bool b => subst hk; exact ⟨by simp, fun _ => RepL.cons (.bool b) (RepL.nil c)⟩
  case int k n => subst hk; exact ⟨by simp, fun _ => RepL.cons (.int k n) (RepL.nil c)⟩
  case agg cs vs hl h => subst hk; exact ⟨fun _ => ⟨vs, rfl, by simpa [AV.cells] using hl, fun i a v h1 h2 => h i a v h1 (by simpa using h2)⟩, by simp⟩

theorem equal_key {P : Program} {c : Cx} {t : TypeId} {ks : List Bool} {ag : Bool} (hks : eqLay P 20 t = some ks) (hag : tagg P t = some ag) {x y : AV} {v u : Value} (hx : Rep c x v) (hy : Rep c y u) (kx : keyOkA ag x = true) (ky : keyOkA ag y = true) {r : Bool} (h : aeqL ks x.cells y.cells = some r) (w : World) :
    (Op.equal t v u).run P w = .ok r w := by
  have hq := equalIn_ok 20 t ks hks 9980
  cases ag with
  | true =>
    obtain ⟨vs, rfl, hv⟩ := (keyOkA_rep hx kx).1 rfl
    obtain ⟨us, rfl, hu⟩ := (keyOkA_rep hy ky).1 rfl
    have := (hq c _ _ _ _ r w hv hu h).1 hag
    exact this
  | false =>
    have hv := (keyOkA_rep hx kx).2 rfl
    have hu := (keyOkA_rep hy ky).2 rfl
    exact (hq c _ _ _ _ r w hv hu h).2 hag _ _ rfl rfl

/-- All keys of a map are of its keys' kind. -/
def mkeys (ag : Bool) (rows : List (List AV)) : Bool := rows.all fun r => match r with
  | [k, _] => keyOkA ag k
  | _ => false

theorem findAsking_ok {P : Program} {c : Cx} {t : TypeId} {ks : List Bool} {ag : Bool} (hks : eqLay P 20 t = some ks) (hag : tagg P t = some ag) {x : AV} {v : Value} (hx : Rep c x v) (kx : keyOkA ag x = true) (w : World) :
    ∀ (es : List MapEntry) (rows : List (List AV)) (i : Nat) (r : Option AV), es.length = rows.length → (∀ (p : Nat) (e : MapEntry) (r : List AV), es[p]? = some e → rows[p]? = some r → ∃ k v, r = [k, v] ∧ Rep c k e.key ∧ Rep c v e.val) → mkeys ag rows = true → mfind ks x.cells rows = some r →
      ∃ q, (Instr.findAsking t v es i).run P w = .ok q w ∧ (r = none → q = none) ∧ (∀ y, r = some y → ∃ j u, q = some (j, u) ∧ Rep c y u)
  | [], rows, i, r, hl, _, _, h => by
    rw [List.eq_nil_of_length_eq_zero (l := rows) (by simpa using hl.symm)] at h
    simp only [mfind, Option.some.injEq] at h
    subst h
    exact ⟨none, by simp [Instr.findAsking], fun _ => rfl, fun y hy => by cases hy⟩
  | e :: es, [], i, r, hl, _, _, h => by simp at hl
  | e :: es, row :: rows, i, r, hl, hr, hm, h => by
    obtain ⟨k, u, rfl, h1, h2⟩ := hr 0 e row rfl rfl
    simp only [mkeys, List.all_cons, Bool.and_eq_true] at hm
    simp only [mfind] at h
    split at h <;> try (simp at h; done)
    · rename_i heq
      simp only [Option.some.injEq] at h
      subst h
      have := equal_key (P := P) hks hag hx h1 kx hm.1 heq w
      exact ⟨some (i, e.val), by simp [Instr.findAsking, this], by simp, fun y hy => by cases hy; exact ⟨_, _, rfl, h2⟩⟩
    · rename_i heq
      have := equal_key (P := P) hks hag hx h1 kx hm.1 heq w
      obtain ⟨q, h3, h4, h5⟩ := findAsking_ok hks hag hx kx w es rows (i + 1) r (by simpa using hl) (fun p e' r' q1 q2 => hr (p + 1) e' r' (by simpa using q1) (by simpa using q2)) hm.2 h
      exact ⟨q, by simp [Instr.findAsking, this, h3], h4, h5⟩

theorem sameNow_ok {c : Cx} {ks : List Bool} {ag : Bool} {x y : AV} {v u : Value} (hx : Rep c x v) (hy : Rep c y u) (kx : keyOkA ag x = true) (ky : keyOkA ag y = true) {r b : Bool} (h : aeqL ks x.cells y.cells = some r) {d : TypeDesc} (hs : Instr.sameNow d v u = some b) : b = r := by
  cases hx <;> simp [keyOkA] at kx
  case bool p =>
    cases hy <;> simp [keyOkA, kx] at ky
    case bool q =>
      unfold Instr.sameNow at hs
      split at hs <;> simp_all [AV.cells]
      obtain ⟨rfl, rfl⟩ := by assumption
      cases ks with
      | nil => simp [aeqL] at h
      | cons k ks =>
        cases ks with
        | nil => cases k <;> simp [aeqL, aeq1] at h; simp_all
        | cons k2 ks => simp [aeqL] at h
    case int => unfold Instr.sameNow at hs; split at hs <;> simp_all
  case int k n =>
    cases hy <;> simp [keyOkA, kx] at ky
    case bool q => unfold Instr.sameNow at hs; split at hs <;> simp_all
    case int j m =>
      unfold Instr.sameNow at hs
      split at hs <;> simp_all [AV.cells]
      cases ks with
      | nil => simp [aeqL] at h
      | cons k ks =>
        cases ks with
        | nil => cases k <;> simp [aeqL, aeq1] at h; simp_all
        | cons k2 ks => simp [aeqL] at h
  case agg cs vs hl hh => unfold Instr.sameNow at hs; split at hs <;> simp_all

theorem findNow_ok {c : Cx} {ks : List Bool} {ag : Bool} {x : AV} {v : Value} (hx : Rep c x v) (kx : keyOkA ag x = true) (d : TypeDesc) :
    ∀ (es : List MapEntry) (rows : List (List AV)) (i : Nat) (r : Option AV), es.length = rows.length → (∀ (p : Nat) (e : MapEntry) (r : List AV), es[p]? = some e → rows[p]? = some r → ∃ k v, r = [k, v] ∧ Rep c k e.key ∧ Rep c v e.val) → mkeys ag rows = true → mfind ks x.cells rows = some r →
      ∀ q, Instr.findNow d v es i = some q → (r = none → q = none) ∧ (∀ y, r = some y → ∃ j u, q = some (j, u) ∧ Rep c y u)
  | [], rows, i, r, hl, _, _, h, q, hq => by
    rw [List.eq_nil_of_length_eq_zero (l := rows) (by simpa using hl.symm)] at h
    simp only [mfind, Option.some.injEq] at h
    subst h
    simp only [Instr.findNow, Option.some.injEq] at hq
    subst hq
    exact ⟨fun _ => rfl, fun y hy => by cases hy⟩
  | e :: es, [], i, r, hl, _, _, h, q, hq => by simp at hl
  | e :: es, row :: rows, i, r, hl, hr, hm, h, q, hq => by
    obtain ⟨k, u, rfl, h1, h2⟩ := hr 0 e row rfl rfl
    simp only [mkeys, List.all_cons, Bool.and_eq_true] at hm
    simp only [mfind] at h
    simp only [Instr.findNow] at hq
    split at h <;> try (simp at h; done)
    · rename_i heq
      simp only [Option.some.injEq] at h
      subst h
      split at hq
      · simp only [Option.some.injEq] at hq
        subst hq
        exact ⟨by simp, fun y hy => by cases hy; exact ⟨_, _, rfl, h2⟩⟩
      · rename_i hs
        have := sameNow_ok hx h1 kx hm.1 heq hs
        cases this
      · cases hq
    · rename_i heq
      split at hq
      · rename_i hs
        have := sameNow_ok hx h1 kx hm.1 heq hs
        cases this
      · exact findNow_ok hx kx d es rows (i + 1) r (by simpa using hl) (fun p e' r' q1 q2 => hr (p + 1) e' r' (by simpa using q1) (by simpa using q2)) hm.2 h q hq
      · cases hq

theorem findKey_ok {P : Program} {c : Cx} {t : TypeId} {ks : List Bool} {ag : Bool} (hks : eqLay P 20 t = some ks) (hag : tagg P t = some ag) {x : AV} {v : Value} (hx : Rep c x v) (kx : keyOkA ag x = true) (w : World)
    (es : List MapEntry) (rows : List (List AV)) (r : Option AV) (hl : es.length = rows.length) (hr : ∀ (p : Nat) (e : MapEntry) (r : List AV), es[p]? = some e → rows[p]? = some r → ∃ k v, r = [k, v] ∧ Rep c k e.key ∧ Rep c v e.val) (hm : mkeys ag rows = true) (h : mfind ks x.cells rows = some r) :
      ∃ q, (Instr.findKey t v es).run P w = .ok q w ∧ (r = none → q = none) ∧ (∀ y, r = some y → ∃ j u, q = some (j, u) ∧ Rep c y u) := by
  obtain ⟨d, hd⟩ : ∃ d, P.underlying t = some d := by
    unfold tagg at hag; split at hag <;> first | (exact ⟨_, by assumption⟩) | simp at hag
  cases hf : Instr.findNow d v es 0 with
  | some q =>
    obtain ⟨h1, h2⟩ := findNow_ok hx kx d es rows 0 r hl hr hm h q hf
    exact ⟨q, by simp [Instr.findKey, run_underlying hd, hf], h1, h2⟩
  | none =>
    obtain ⟨q, h1, h2, h3⟩ := findAsking_ok (P := P) hks hag hx kx w es rows 0 r hl hr hm h
    exact ⟨q, by simp [Instr.findKey, run_underlying hd, hf, h1], h2, h3⟩

/-! ### the effects -/
def eMkmap (id : Bid) (m : Mem) : Option Eff := if m id = none then some ⟨.mp id, [(id, ⟨0, [], true⟩)]⟩ else none
def lres (ok : Bool) (v : AV) (b : Bool) : AV := if ok then .tup [v, .bool b] else v
def eLook (kag : Bool) (ks : List Bool) (zv : AV) (ok : Bool) (m : Mem) (x k : AV) : Option AV := match x with
  | .mp b => match m b with
    | some q => if q.z = 0 ∧ keyOkA kag k = true ∧ mkeys kag q.rows = true ∧ klay ks k.cells = true then match mfind ks k.cells q.rows with
        | some (some v) => some (lres ok v true)
        | some none => some (lres ok zv false)
        | none => none
      else none
    | none => none
  | _ => none
def eMput (kag : Bool) (ks : List Bool) (m : Mem) (x k v : AV) : Option Eff := match x with
  | .mp b => match m b with
    | some q => if q.z = 0 ∧ keyOkA kag k = true ∧ mkeys kag q.rows = true ∧ klay ks k.cells = true then match mfind ks k.cells q.rows with
        | some none => some ⟨.undef, [(b, ⟨0, q.rows ++ [[k, v]], q.sole⟩)]⟩
        | _ => none
      else none
    | none => none
  | _ => none

theorem run_getObj' {P : Program} {w : World} {g : Nat} {es : Array MapEntry} {cl : Nat} (h : w.heap[g]? = some (.map es cl)) : (getObj g).run P w = .ok (.map es cl) w := by
  simp [getObj, Sem.run, h]

theorem run_setObj' {P : Program} {w : World} {g : Nat} {es : Array MapEntry} {cl : Nat} {o' : Obj} (h : w.heap[g]? = some (.map es cl)) : (setObj g o').run P w = .ok () (w.putObj g o') := by
  simp [setObj, Sem.run, h, World.putObj]

theorem eMkmap_ok {P : Program} {w0 : Gd} {S0 : Nat → Nat → Prop} {c : Cx} (hi : Inv w0 S0 c) {id : Bid} (hiy : id ≠ yB) {t : TypeId} {f : Eff} (h : eMkmap id c.m = some f) : OpOk P w0 S0 c (Instr.makeMap t none) f := by
  unfold eMkmap at h
  split at h <;> simp only [reduceCtorEq, Option.some.injEq] at h
  rename_i hm
  subst h
  have hno : ∀ o, ¬ c.S c.w.heap.size o := fun o h => absurd (hi.sdom _ _ h) (by omega)
  have hnew : (c.w.alloc (.map #[] 0)).heap[c.w.heap.size]? = some (.map #[] 0) := World.alloc_heap_new c.w _
  obtain ⟨hI, hE⟩ := hi.putG id ⟨0, [], true⟩ c.w.heap.size (c.w.alloc (.map #[] 0)) hiy rfl rfl rfl (by simp) (fun h hh hn => Below.heap_alloc c.w _ h hh) (fun hp => by have := w0.lt _ _ hi.q _ hp; omega)
    (fun j k hj hy hji hb => by have := (hi.blk j k hj hy).lt; omega) ⟨by simp, fun k o hk _ => (Below.heap_alloc c.w _ k (Array.getElem?_eq_some_iff.1 hk).1).trans hk⟩ (fun k hk => by rw [hm] at hk; cases hk)
    (fun o ho => absurd ho (hno o)) (fun o _ => hno o) (fun hx => ⟨fun hp => by have := w0.lt _ _ hi.q _ hp; omega, fun hz => absurd hz (Nat.lt_irrefl 0), fun hz => absurd hz (Nat.lt_irrefl 0), fun _ => ⟨#[], 0, hnew, rfl, fun p e r h1 => by simp at h1⟩⟩)
  refine ⟨_, _, run_makeMap t c.w, rfl, hI, hE, ?_⟩
  have := Rep.mp (c := ⟨c.S, updB c.β id c.w.heap.size, c.w.alloc (.map #[] 0), updB c.m id (some ⟨0, [], true⟩)⟩) id ⟨0, [], true⟩ hiy (by simp) rfl
  simpa using this

theorem mp_rep {w0 : Gd} {S0 : Nat → Nat → Prop} {c : Cx} (hi : Inv w0 S0 c) {b : Bid} {v : Value} (hr : Rep c (.mp b) v) {q : ABlk} (hq : c.m b = some q) : b ≠ yB ∧ v = .map (some (c.β b)) ∧ MapAt c (c.β b) q.rows ∧ q.z = 0 := by
  cases hr with
  | mp i k hy hm hz =>
    rw [hq] at hm
    cases hm
    exact ⟨hy, rfl, (hi.blk b q hq hy).map hz, hz⟩

theorem klay_check {P : Program} {c : Cx} {t : TypeId} {ks : List Bool} {ag em : Bool} (hks : eqLay P 20 t = some ks) (hag : tagg P t = some ag) {x : AV} {v : Value} (hx : Rep c x v) (kx : keyOkA ag x = true) (hl : klay ks x.cells = true) (w : World) : (Instr.checkKey em 10000 t v).run P w = .ok () w := by
  have hq := checkKey_ok (P := P) (em := em) 20 t ks hks 9980
  cases ag with
  | true =>
    obtain ⟨vs, rfl, hv⟩ := (keyOkA_rep hx kx).1 rfl
    have := (hq c _ _ w hv hl).1 hag
    simpa using this
  | false =>
    exact (hq c _ _ w ((keyOkA_rep hx kx).2 rfl) hl).2 hag _ rfl

theorem eLook_ok {P : Program} {w0 : Gd} {S0 : Nat → Nat → Prop} {c : Cx} (hi : Inv w0 S0 c) {t kt et : TypeId} {ks : List Bool} {kag : Bool} {zv : AV} (ht : P.underlying t = some (.map kt et)) (hks : eqLay P 20 kt = some ks) (hag : tagg P kt = some kag)
    (hzv : ∃ z, (zeroValue et).run P c.w = .ok z c.w ∧ Rep c zv z) {ok : Bool} {x k r : AV} {v u : Value} (hx : Rep c x v) (hk : Rep c k u) (h : eLook kag ks zv ok c.m x k = some r) : ∃ q, (Instr.lookup t v u ok).run P c.w = .ok q c.w ∧ Rep c r q := by
  unfold eLook at h
  split at h <;> try (simp at h; done)
  rename_i b
  split at h <;> try (simp at h; done)
  rename_i q hq
  split at h <;> try (simp at h; done)
  rename_i hc
  obtain ⟨hz, hka, hkeys, hlay⟩ := hc
  obtain ⟨hy, rfl, hM, _⟩ := mp_rep hi hx hq
  obtain ⟨es, cl, hg, hs, hrow⟩ := hM
  have hck : ∀ em, (Instr.checkKey em 10000 kt u).run P c.w = .ok () c.w := fun em => klay_check hks hag hk hka hlay c.w
  have tup : ∀ (y : AV) (yv : Value) (b : Bool), Rep c y yv → Rep c (lres ok y b) (if ok then .tuple #[yv, .bool b] else yv) := by
    intro y yv b hy
    cases ok with
    | false => simpa [lres] using hy
    | true =>
      simp only [lres, if_true]
      exact .tup _ _ (by simp) (fun i a v h1 h2 => by
        match i with
        | 0 => simp at h1 h2; subst h1; subst h2; exact hy
        | 1 => simp at h1 h2; subst h1; subst h2; exact .bool b
        | i + 2 => simp at h1)
  have hfind : ∀ rr, mfind ks k.cells q.rows = some rr → ∃ fk, (Instr.findKey kt u es.toList).run P c.w = .ok fk c.w ∧ (rr = none → fk = none) ∧ (∀ y, rr = some y → ∃ j z, fk = some (j, z) ∧ Rep c y z) := fun rr hrr =>
    findKey_ok hks hag hk hka c.w es.toList q.rows rr (by simpa using hs) (fun p e r h1 h2 => hrow p e r (by simpa using h1) h2) hkeys hrr
  split at h <;> simp only [reduceCtorEq, Option.some.injEq] at h
  · rename_i y hf
    subst h
    obtain ⟨fk, h1, _, h3⟩ := hfind _ hf
    obtain ⟨j, z, rfl, hz'⟩ := h3 y rfl
    exact ⟨_, by simp [Instr.lookup, run_underlying ht, run_getObj' hg, hck, h1], tup _ _ _ hz'⟩
  · rename_i hf
    subst h
    obtain ⟨fk, h1, h2, _⟩ := hfind _ hf
    obtain rfl := h2 rfl
    obtain ⟨z, hz1, hz2⟩ := hzv
    exact ⟨_, by simp [Instr.lookup, run_underlying ht, run_getObj' hg, hck, h1, hz1], tup _ _ _ hz2⟩

theorem eMput_ok {P : Program} {w0 : Gd} {S0 : Nat → Nat → Prop} {c : Cx} (hi : Inv w0 S0 c) {t kt et : TypeId} {ks : List Bool} {kag : Bool} (ht : P.underlying t = some (.map kt et)) (hks : eqLay P 20 kt = some ks) (hag : tagg P kt = some kag)
    {x k y : AV} {v u z : Value} (hx : Rep c x v) (hk : Rep c k u) (hyz : Rep c y z) {f : Eff} (h : eMput kag ks c.m x k y = some f) :
    ∃ c', (Instr.mapUpdate t v u z).run P c.w = .ok () c'.w ∧ c'.m = applyW c.m f.ws ∧ Inv w0 S0 c' ∧ c.Ext c' ∧ f.v = .undef := by
  unfold eMput at h
  split at h <;> try (simp at h; done)
  rename_i b
  split at h <;> try (simp at h; done)
  rename_i q hq
  split at h <;> try (simp at h; done)
  rename_i hc
  obtain ⟨hz, hka, hkeys, hlay⟩ := hc
  split at h <;> simp only [reduceCtorEq, Option.some.injEq] at h
  rename_i hf
  subst h
  obtain ⟨hy, rfl, hM, _⟩ := mp_rep hi hx hq
  have hB := hi.blk b q hq hy
  obtain ⟨es, cl, hg, hs, hrow⟩ := hM
  obtain ⟨fk, h1, h2, _⟩ := findKey_ok (P := P) hks hag hk hka c.w es.toList q.rows none (by simpa using hs) (fun p e r h1 h2 => hrow p e r (by simpa using h1) h2) hkeys hf
  obtain rfl := h2 rfl
  have hck : (Instr.checkKey false 10000 kt u).run P c.w = .ok () c.w := klay_check hks hag hk hka hlay c.w
  have hlt := (Array.getElem?_eq_some_iff.1 hg).1
  have hno : ∀ o, ¬ c.S (c.β b) o := fun o => hi.excl b q o hq hy (.inr (by rw [hz]; simp))
  have hnew : (c.w.putObj (c.β b) (.map (es.push { key := u, val := z, born := cl }) (cl + 1))).heap[c.β b]? = some (.map (es.push { key := u, val := z, born := cl }) (cl + 1)) := World.putObj_heap_same hlt
  obtain ⟨hI, hE⟩ := hi.putG b ⟨0, q.rows ++ [[k, y]], q.sole⟩ (c.β b) (c.w.putObj (c.β b) (.map (es.push { key := u, val := z, born := cl }) (cl + 1))) hy rfl rfl rfl (by simp) (fun h hh hn => World.putObj_heap_other hn) hB.base
    (fun j k hj hyj hji hb => hji (hi.inj j b k q hj hq hyj hy hb)) ⟨by simp, fun g o hg' ho => by
      by_cases e : g = c.β b
      · subst e; rw [hg] at hg'; cases hg'; simp [isBook] at ho
      · exact (World.putObj_heap_other e).trans hg'⟩
    (fun k0 hk0 => by rw [hq] at hk0; cases hk0; exact ⟨hz.symm, fun _ => rfl, fun hp => by omega⟩)
    (fun o ho => absurd ho (hno o)) (fun o _ => hno o)
    (fun hx' => ⟨hB.base, fun hp => absurd hp (Nat.lt_irrefl 0), fun hp => absurd hp (Nat.lt_irrefl 0), fun _ => ⟨_, _, hnew, by simp [hs], fun p e r h3 h4 => by
      by_cases hp : p < es.size
      · rw [Array.getElem?_push, if_neg (by omega)] at h3
        rw [List.getElem?_append_left (by omega)] at h4
        obtain ⟨k1, v1, e1, e2, e3⟩ := hrow p e r h3 h4
        exact ⟨k1, v1, e1, e2.ext hx', e3.ext hx'⟩
      · have hp2 : p = es.size := by
          have := (Array.getElem?_eq_some_iff.1 h3).1
          simp at this; omega
        subst hp2
        simp at h3
        rw [List.getElem?_append_right (by omega)] at h4
        rw [hs] at h4
        simp at h4
        subst h3; subst h4
        exact ⟨k, y, rfl, hk.ext hx', hyz.ext hx'⟩⟩⟩)
  refine ⟨⟨c.S, updB c.β b (c.β b), c.w.putObj (c.β b) (.map (es.push { key := u, val := z, born := cl }) (cl + 1)), updB c.m b (some ⟨0, q.rows ++ [[k, y]], q.sole⟩)⟩, ?_, rfl, hI, hE, rfl⟩
  · simp [Instr.mapUpdate, run_underlying ht, run_getObj' hg, hck, h1, run_setObj' hg]

end Go.Proofs.Ytpgkpdojpmikkaa.Eng

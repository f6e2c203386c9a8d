/-
  THE ENGINE, part 11: regions whose order is open: what is apart may change places.
-/
import Derived.Test.YtpgkpdojpmikkaaE10
set_option linter.unusedVariables false
set_option linter.unusedSimpArgs false
namespace Go.Proofs.Ytpgkpdojpmikkaa.Eng
open Go Go.RowKit

theorem refsL_append : ∀ (xs ys : List AV), refsL (xs ++ ys) = refsL xs ++ refsL ys
  | [], ys => rfl
  | x :: xs, ys => by simp [refsL, refsL_append xs ys]

theorem mem_refsL {xs : List AV} {x : AV} (hx : x ∈ xs) {b : Bid} (hb : b ∈ x.refs) : b ∈ refsL xs := by
  obtain ⟨i, hi, rfl⟩ := List.getElem_of_mem hx
  exact refsL_mem (List.getElem?_eq_getElem hi) b hb

section
variable {m m' : Mem}
theorem rdRow_congr {a : AV} (h : ∀ b, b ∈ a.refs → m' b = m b) : rdRow m' a = rdRow m a := by
  cases a <;> try rfl
  rename_i b n r o
  simp only [rdRow, h b (by simp [AV.refs])]
theorem rdSl_congr {a : AV} (h : ∀ b, b ∈ a.refs → m' b = m b) : rdSl m' a = rdSl m a := by
  cases a <;> try rfl
  rename_i b n
  simp only [rdSl, h b (by simp [AV.refs])]
theorem okc_congr {a : AV} (h : ∀ b, b ∈ a.refs → m' b = m b) : a.okc m' = a.okc m := by
  cases a <;> try rfl
  · rename_i b n; simp only [AV.okc, h b (by simp [AV.refs])]
  · rename_i b n r o; simp only [AV.okc, h b (by simp [AV.refs])]
theorem okv_congr {a : AV} (h : ∀ b, b ∈ a.refs → m' b = m b) : a.okv m' = a.okv m := by
  unfold AV.okv
  have key : ∀ x, x ∈ a.cells → x.okc m' = x.okc m := by
    intro x hx
    refine okc_congr fun b hb => h b ?_
    cases a <;> simp only [AV.cells, List.mem_singleton] at hx
    case agg cs => simp only [AV.refs]; exact mem_refsL hx hb
    all_goals (subst hx; exact hb)
  generalize a.cells = cs at key
  induction cs with
  | nil => rfl
  | cons x cs ih => simp only [List.all_cons, key x (by simp), ih (fun y hy => key y (by simp [hy]))]
theorem fillA_congr {pl : List (Nat × Nat)} : ∀ {ps : List (Nat × AV)} {cs : List AV}, (∀ b, b ∈ refsL (ps.map (·.2)) → m' b = m b) → fillA m' pl ps cs = fillA m pl ps cs
  | [], cs, h => rfl
  | (i, x) :: ps, cs, h => by
    simp only [fillA, okv_congr (a := x) (fun b hb => h b (by simp [refsL, hb]))]
    split
    · split
      · exact fillA_congr (fun b hb => h b (by simp [refsL, hb]))
      · rfl
    · rfl
theorem all_congr' {α : Type} {f g : α → Bool} : ∀ {l : List α}, (∀ x, x ∈ l → f x = g x) → l.all f = l.all g
  | [], _ => rfl
  | x :: l, h => by simp only [List.all_cons, h x (by simp), all_congr' (l := l) (fun y hy => h y (by simp [hy]))]
theorem eBsl_congr {z len : Nat} {ps : List (Nat × AV)} (h : ∀ b, b ∈ refsL (ps.map (·.2)) → m' b = m b) : eBsl z len m' ps = eBsl z len m ps := by
  unfold eBsl
  rw [all_congr' (l := ps) (f := fun p => p.2.okv m' && p.2.cells.length == z) (g := fun p => p.2.okv m && p.2.cells.length == z) (fun p hp => by
    rw [okv_congr (fun b hb => h b (mem_refsL (List.mem_map.2 ⟨p, hp, rfl⟩) hb))])]
theorem eNil_congr {a : AV} (h : ∀ b, b ∈ a.refs → m' b = m b) : eNil m' a = eNil m a := by
  cases a <;> try rfl
  rename_i b n r o
  simp only [eNil, h b (by simp [AV.refs])]
theorem eFaddr_congr {off : Nat} {a : AV} (h : ∀ b, b ∈ a.refs → m' b = m b) : eFaddr off m' a = eFaddr off m a := by
  cases a <;> try rfl
  rename_i b n r o
  simp only [eFaddr, h b (by simp [AV.refs])]
theorem eIaddr_congr {z : Nat} {a i : AV} (h : ∀ b, b ∈ a.refs → m' b = m b) : eIaddr z m' a i = eIaddr z m a i := by
  cases a with
  | own b n => cases i <;> first | rfl | simp only [eIaddr, h b (by simp [AV.refs])]
  | sl z' f rows => cases i <;> rfl
  | _ => cases i <;> rfl
theorem eNilsl_congr {t : Bool} {a : AV} (h : ∀ b, b ∈ a.refs → m' b = m b) : eNilsl t m' a = eNilsl t m a := by
  cases a with
  | own b n => simp only [eNilsl, h b (by simp [AV.refs])]
  | sl z f rows => cases rows <;> rfl
  | _ => rfl
theorem eNilpt_congr {t : Bool} {a : AV} (h : ∀ b, b ∈ a.refs → m' b = m b) : eNilpt t m' a = eNilpt t m a := by
  cases a with
  | ptr b n r o => simp only [eNilpt, h b (by simp [AV.refs])]
  | _ => rfl
theorem eLook_congr {kag : Bool} {ks : List Bool} {zv : AV} {ok : Bool} {x k : AV} (h : ∀ b, b ∈ x.refs → m' b = m b) : eLook kag ks zv ok m' x k = eLook kag ks zv ok m x k := by
  cases x <;> try rfl
  rename_i b
  simp only [eLook, h b (by simp [AV.refs])]
theorem eMput_congr {kag : Bool} {ks : List Bool} {x k v : AV} (h : ∀ b, b ∈ x.refs → m' b = m b) : eMput kag ks m' x k v = eMput kag ks m x k v := by
  cases x <;> try rfl
  rename_i b
  simp only [eMput, h b (by simp [AV.refs])]
theorem eMksl_congr {by_ : Nat} {zs : List AV} {id : Bid} {x y : AV} (h : m' id = m id) : eMksl by_ zs id m' x y = eMksl by_ zs id m x y := by
  cases x <;> cases y <;> try rfl
  simp only [eMksl, h]
theorem eStore_congr {z : Nat} {p x : AV} (h : ∀ b, b ∈ p.refs → m' b = m b) (h2 : ∀ b, b ∈ x.refs → m' b = m b) : eStore z m' p x = eStore z m p x := by
  cases p <;> try rfl
  rename_i b n r o
  simp only [eStore, h b (by simp [AV.refs]), okv_congr h2]
theorem eSlice_congr {z : Nat} {x : AV} {lo hi mm : Option AV} (h : ∀ b, b ∈ x.refs → m' b = m b) : eSlice z m' x lo hi mm = eSlice z m x lo hi mm := by
  cases x <;> try rfl
  rename_i b n
  simp only [eSlice, h b (by simp [AV.refs])]
theorem eApp_congr {z by_ : Nat} {id : Bid} {s x : AV} (h : ∀ b, b ∈ s.refs → m' b = m b) (h2 : ∀ b, b ∈ x.refs → m' b = m b) (hid : m' id = m id) : eApp z by_ id m' s x = eApp z by_ id m s x := by
  unfold eApp
  rw [rdSl_congr h2, rdSl_congr h, hid]
  cases s with
  | own b n => simp only [h b (by simp [AV.refs])]
  | sl z' f rows => cases f <;> rfl
  | _ => rfl
mutual
theorem pur_congr : ∀ {a : AV}, (∀ b, b ∈ a.refs → m' b = m b) → pur m' a = pur m a
  | .undef, _ => rfl
  | .bool _, _ => rfl
  | .int _ _, _ => rfl
  | .nilp, _ => rfl
  | .sl _ _ _, _ => rfl
  | .rp _, _ => rfl
  | .mp _, _ => rfl
  | .yld _, _ => rfl
  | .own b n, h => by simp only [pur, h b (by simp [AV.refs])]
  | .ptr b n r o, h => by simp only [pur, h b (by simp [AV.refs])]
  | .agg cs, h => by simp only [pur, purL_congr (as := cs) (by simpa [AV.refs] using h)]
  | .tup cs, h => by simp only [pur, purL_congr (as := cs) (by simpa [AV.refs] using h)]
  | .fn f cs, h => by simp only [pur, purL_congr (as := cs) (by simpa [AV.refs] using h)]
theorem purL_congr : ∀ {as : List AV}, (∀ b, b ∈ refsL as → m' b = m b) → purL m' as = purL m as
  | [], _ => rfl
  | a :: as, h => by simp only [purL, pur_congr (a := a) (fun b hb => h b (by simp [refsL, hb])), purL_congr (as := as) (fun b hb => h b (by simp [refsL, hb]))]
end
theorem fzW_congr : ∀ {bs : List Bid}, (∀ b, b ∈ bs → m' b = m b) → fzW m' bs = fzW m bs
  | [], _ => rfl
  | b :: bs, h => by
    have := fzW_congr (bs := bs) (fun b hb => h b (by simp [hb]))
    unfold fzW at this ⊢
    simp only [List.filterMap_cons, h b (by simp), this]
end

theorem ev_xs {e e' : AEnv} {o : AOp} (h : ∀ x, x ∈ o.xs → x.ev e' = x.ev e) : (o.xs.map (·.ev e')) = o.xs.map (·.ev e) := List.map_congr_left h

theorem map_ps {e e' : AEnv} {ps : List (Nat × AX)} (h : ∀ x, x ∈ ps.map (·.2) → x.ev e' = x.ev e) : (ps.map fun p => (p.1, p.2.ev e')) = ps.map fun p => (p.1, p.2.ev e) :=
  List.map_congr_left fun p hp => by rw [h p.2 (List.mem_map.2 ⟨p, hp, rfl⟩)]

theorem effA_congr {id : Bid} {m m' : Mem} {e e' : AEnv} {o : AOp} (hx : ∀ x, x ∈ o.xs → x.ev e' = x.ev e) (hm : ∀ b, b ∈ o.refs e → m' b = m b) (hid : m' id = m id) : effA id m' e' o = effA id m e o := by
  cases o <;> simp only [AOp.xs, List.mem_cons, List.not_mem_nil, or_false, forall_eq_or_imp, forall_eq] at hx <;> simp only [AOp.refs, AOp.xs, List.map_cons, List.map_nil, refsL, List.append_nil, List.mem_append] at hm
  case mv x => simp only [effA, hx]
  case pick c a b => simp only [effA, hx.1, hx.2.1, hx.2.2]
  case alloc zs => simp only [effA, eAlloc, hid]
  case box z x => simp only [effA, eBox, hx, hid, okv_congr hm]
  case build zs pl ps =>
    simp only [effA, map_ps hx]
    rw [fillA_congr]
    intro b hb; apply hm
    rw [List.map_map] at hb ⊢; exact hb
  case bsl z len ps =>
    simp only [effA, map_ps hx]
    rw [eBsl_congr]
    intro b hb; apply hm
    rw [List.map_map] at hb ⊢; exact hb
  case load z ag x => simp only [effA, eLoad, hx, rdRow_congr hm]
  case store z p x => simp only [effA, hx.1, hx.2]; exact eStore_congr (fun b hb => hm b (.inl hb)) (fun b hb => hm b (.inr hb))
  case nilck x => simp only [effA, hx, eNil_congr hm]
  case bin op tb ta x y => simp only [effA, hx.1, hx.2]
  case un op x => simp only [effA, hx]
  case conv k x => simp only [effA, hx]
  case mkfn f cs => simp only [effA]; rw [List.map_congr_left hx]
  case slice z x lo hi mm =>
    simp only [effA, hx.1]
    have h1 : lo.map (·.ev e') = lo.map (·.ev e) := by cases lo <;> simp_all
    have h2 : hi.map (·.ev e') = hi.map (·.ev e) := by cases hi <;> simp_all
    have h3 : mm.map (·.ev e') = mm.map (·.ev e) := by cases mm <;> simp_all
    rw [h1, h2, h3]
    exact eSlice_congr (fun b hb => hm b (.inl hb))
  case faddr off x => simp only [effA, hx, eFaddr_congr hm]
  case fld off z ag x => simp only [effA, hx]
  case iaddr z x i => simp only [effA, hx.1, hx.2, eIaddr_congr (fun b hb => hm b (.inl hb))]
  case ext x i => simp only [effA, hx]
  case len x => simp only [effA, eLen, hx, rdSl_congr hm]
  case app z by_ s x => simp only [effA, hx.1, hx.2]; exact eApp_congr (fun b hb => hm b (.inl hb)) (fun b hb => hm b (.inr hb)) hid
  case mx xs => simp only [effA]; rw [List.map_congr_left hx]
  case mn xs => simp only [effA]; rw [List.map_congr_left hx]
  case nilsl b x => simp only [effA, hx, eNilsl_congr hm]
  case nilpt b x => simp only [effA, hx, eNilpt_congr hm]
  case mksl by_ zs l c => simp only [effA, hx.1, hx.2, eMksl_congr hid]
  case mkmap h =>
    have h1 : h.map (·.ev e') = h.map (·.ev e) := by cases h <;> simp_all
    simp only [effA, h1, eMkmap, hid]
  case look kag ks zv ok x k => simp only [effA, hx.1, hx.2, eLook_congr (fun b hb => hm b (.inl hb))]
  case mput kag ks x k v => simp only [effA, hx.1, hx.2.1, hx.2.2]; exact eMput_congr (fun b hb => hm b (.inl hb))
  case call f args => rfl

theorem EffOk_congr {P : Program} {id : Bid} {m m' : Mem} {e e' : AEnv} {o : AOp} {f : Eff} (hx : ∀ x, x ∈ o.xs → x.ev e' = x.ev e) (hm : ∀ b, b ∈ o.refs e → m' b = m b) (hid : m' id = m id) (h : EffOk P id m e o f) : EffOk P id m' e' o f := by
  unfold EffOk at h ⊢
  split at h
  · rename_i g args
    obtain ⟨k, caps, h1, h2⟩ := h
    simp only [AOp.xs, List.mem_cons, forall_eq_or_imp] at hx
    have hargs : args.map (·.ev e') = args.map (·.ev e) := List.map_congr_left hx.2
    have hag : ∀ b, b ∈ refsL (args.map (·.ev e) ++ caps) → m' b = m b := by
      intro b hb
      apply hm
      simp only [AOp.refs, AOp.xs, List.map_cons, refsL, h1, AV.refs, List.mem_append]
      rw [refsL_append, List.mem_append] at hb
      exact hb.symm
    refine ⟨k, caps, by rw [hx.1, h1], ?_⟩
    rw [hargs]; exact h2.congr hag hid
  · rename_i hno
    rw [effA_congr hx hm hid]; exact h

/-! ### changing places -/
def AX.slot : AX → List Nat
  | .t i => [i]
  | .k _ => []
def AOper.looks (o : AOper) : List Nat := o.op.xs.flatMap AX.slot ++ (match o.g with | some (d, _) => [d] | none => [])
/-- Neither looks at what the other one yields. -/
def apartB (x y : AOper) : Bool :=
  (match x.dst with | some d => !(y.looks.contains d) && !(y.dst == some d) | none => true) && (match y.dst with | some d => !(x.looks.contains d) | none => true)

theorem ev_putE {x : AX} {e : AEnv} {d : Option Nat} {v : AV} (h : ∀ q, d = some q → q ∉ x.slot) : x.ev (putE e d v) = x.ev e := by
  cases d with
  | none => rfl
  | some q =>
    cases x with
    | k a => rfl
    | t i =>
      have := h q rfl
      simp only [AX.slot, List.mem_singleton] at this
      simp [AX.ev, putE, Ne.symm this]

theorem wants_putE {g : Option (Nat × Bool)} {e : AEnv} {d : Option Nat} {v : AV} (h : ∀ q, d = some q → ∀ b, g ≠ some (q, b)) : wants g (putE e d v) = wants g e := by
  cases d with
  | none => rfl
  | some q =>
    cases g with
    | none => rfl
    | some gb =>
      obtain ⟨i, b⟩ := gb
      have hi : i ≠ q := fun e => h q rfl b (by rw [e])
      simp [wants, putE, hi]

theorem putE_comm {e : AEnv} {d1 d2 : Option Nat} {v1 v2 : AV} (h : ∀ q, d1 = some q → d2 ≠ some q) : putE (putE e d1 v1) d2 v2 = putE (putE e d2 v2) d1 v1 := by
  cases d1 with
  | none => rfl
  | some p =>
    cases d2 with
    | none => rfl
    | some q =>
      have : q ≠ p := fun e => h p rfl (by rw [e])
      funext i
      simp only [putE]
      by_cases h1 : i = q
      · subst h1; simp [this]
      · simp [h1]

theorem applyW_out : ∀ {ws : List (Bid × ABlk)} {m : Mem} {b : Bid}, b ∉ ws.map (·.1) → applyW m ws b = m b
  | [], m, b, _ => rfl
  | (i, k) :: ws, m, b, h => by
    simp only [List.map_cons, List.mem_cons, not_or] at h
    rw [applyW, applyW_out h.2]
    simp [updB, h.1]

theorem updB_applyW : ∀ {ws : List (Bid × ABlk)} {m : Mem} {b : Bid} {k : Option ABlk}, b ∉ ws.map (·.1) → applyW (updB m b k) ws = updB (applyW m ws) b k
  | [], m, b, k, _ => rfl
  | (i, k') :: ws, m, b, k, h => by
    simp only [List.map_cons, List.mem_cons, not_or] at h
    rw [applyW, applyW, updB_comm _ _ _ _ _ h.1, updB_applyW h.2]

theorem applyW_comm : ∀ {ws us : List (Bid × ABlk)} {m : Mem}, (∀ b, b ∈ ws.map (·.1) → b ∉ us.map (·.1)) → applyW (applyW m ws) us = applyW (applyW m us) ws
  | [], us, m, _ => rfl
  | (i, k) :: ws, us, m, h => by
    rw [applyW, applyW, applyW_comm (fun b hb => h b (by simp [hb]))]
    rw [updB_applyW (h i (by simp))]

def disj (xs ys : List Bid) : Bool := xs.all fun b => !(ys.contains b)
theorem disj_not {xs ys : List Bid} (h : disj xs ys = true) {b : Bid} (hb : b ∈ xs) : b ∉ ys := by
  simp only [disj, List.all_eq_true] at h
  have := h b hb
  simpa using this
theorem disj_not' {xs ys : List Bid} (h : disj xs ys = true) {b : Bid} (hb : b ∈ ys) : b ∉ xs := fun hx => disj_not h hx hb

theorem step_comm {P : Program} {id1 id2 : Bid} {o1 o2 : AOper} {e e1 e2 : AEnv} {m m1 m2 : Mem} {r1 w1 r2 w2 : List Bid} (h1 : AStep P id1 o1 e m r1 w1 e1 m1) (h2 : AStep P id2 o2 e1 m1 r2 w2 e2 m2) (hap : apartB o1 o2 = true)
    (d1 : disj w1 (id2 :: r2) = true) (d2 : disj w2 (id1 :: r1) = true) (d3 : disj w1 w2 = true) : ∃ e1' m1', AStep P id2 o2 e m r2 w2 e1' m1' ∧ AStep P id1 o1 e1' m1' r1 w1 e2 m2 := by
  unfold apartB at hap
  simp only [Bool.and_eq_true] at hap
  have a1 : ∀ q, o1.dst = some q → q ∉ o2.looks ∧ o2.dst ≠ some q := by
    intro q hq
    rw [hq] at hap
    simp only [Bool.and_eq_true, Bool.not_eq_true', beq_eq_false_iff_ne, List.contains_eq_mem, decide_eq_false_iff_not] at hap
    exact hap.1
  have a2 : ∀ q, o2.dst = some q → q ∉ o1.looks := by
    intro q hq
    rw [hq] at hap
    simp only [Bool.not_eq_true', List.contains_eq_mem, decide_eq_false_iff_not] at hap
    exact hap.2
  have ev12 : ∀ v x, x ∈ o2.op.xs → x.ev (putE e o1.dst v) = x.ev e := fun v x hx => ev_putE fun q hq => fun hs => (a1 q hq).1 (by simp only [AOper.looks, List.mem_append, List.mem_flatMap]; exact .inl ⟨x, hx, hs⟩)
  have ev21 : ∀ v x, x ∈ o1.op.xs → x.ev (putE e o2.dst v) = x.ev e := fun v x hx => ev_putE fun q hq => fun hs => a2 q hq (by simp only [AOper.looks, List.mem_append, List.mem_flatMap]; exact .inl ⟨x, hx, hs⟩)
  have w12 : ∀ v, wants o2.g (putE e o1.dst v) = wants o2.g e := fun v => wants_putE fun q hq b hg => (a1 q hq).1 (by simp [AOper.looks, hg])
  have w21 : ∀ v, wants o1.g (putE e o2.dst v) = wants o1.g e := fun v => wants_putE fun q hq b hg => a2 q hq (by simp [AOper.looks, hg])
  have rf12 : ∀ v, o2.op.refs (putE e o1.dst v) = o2.op.refs e := fun v => by unfold AOp.refs; rw [ev_xs (ev12 v)]
  have rf21 : ∀ v, o1.op.refs (putE e o2.dst v) = o1.op.refs e := fun v => by unfold AOp.refs; rw [ev_xs (ev21 v)]
  rcases h1 with ⟨hw1, hr1, f1, hf1, hws1, rfl, rfl⟩ | ⟨hw1, hr1, hws1, rfl, rfl⟩
  · rcases h2 with ⟨hw2, hr2, f2, hf2, hws2, rfl, rfl⟩ | ⟨hw2, hr2, hws2, rfl, rfl⟩
    · rw [w12] at hw2
      rw [rf12] at hr2
      subst hr1; subst hws1; subst hr2; subst hws2
      have agree1 : ∀ b, b ∈ id2 :: o2.op.refs e → applyW m f1.ws b = m b := fun b hb => applyW_out (disj_not' d1 hb)
      have agree2 : ∀ b, b ∈ id1 :: o1.op.refs e → applyW m f2.ws b = m b := fun b hb => applyW_out (disj_not' d2 hb)
      have hf2' : EffOk P id2 m e o2.op f2 := EffOk_congr (m := applyW m f1.ws) (e := putE e o1.dst f1.v) (fun x hx => (ev12 f1.v x hx).symm) (fun b hb => by rw [rf12] at hb; exact (agree1 b (by simp [hb])).symm) (agree1 id2 (by simp)).symm hf2
      have hf1' : EffOk P id1 (applyW m f2.ws) (putE e o2.dst f2.v) o1.op f1 := EffOk_congr (fun x hx => ev21 f2.v x hx) (fun b hb => agree2 b (by simp [hb])) (agree2 id1 (by simp)) hf1
      refine ⟨putE e o2.dst f2.v, applyW m f2.ws, .inl ⟨hw2, rfl, f2, hf2', rfl, rfl, rfl⟩, .inl ⟨by rw [w21]; exact hw1, (rf21 f2.v).symm, f1, hf1', rfl, ?_, ?_⟩⟩
      · exact putE_comm fun q hq => (a1 q hq).2
      · exact applyW_comm fun b hb => disj_not d3 hb
    · rw [w12] at hw2
      subst hr1; subst hws1; subst hr2; subst hws2
      have hf1' : EffOk P id1 m (putE e o2.dst (.tup [])) o1.op f1 := EffOk_congr (fun x hx => ev21 (.tup []) x hx) (fun b hb => rfl) rfl hf1
      refine ⟨putE e o2.dst (.tup []), m, .inr ⟨hw2, rfl, rfl, rfl, rfl⟩, .inl ⟨by rw [w21]; exact hw1, (rf21 (.tup [])).symm, f1, hf1', rfl, ?_, rfl⟩⟩
      exact putE_comm fun q hq => (a1 q hq).2
  · rcases h2 with ⟨hw2, hr2, f2, hf2, hws2, rfl, rfl⟩ | ⟨hw2, hr2, hws2, rfl, rfl⟩
    · rw [w12] at hw2
      rw [rf12] at hr2
      subst hr1; subst hws1; subst hr2; subst hws2
      have hf2' : EffOk P id2 _ e o2.op f2 := EffOk_congr (e := putE e o1.dst (.tup [])) (fun x hx => (ev12 (.tup []) x hx).symm) (fun b hb => rfl) rfl hf2
      refine ⟨putE e o2.dst f2.v, _, .inl ⟨hw2, rfl, f2, hf2', rfl, rfl, rfl⟩, .inr ⟨by rw [w21]; exact hw1, rfl, rfl, ?_, rfl⟩⟩
      exact putE_comm fun q hq => (a1 q hq).2
    · rw [w12] at hw2
      subst hr1; subst hws1; subst hr2; subst hws2
      refine ⟨putE e o2.dst (.tup []), _, .inr ⟨hw2, rfl, rfl, rfl, rfl⟩, .inr ⟨by rw [w21]; exact hw1, rfl, rfl, ?_, rfl⟩⟩
      exact putE_comm fun q hq => (a1 q hq).2

end Go.Proofs.Ytpgkpdojpmikkaa.Eng

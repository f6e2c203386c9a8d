/-
  THE ENGINE, part 17: what is unfolded in a walk; steps; loops in which something is forgotten.
-/
import Derived.Test.YtpgkpdojpmikkaaE16b
set_option linter.unusedVariables false
set_option linter.unusedSimpArgs false
set_option maxRecDepth 100000
namespace Go.Proofs.Ytpgkpdojpmikkaa.Eng
open Go Go.Proofs

abbrev iv (n : Int) : AV := .int .i64 n
@[simp ↓] theorem awp_skip {P : Program} {Q : AExit → St → Prop} {s : St} : awp P .skip Q s = Q .normal s := rfl
@[simp ↓] theorem awp_exit {P : Program} {Q : AExit → St → Prop} {s : St} {id : Nat} : awp P (.exit id) Q s = Q (.exit id) s := rfl
@[simp ↓] theorem awp_ret {P : Program} {Q : AExit → St → Prop} {s : St} : awp P .ret Q s = Q .ret s := rfl
@[simp ↓] theorem awp_seq {P : Program} {a b : ACode} {Q : AExit → St → Prop} {s : St} : awp P (.seq a b) Q s = awp P a (fun x s' => match x with
    | .normal => awp P b Q s'
    | x => Q x s') s := rfl
@[simp ↓] theorem awp_reg {P : Program} {rid : Nat} {ops : List AOper} {Q : AExit → St → Prop} {s : St} : awp P (.region rid ops) Q s = rops P rid s.nx 0 ops s.e s.m fun e m => Q .normal ⟨e, m, s.nx + 1⟩ := rfl
@[simp ↓] theorem awp_dreg {P : Program} {rid : Nat} {ops : List AOper} {us : List (Nat × Nat)} {Q : AExit → St → Prop} {s : St} : awp P (.dregion rid ops us) Q s = ropsD P rid s.nx 0 ops s.e s.m [] fun e m acc => dchk rid s.nx us acc ∧ Q .normal ⟨e, m, s.nx + 1⟩ := rfl
@[simp ↓] theorem awp_cond {P : Program} {x : AX} {a b : ACode} {Q : AExit → St → Prop} {s : St} : awp P (.cond x a b) Q s = match x.ev s.e with
    | .bool t => if t = true then awp P a Q s else awp P b Q s
    | _ => False := by
  simp only [awp]
  generalize x.ev s.e = v
  cases v <;> try rfl
  rename_i t
  cases t <;> simp
@[simp ↓] theorem awp_block {P : Program} {id : Nat} {c : ACode} {Q : AExit → St → Prop} {s : St} : awp P (.block id c) Q s = awp P c (fun x s' => match x with
    | .exit j => if j = id then Q .normal s' else Q (.exit j) s'
    | x => Q x s') s := rfl
theorem loopI {P : Program} {c : ACode} {Q : AExit → St → Prop} {s : St} (I : Nat → St → Prop) (n : Nat) (h0 : I n s) (h : ∀ k s', I k s' → awp P c (fun x s'' => match x with
    | .normal => ∃ k', k' < k ∧ I k' s''
    | x => Q x s'') s') : awp P (.loop c) Q s :=
  ⟨I, n, ⟨s, .inl rfl, h0⟩, fun k s' hI => awp_mono c (fun x s'' hx => by
    cases x with
    | normal => obtain ⟨k', h1, h2⟩ := hx; exact ⟨k', h1, s'', .inl rfl, h2⟩
    | exit id => exact hx
    | ret => exact hx) (h k s' hI)⟩
/-- .. what is no longer needed is forgotten. -/
theorem loopF {P : Program} {c : ACode} {Q : AExit → St → Prop} {s : St} (I : Nat → St → Prop) (n : Nat) (h0 : ∃ s0, (s0 = s ∨ Fgt s s0) ∧ I n s0) (h : ∀ k s', I k s' → awp P c (fun x s'' => match x with
    | .normal => ∃ k', k' < k ∧ ∃ s0, (s0 = s'' ∨ Fgt s'' s0) ∧ I k' s0
    | x => Q x s'') s') : awp P (.loop c) Q s := ⟨I, n, h0, h⟩
/-- A loop that waits for its invariant: what comes behind stands where 'simp' does not go. -/
def awpLoop (P : Program) (c : ACode) (s : St) [Q : Inhabited (AExit → St → Prop)] : Prop := awp P (.loop c) Q.default s
@[simp ↓] theorem awp_isLoop {P : Program} {c : ACode} {Q : AExit → St → Prop} {s : St} : awp P (.loop c) Q s = @awpLoop P c s ⟨Q⟩ := rfl
theorem awp_loop {P : Program} {c : ACode} {Q : AExit → St → Prop} {s : St} (I : Nat → St → Prop) (n : Nat) (h0 : I n s) (h : ∀ k s', I k s' → awp P c (fun x s'' => match x with
    | .normal => ∃ k', k' < k ∧ I k' s''
    | x => Q x s'') s') : @awpLoop P c s ⟨Q⟩ := loopI I n h0 h

/-- A call that waits for its contract. -/
def effCall (P : Program) (k : FuncId) (xs : List AV) (id : Bid) (m : Mem) [K : Inhabited (Eff → Prop)] : Prop := ∃ f, EffC P k xs id m f ∧ K.default f
/-- The function's value waits ahead of the continuation. -/
def effFn (P : Program) (g : AV) (xs : List AV) (id : Bid) (m : Mem) [K : Inhabited (Eff → Prop)] : Prop := match g with
  | .fn k caps => effCall P k (xs ++ caps) id m
  | _ => False
@[simp ↓] theorem effK_call {P : Program} {id : Bid} {m : Mem} {e : AEnv} {g : AX} {args : List AX} {K : Eff → Prop} : effK P id m e (.call g args) K = @effFn P (g.ev e) (args.map (·.ev e)) id m ⟨K⟩ := rfl
@[simp] theorem effFn_fn {P : Program} {k : FuncId} {caps xs : List AV} {id : Bid} {m : Mem} {K : Eff → Prop} : @effFn P (.fn k caps) xs id m ⟨K⟩ = @effCall P k (xs ++ caps) id m ⟨K⟩ := rfl
theorem callP {P : Program} {k : FuncId} {xs : List AV} {id : Bid} {m : Mem} {K : Eff → Prop} {l : List AV} {r : AV} (hc : PureC P k l r) (hp : purL m xs = some l) (h : K ⟨r, if r.scal = true then [] else fzW m (refsL xs)⟩) : @effCall P k xs id m ⟨K⟩ := ⟨_, EffC.pure hp hc, h⟩
theorem callK {P : Program} {k : FuncId} {xs : List AV} {id : Bid} {m : Mem} {K : Eff → Prop} {l : List AV} {r : AV} (hc : PureC P k l r) (hp : purKL m xs = some l) (h : K ⟨r, if r.scal = true then [] else fzW m (refsL xs)⟩) : @effCall P k xs id m ⟨K⟩ := ⟨_, EffC.pureK hp hc, h⟩
theorem callO {P : Program} {k : FuncId} {xs : List AV} {id : Bid} {m : Mem} {K : Eff → Prop} {l : List AV} {z : Nat} {rows : List (List AV)} (hc : OwnC P k l z rows) (hp : purL m xs = some l) (hm : m id = none) (h : K ⟨.own id rows.length, fzW m (refsL xs) ++ [(id, ⟨z, rows, true⟩)]⟩) : @effCall P k xs id m ⟨K⟩ := ⟨_, EffC.own hp hc hm, h⟩

@[congr] theorem effFn_congr {P : Program} {g g' : AV} {xs xs' : List AV} {id : Bid} {m m' : Mem} {K : Inhabited (Eff → Prop)} (hg : g = g') (hx : xs = xs') (hm : m = m') : @effFn P g xs id m K = @effFn P g' xs' id m' K := by rw [hg, hx, hm]
@[congr] theorem effCall_congr {P : Program} {k : FuncId} {xs xs' : List AV} {id : Bid} {m m' : Mem} {K : Inhabited (Eff → Prop)} (hx : xs = xs') (hm : m = m') : @effCall P k xs id m K = @effCall P k xs' id m' K := by rw [hx, hm]
@[congr] theorem awpLoop_congr {P : Program} {c : ACode} {s s' : St} {Q : Inhabited (AExit → St → Prop)} (hs : s = s') : @awpLoop P c s Q = @awpLoop P c s' Q := by rw [hs]

@[simp] theorem putE_app {e : AEnv} {d i : Nat} {v : AV} : putE e (some d) v i = if i = d then v else e i := rfl
@[simp] theorem putE_none {e : AEnv} {v : AV} : putE e none v = e := rfl
@[simp] theorem updB_app {α : Type} {f : Bid → α} {i j : Bid} {x : α} : updB f i x j = if j = i then x else f j := rfl
@[simp] theorem argE_app {l : List AV} {i : Nat} : argE l i = l.getD i .undef := rfl
@[simp ↓] theorem effK_mv {P : Program} {id : Bid} {m : Mem} {e : AEnv} {K : Eff → Prop} {a0} : effK P id m e (.mv a0) K = match effA id m e (.mv a0) with
    | some f => K f
    | none => False := propext ⟨fun h => h, fun h => h⟩
@[simp ↓] theorem effK_pick {P : Program} {id : Bid} {m : Mem} {e : AEnv} {K : Eff → Prop} {a0} {a1} {a2} : effK P id m e (.pick a0 a1 a2) K = match effA id m e (.pick a0 a1 a2) with
    | some f => K f
    | none => False := propext ⟨fun h => h, fun h => h⟩
@[simp ↓] theorem effK_alloc {P : Program} {id : Bid} {m : Mem} {e : AEnv} {K : Eff → Prop} {a0} : effK P id m e (.alloc a0) K = match effA id m e (.alloc a0) with
    | some f => K f
    | none => False := propext ⟨fun h => h, fun h => h⟩
@[simp ↓] theorem effK_box {P : Program} {id : Bid} {m : Mem} {e : AEnv} {K : Eff → Prop} {a0} {a1} : effK P id m e (.box a0 a1) K = match effA id m e (.box a0 a1) with
    | some f => K f
    | none => False := propext ⟨fun h => h, fun h => h⟩
@[simp ↓] theorem effK_build {P : Program} {id : Bid} {m : Mem} {e : AEnv} {K : Eff → Prop} {a0} {a1} {a2} : effK P id m e (.build a0 a1 a2) K = match effA id m e (.build a0 a1 a2) with
    | some f => K f
    | none => False := propext ⟨fun h => h, fun h => h⟩
@[simp ↓] theorem effK_bsl {P : Program} {id : Bid} {m : Mem} {e : AEnv} {K : Eff → Prop} {a0} {a1} {a2} : effK P id m e (.bsl a0 a1 a2) K = match effA id m e (.bsl a0 a1 a2) with
    | some f => K f
    | none => False := propext ⟨fun h => h, fun h => h⟩
@[simp ↓] theorem effK_load {P : Program} {id : Bid} {m : Mem} {e : AEnv} {K : Eff → Prop} {a0} {a1} {a2} : effK P id m e (.load a0 a1 a2) K = match effA id m e (.load a0 a1 a2) with
    | some f => K f
    | none => False := propext ⟨fun h => h, fun h => h⟩
@[simp ↓] theorem effK_store {P : Program} {id : Bid} {m : Mem} {e : AEnv} {K : Eff → Prop} {a0} {a1} {a2} : effK P id m e (.store a0 a1 a2) K = match effA id m e (.store a0 a1 a2) with
    | some f => K f
    | none => False := propext ⟨fun h => h, fun h => h⟩
@[simp ↓] theorem effK_nilck {P : Program} {id : Bid} {m : Mem} {e : AEnv} {K : Eff → Prop} {a0} : effK P id m e (.nilck a0) K = match effA id m e (.nilck a0) with
    | some f => K f
    | none => False := propext ⟨fun h => h, fun h => h⟩
@[simp ↓] theorem effK_bin {P : Program} {id : Bid} {m : Mem} {e : AEnv} {K : Eff → Prop} {a0} {a1} {a2} {a3} {a4} : effK P id m e (.bin a0 a1 a2 a3 a4) K = match effA id m e (.bin a0 a1 a2 a3 a4) with
    | some f => K f
    | none => False := propext ⟨fun h => h, fun h => h⟩
@[simp ↓] theorem effK_un {P : Program} {id : Bid} {m : Mem} {e : AEnv} {K : Eff → Prop} {a0} {a1} : effK P id m e (.un a0 a1) K = match effA id m e (.un a0 a1) with
    | some f => K f
    | none => False := propext ⟨fun h => h, fun h => h⟩
@[simp ↓] theorem effK_conv {P : Program} {id : Bid} {m : Mem} {e : AEnv} {K : Eff → Prop} {a0} {a1} : effK P id m e (.conv a0 a1) K = match effA id m e (.conv a0 a1) with
    | some f => K f
    | none => False := propext ⟨fun h => h, fun h => h⟩
@[simp ↓] theorem effK_mkfn {P : Program} {id : Bid} {m : Mem} {e : AEnv} {K : Eff → Prop} {a0} {a1} : effK P id m e (.mkfn a0 a1) K = match effA id m e (.mkfn a0 a1) with
    | some f => K f
    | none => False := propext ⟨fun h => h, fun h => h⟩
@[simp ↓] theorem effK_slice {P : Program} {id : Bid} {m : Mem} {e : AEnv} {K : Eff → Prop} {a0} {a1} {a2} {a3} {a4} : effK P id m e (.slice a0 a1 a2 a3 a4) K = match effA id m e (.slice a0 a1 a2 a3 a4) with
    | some f => K f
    | none => False := propext ⟨fun h => h, fun h => h⟩
@[simp ↓] theorem effK_faddr {P : Program} {id : Bid} {m : Mem} {e : AEnv} {K : Eff → Prop} {a0} {a1} : effK P id m e (.faddr a0 a1) K = match effA id m e (.faddr a0 a1) with
    | some f => K f
    | none => False := propext ⟨fun h => h, fun h => h⟩
@[simp ↓] theorem effK_fld {P : Program} {id : Bid} {m : Mem} {e : AEnv} {K : Eff → Prop} {a0} {a1} {a2} {a3} : effK P id m e (.fld a0 a1 a2 a3) K = match effA id m e (.fld a0 a1 a2 a3) with
    | some f => K f
    | none => False := propext ⟨fun h => h, fun h => h⟩
@[simp ↓] theorem effK_iaddr {P : Program} {id : Bid} {m : Mem} {e : AEnv} {K : Eff → Prop} {a0} {a1} {a2} : effK P id m e (.iaddr a0 a1 a2) K = match effA id m e (.iaddr a0 a1 a2) with
    | some f => K f
    | none => False := propext ⟨fun h => h, fun h => h⟩
@[simp ↓] theorem effK_ext {P : Program} {id : Bid} {m : Mem} {e : AEnv} {K : Eff → Prop} {a0} {a1} : effK P id m e (.ext a0 a1) K = match effA id m e (.ext a0 a1) with
    | some f => K f
    | none => False := propext ⟨fun h => h, fun h => h⟩
@[simp ↓] theorem effK_len {P : Program} {id : Bid} {m : Mem} {e : AEnv} {K : Eff → Prop} {a0} : effK P id m e (.len a0) K = match effA id m e (.len a0) with
    | some f => K f
    | none => False := propext ⟨fun h => h, fun h => h⟩
@[simp ↓] theorem effK_app {P : Program} {id : Bid} {m : Mem} {e : AEnv} {K : Eff → Prop} {a0} {a1} {a2} {a3} : effK P id m e (.app a0 a1 a2 a3) K = match effA id m e (.app a0 a1 a2 a3) with
    | some f => K f
    | none => False := propext ⟨fun h => h, fun h => h⟩
@[simp ↓] theorem effK_mx {P : Program} {id : Bid} {m : Mem} {e : AEnv} {K : Eff → Prop} {a0} : effK P id m e (.mx a0) K = match effA id m e (.mx a0) with
    | some f => K f
    | none => False := propext ⟨fun h => h, fun h => h⟩
@[simp ↓] theorem effK_mn {P : Program} {id : Bid} {m : Mem} {e : AEnv} {K : Eff → Prop} {a0} : effK P id m e (.mn a0) K = match effA id m e (.mn a0) with
    | some f => K f
    | none => False := propext ⟨fun h => h, fun h => h⟩
@[simp ↓] theorem effK_nilsl {P : Program} {id : Bid} {m : Mem} {e : AEnv} {K : Eff → Prop} {a0} {a1} : effK P id m e (.nilsl a0 a1) K = match effA id m e (.nilsl a0 a1) with
    | some f => K f
    | none => False := propext ⟨fun h => h, fun h => h⟩
@[simp ↓] theorem effK_nilpt {P : Program} {id : Bid} {m : Mem} {e : AEnv} {K : Eff → Prop} {a0} {a1} : effK P id m e (.nilpt a0 a1) K = match effA id m e (.nilpt a0 a1) with
    | some f => K f
    | none => False := propext ⟨fun h => h, fun h => h⟩
@[simp ↓] theorem effK_mksl {P : Program} {id : Bid} {m : Mem} {e : AEnv} {K : Eff → Prop} {a0} {a1} {a2} {a3} : effK P id m e (.mksl a0 a1 a2 a3) K = match effA id m e (.mksl a0 a1 a2 a3) with
    | some f => K f
    | none => False := propext ⟨fun h => h, fun h => h⟩
@[simp ↓] theorem effK_mkmap {P : Program} {id : Bid} {m : Mem} {e : AEnv} {K : Eff → Prop} {a0} : effK P id m e (.mkmap a0) K = match effA id m e (.mkmap a0) with
    | some f => K f
    | none => False := propext ⟨fun h => h, fun h => h⟩
@[simp ↓] theorem effK_look {P : Program} {id : Bid} {m : Mem} {e : AEnv} {K : Eff → Prop} {a0} {a1} {a2} {a3} {a4} {a5} : effK P id m e (.look a0 a1 a2 a3 a4 a5) K = match effA id m e (.look a0 a1 a2 a3 a4 a5) with
    | some f => K f
    | none => False := propext ⟨fun h => h, fun h => h⟩
@[simp ↓] theorem effK_mput {P : Program} {id : Bid} {m : Mem} {e : AEnv} {K : Eff → Prop} {a0} {a1} {a2} {a3} {a4} : effK P id m e (.mput a0 a1 a2 a3 a4) K = match effA id m e (.mput a0 a1 a2 a3 a4) with
    | some f => K f
    | none => False := propext ⟨fun h => h, fun h => h⟩
@[simp ↓] theorem rops_nil {P : Program} {rid nx i : Nat} {e : AEnv} {m : Mem} {K : AEnv → Mem → Prop} : rops P rid nx i [] e m K = K e m := propext ⟨fun h => h, fun h => h⟩
@[simp ↓] theorem rops_cons {P : Program} {rid nx i : Nat} {d : Option Nat} {o : AOp} {g : Option (Nat × Bool)} {r : List AOper} {e : AEnv} {m : Mem} {K : AEnv → Mem → Prop} : rops P rid nx i (⟨d, o, g⟩ :: r) e m K = match wants g e with
    | some true => effK P (nid rid nx i) m e o fun f => rops P rid nx (i + 1) r (putE e d f.v) (applyW m f.ws) K
    | some false => rops P rid nx (i + 1) r (putE e d (.tup [])) m K
    | none => False := propext ⟨fun h => h, fun h => h⟩
@[simp ↓] theorem ropsD_nil {P : Program} {rid nx i : Nat} {e : AEnv} {m : Mem} {acc : List (List Bid × List Bid)} {K : AEnv → Mem → List (List Bid × List Bid) → Prop} : ropsD P rid nx i [] e m acc K = K e m acc := propext ⟨fun h => h, fun h => h⟩
@[simp ↓] theorem ropsD_cons {P : Program} {rid nx i : Nat} {d : Option Nat} {o : AOp} {g : Option (Nat × Bool)} {r : List AOper} {e : AEnv} {m : Mem} {acc : List (List Bid × List Bid)} {K : AEnv → Mem → List (List Bid × List Bid) → Prop} : ropsD P rid nx i (⟨d, o, g⟩ :: r) e m acc K = match wants g e with
    | some true => effK P (nid rid nx i) m e o fun f => ropsD P rid nx (i + 1) r (putE e d f.v) (applyW m f.ws) (acc ++ [(o.refs e, f.ws.map (·.1))]) K
    | some false => ropsD P rid nx (i + 1) r (putE e d (.tup [])) m (acc ++ [([], [])]) K
    | none => False := propext ⟨fun h => h, fun h => h⟩
@[simp ↓] theorem ropsY_nil {P : Program} {rid nx i : Nat} {e : AEnv} {m : Mem} {acc : List (List Bid × List Bid)} {K : AEnv → Mem → List (List Bid × List Bid) → Prop} : ropsY P rid nx i [] e m acc K = K e m acc := propext ⟨fun h => h, fun h => h⟩
@[simp ↓] theorem ropsY_cons {P : Program} {rid nx i : Nat} {d : Option Nat} {o : AOp} {g : Option (Nat × Bool)} {r : List AOper} {e : AEnv} {m : Mem} {acc : List (List Bid × List Bid)} {K : AEnv → Mem → List (List Bid × List Bid) → Prop} : ropsY P rid nx i (⟨d, o, g⟩ :: r) e m acc K = match wants g e with
    | some true => match isY o e with
      | some (l, a) => match m yB with
        | some ⟨0, h :: b :: rest, s⟩ => h = [.int .i64 l] ∧ b = a ∧ scalL a = true ∧
            ropsD P rid nx (i + 1) r (putE e d (.bool true)) (updB m yB (some ⟨0, [.int .i64 l] :: rest, s⟩)) (acc ++ [([], [yB])]) K ∧
            ropsD P rid nx (i + 1) r (putE e d (.bool false)) (updB m yB (some ⟨0, [[]], s⟩)) (acc ++ [([], [yB])]) K
        | _ => False
      | none => effK P (nid rid nx i) m e o fun f => ropsY P rid nx (i + 1) r (putE e d f.v) (applyW m f.ws) (acc ++ [(o.refs e, f.ws.map (·.1))]) K
    | some false => ropsY P rid nx (i + 1) r (putE e d (.tup [])) m (acc ++ [([], [])]) K
    | none => False := propext ⟨fun h => h, fun h => h⟩
@[simp ↓] theorem awp_yreg {P : Program} {rid : Nat} {ops : List AOper} {us : List (Nat × Nat)} {Q : AExit → St → Prop} {s : St} : awp P (.yregion rid ops (some us)) Q s = ropsY P rid s.nx 0 ops s.e s.m [] fun e m acc => dchk rid s.nx us acc ∧ Q .normal ⟨e, m, s.nx + 1⟩ := rfl
@[simp ↓] theorem awp_yreg0 {P : Program} {rid : Nat} {ops : List AOper} {Q : AExit → St → Prop} {s : St} : awp P (.yregion rid ops none) Q s = ropsY P rid s.nx 0 ops s.e s.m [] fun e m acc => True ∧ Q .normal ⟨e, m, s.nx + 1⟩ := rfl
/-- A loop over a function that waits. -/
def awpRange (P : Program) (g : AX) (ps : List Nat) (assign body : ACode) (s : St) [Q : Inhabited (AExit → St → Prop)] : Prop := awp P (.rangeF g ps assign body) Q.default s
@[simp ↓] theorem awp_isRange {P : Program} {g : AX} {ps : List Nat} {assign body : ACode} {Q : AExit → St → Prop} {s : St} : awp P (.rangeF g ps assign body) Q s = @awpRange P g ps assign body s ⟨Q⟩ := rfl
attribute [simp] isY
attribute [simp] yB eNilpt eMksl eMkmap intO lres eLook eMput klay keyOkA mfind effA wants AX.ev nid applyW eLoad rdRow mkv eBox AV.okv AV.okc AV.cells eFaddr eBin eIaddr eLen rdSl pure' dchk effUn eConv eExt eStore splice fillA eBsl eAlloc eNil eFld eNilsl aeqL aeq1 resV ARes.val pur purL AV.refs refsL rfL rfR AV.rf AV.scal scalL fzW foldM getT pairOk disj eSlice cut bnd eApp AOp.refs AOp.xs

/-! ### one operation after the other -/
theorem opT {P : Program} {rid nx i : Nat} {d : Option Nat} {o : AOp} {g : Option (Nat × Bool)} {r : List AOper} {e : AEnv} {m : Mem} {K : AEnv → Mem → Prop} {v : AV} {ws : List (Bid × ABlk)} (hw : wants g e = some true) (hf : effA (nid rid nx i) m e o = some ⟨v, ws⟩)
    (h : rops P rid nx (i + 1) r (putE e d v) (applyW m ws) K) : rops P rid nx i (⟨d, o, g⟩ :: r) e m K := by
  simp only [rops, hw]
  cases o <;> first | (simp only [effK, hf]; exact h) | (simp [effA] at hf)
theorem opF {P : Program} {rid nx i : Nat} {d : Option Nat} {o : AOp} {g : Option (Nat × Bool)} {r : List AOper} {e : AEnv} {m : Mem} {K : AEnv → Mem → Prop} (hw : wants g e = some false)
    (h : rops P rid nx (i + 1) r (putE e d (.tup [])) m K) : rops P rid nx i (⟨d, o, g⟩ :: r) e m K := by
  simp only [rops, hw]; exact h
theorem opC {P : Program} {rid nx i : Nat} {d : Option Nat} {x : AX} {args : List AX} {g : Option (Nat × Bool)} {r : List AOper} {e : AEnv} {m : Mem} {K : AEnv → Mem → Prop} {k : FuncId} {caps l : List AV} {v : AV} (hc : PureC P k l v) (hw : wants g e = some true) (hg : x.ev e = .fn k caps) (hp : purL m (args.map (·.ev e) ++ caps) = some l)
    (h : rops P rid nx (i + 1) r (putE e d v) (applyW m (if v.scal = true then [] else fzW m (refsL (args.map (·.ev e) ++ caps)))) K) : rops P rid nx i (⟨d, .call x args, g⟩ :: r) e m K := by
  simp only [rops, hw, effK, hg]; exact ⟨_, EffC.pure hp hc, h⟩
theorem opO {P : Program} {rid nx i : Nat} {d : Option Nat} {x : AX} {args : List AX} {g : Option (Nat × Bool)} {r : List AOper} {e : AEnv} {m : Mem} {K : AEnv → Mem → Prop} {k : FuncId} {caps l : List AV} {z : Nat} {rows : List (List AV)} (hc : OwnC P k l z rows) (hw : wants g e = some true) (hg : x.ev e = .fn k caps) (hp : purL m (args.map (·.ev e) ++ caps) = some l) (hm : m (nid rid nx i) = none)
    (h : rops P rid nx (i + 1) r (putE e d (.own (nid rid nx i) rows.length)) (applyW m (fzW m (refsL (args.map (·.ev e) ++ caps)) ++ [(nid rid nx i, ⟨z, rows, true⟩)])) K) : rops P rid nx i (⟨d, .call x args, g⟩ :: r) e m K := by
  simp only [rops, hw, effK, hg]; exact ⟨_, EffC.own hp hc hm, h⟩
theorem opE {P : Program} {rid nx i : Nat} {e : AEnv} {m : Mem} {K : AEnv → Mem → Prop} (h : K e m) : rops P rid nx i [] e m K := h
theorem opTD {P : Program} {rid nx i : Nat} {d : Option Nat} {o : AOp} {g : Option (Nat × Bool)} {r : List AOper} {e : AEnv} {m : Mem} {acc : List (List Bid × List Bid)} {K : AEnv → Mem → List (List Bid × List Bid) → Prop} {v : AV} {ws : List (Bid × ABlk)} (hw : wants g e = some true) (hf : effA (nid rid nx i) m e o = some ⟨v, ws⟩)
    (h : ropsD P rid nx (i + 1) r (putE e d v) (applyW m ws) (acc ++ [(o.refs e, ws.map (·.1))]) K) : ropsD P rid nx i (⟨d, o, g⟩ :: r) e m acc K := by
  simp only [ropsD, hw]
  cases o <;> first | (simp only [effK, hf]; exact h) | (simp [effA] at hf)
theorem opFD {P : Program} {rid nx i : Nat} {d : Option Nat} {o : AOp} {g : Option (Nat × Bool)} {r : List AOper} {e : AEnv} {m : Mem} {acc : List (List Bid × List Bid)} {K : AEnv → Mem → List (List Bid × List Bid) → Prop} (hw : wants g e = some false)
    (h : ropsD P rid nx (i + 1) r (putE e d (.tup [])) m (acc ++ [([], [])]) K) : ropsD P rid nx i (⟨d, o, g⟩ :: r) e m acc K := by
  simp only [ropsD, hw]; exact h
theorem opCD {P : Program} {rid nx i : Nat} {d : Option Nat} {x : AX} {args : List AX} {g : Option (Nat × Bool)} {r : List AOper} {e : AEnv} {m : Mem} {acc : List (List Bid × List Bid)} {K : AEnv → Mem → List (List Bid × List Bid) → Prop} {k : FuncId} {caps l : List AV} {v : AV} (hc : PureC P k l v) (hw : wants g e = some true) (hg : x.ev e = .fn k caps) (hp : purL m (args.map (·.ev e) ++ caps) = some l)
    (h : ropsD P rid nx (i + 1) r (putE e d v) (applyW m (if v.scal = true then [] else fzW m (refsL (args.map (·.ev e) ++ caps)))) (acc ++ [((AOp.call x args).refs e, (if v.scal = true then [] else fzW m (refsL (args.map (·.ev e) ++ caps))).map (·.1))]) K) : ropsD P rid nx i (⟨d, .call x args, g⟩ :: r) e m acc K := by
  simp only [ropsD, hw, effK, hg]; exact ⟨_, EffC.pure hp hc, h⟩
theorem opED {P : Program} {rid nx i : Nat} {e : AEnv} {m : Mem} {acc : List (List Bid × List Bid)} {K : AEnv → Mem → List (List Bid × List Bid) → Prop} (h : K e m acc) : ropsD P rid nx i [] e m acc K := h
theorem condT {P : Program} {x : AX} {a b : ACode} {Q : AExit → St → Prop} {s : St} (hx : x.ev s.e = .bool true) (h : awp P a Q s) : awp P (.cond x a b) Q s := by
  simp only [awp, hx]; exact ⟨fun _ => h, fun h => by cases h⟩
theorem condF {P : Program} {x : AX} {a b : ACode} {Q : AExit → St → Prop} {s : St} (hx : x.ev s.e = .bool false) (h : awp P b Q s) : awp P (.cond x a b) Q s := by
  simp only [awp, hx]; exact ⟨fun h => (by cases h), fun _ => h⟩
theorem seqI {P : Program} {a b : ACode} {Q : AExit → St → Prop} {s : St} (h : awp P a (fun x s' => match x with
    | .normal => awp P b Q s'
    | x => Q x s') s) : awp P (.seq a b) Q s := h
theorem regI {P : Program} {rid : Nat} {ops : List AOper} {Q : AExit → St → Prop} {e : AEnv} {m : Mem} {nx : Nat} (h : rops P rid nx 0 ops e m fun e m => Q .normal ⟨e, m, nx + 1⟩) : awp P (.region rid ops) Q ⟨e, m, nx⟩ := h
theorem dregI {P : Program} {rid : Nat} {ops : List AOper} {us : List (Nat × Nat)} {Q : AExit → St → Prop} {e : AEnv} {m : Mem} {nx : Nat} (h : ropsD P rid nx 0 ops e m [] fun e m acc => dchk rid nx us acc ∧ Q .normal ⟨e, m, nx + 1⟩) : awp P (.dregion rid ops us) Q ⟨e, m, nx⟩ := h
theorem blockI {P : Program} {id : Nat} {c : ACode} {Q : AExit → St → Prop} {s : St} (h : awp P c (fun x s' => match x with
    | .exit j => if j = id then Q .normal s' else Q (.exit j) s'
    | x => Q x s') s) : awp P (.block id c) Q s := h
theorem skipI {P : Program} {Q : AExit → St → Prop} {s : St} (h : Q .normal s) : awp P .skip Q s := h
theorem exitI {P : Program} {Q : AExit → St → Prop} {s : St} {id : Nat} (h : Q (.exit id) s) : awp P (.exit id) Q s := h
theorem retI {P : Program} {Q : AExit → St → Prop} {s : St} (h : Q .ret s) : awp P .ret Q s := h
theorem wrap64 {n : Int} (h : -9223372036854775808 ≤ n) (h' : n < 9223372036854775808) : IntKind.i64.wrap n = n := by
  simp only [IntKind.wrap, IntKind.signed, IntKind.bits]
  simp
  omega


/-! ### forgetting -/
def keepE (e : AEnv) (l : List Nat) : AEnv := fun i => if i ∈ l then e i else .undef
@[simp] theorem keepE_app {e : AEnv} {l : List Nat} {i : Nat} : keepE e l i = if i ∈ l then e i else .undef := rfl
@[simp] theorem oneM_app {b : Bid} {k : ABlk} {i : Bid} : oneM b k i = if i = b then some k else none := rfl

theorem fgt_mk {s : St} (l : List Nat) (m' : Mem) (nx' : Nat) (hm : ∀ i k, m' i = some k → s.m i = some k) (hz : ∀ i, i.2 = 0 → m' i = s.m i) (hc : ∀ i, i ∈ l → (s.e i).cl m' = true) (hcm : ∀ i k, m' i = some k → clR m' k.rows = true) : Fgt s ⟨keepE s.e l, m', nx'⟩ := by
  refine ⟨hm, hz, fun i => ?_, fun i => ?_, hcm⟩
  · by_cases h : i ∈ l
    · exact .inl (by simp [h])
    · exact .inr (by simp [h])
  · by_cases h : i ∈ l
    · simp only [keepE_app, h, if_true]; exact hc i h
    · simp only [keepE_app, h, if_false]; rfl

theorem fgt_none {s : St} (l : List Nat) (nx' : Nat) (hz : ∀ a, s.m (a, 0) = none) (hc : ∀ i, i ∈ l → (s.e i).cl (fun _ => none) = true) : Fgt s ⟨keepE s.e l, fun _ => none, nx'⟩ :=
  fgt_mk l _ nx' (fun i k h => by cases h) (fun i h => by obtain ⟨a, b⟩ := i; simp only at h; subst h; exact (hz a).symm) hc (fun i k h => by cases h)

theorem fgt_one {s : St} (l : List Nat) (b : Bid) (k : ABlk) (nx' : Nat) (hb : s.m b = some k) (h0 : b.2 ≠ 0) (hz : ∀ a, s.m (a, 0) = none) (hc : ∀ i, i ∈ l → (s.e i).cl (oneM b k) = true) (hcm : clR (oneM b k) k.rows = true) : Fgt s ⟨keepE s.e l, oneM b k, nx'⟩ := by
  refine fgt_mk l _ nx' (fun i q h => ?_) (fun i h => ?_) hc (fun i q h => ?_)
  · simp only [oneM_app] at h
    split at h <;> simp only [reduceCtorEq, Option.some.injEq] at h
    rename_i e
    rw [e, ← h]; exact hb
  · obtain ⟨a, n⟩ := i
    simp only at h
    subst h
    rw [hz a, oneM_app, if_neg (fun e => h0 (by rw [← e]))]
  · simp only [oneM_app] at h
    split at h <;> simp only [reduceCtorEq, Option.some.injEq] at h
    rw [← h]; exact hcm

mutual
theorem AV.cl_scal {m : Mem} : ∀ {a : AV}, a.scal = true → a.cl m = true
  | .bool _, _ => rfl
  | .int _ _, _ => rfl
  | .nilp, _ => rfl
  | .agg cs, h => by simp only [AV.scal] at h; simp only [AV.cl]; exact clL_scal h
  | .tup cs, h => by simp only [AV.scal] at h; simp only [AV.cl]; exact clL_scal h
  | .undef, h => by simp [AV.scal] at h
  | .sl _ _ _, h => by simp [AV.scal] at h
  | .rp _, h => by simp [AV.scal] at h
  | .own _ _, h => by simp [AV.scal] at h
  | .ptr _ _ _ _, h => by simp [AV.scal] at h
  | .fn _ _, h => by simp [AV.scal] at h
  | .mp _, h => by simp [AV.scal] at h
  | .yld _, h => by simp [AV.scal] at h
theorem clL_scal {m : Mem} : ∀ {as : List AV}, scalL as = true → clL m as = true
  | [], _ => rfl
  | a :: as, h => by
    simp only [scalL, Bool.and_eq_true] at h
    simp only [clL, Bool.and_eq_true]
    exact ⟨AV.cl_scal h.1, clL_scal h.2⟩
end

theorem clR_map {α : Type} {m : Mem} {f : α → List AV} (h : ∀ x, clL m (f x) = true) : ∀ l : List α, clR m (l.map f) = true
  | [] => rfl
  | x :: l => by simp only [List.map_cons, clR, h x, clR_map h l, Bool.and_self]
theorem rfR_map {α : Type} {f : α → List AV} (h : ∀ x, rfL (f x) = true) : ∀ l : List α, rfR (l.map f) = true
  | [] => rfl
  | x :: l => by simp only [List.map_cons, rfR, h x, rfR_map h l, Bool.and_self]

/-- The next round begins: some of what there is is kept. -/
def GoOn (k : Nat) (s : St) [I : Inhabited (Nat → St → Prop)] : Prop := ∃ k', k' < k ∧ ∃ s0, (s0 = s ∨ Fgt s s0) ∧ I.default k' s0
theorem GoOn.mk {I : Nat → St → Prop} {k : Nat} {s : St} (k' : Nat) (h : k' < k) {s0 : St} (hf : Fgt s s0) (hI : I k' s0) : @GoOn k s ⟨I⟩ := ⟨k', h, s0, .inr hf, hI⟩

theorem fgt_y {s : St} (l : List Nat) (k : ABlk) (nx' : Nat) (hb : s.m yB = some k) (hz : ∀ a, a ≠ 0 → s.m (a, 0) = none) (hc : ∀ i, i ∈ l → (s.e i).cl (oneM yB k) = true) (hcm : clR (oneM yB k) k.rows = true) : Fgt s ⟨keepE s.e l, oneM yB k, nx'⟩ := by
  refine fgt_mk l _ nx' (fun i q h => ?_) (fun i h => ?_) hc (fun i q h => ?_)
  · simp only [oneM_app] at h
    split at h <;> simp only [reduceCtorEq, Option.some.injEq] at h
    rename_i e
    rw [e, ← h]; exact hb
  · obtain ⟨a, n⟩ := i
    simp only at h
    subst h
    by_cases ha : a = 0
    · subst ha; rw [oneM_app, if_pos (show ((0, 0) : Bid) = yB from rfl)]; exact hb.symm
    · rw [hz a ha, oneM_app, if_neg (fun e => ha (congrArg Prod.fst e))]
  · simp only [oneM_app] at h
    split at h <;> simp only [reduceCtorEq, Option.some.injEq] at h
    rw [← h]; exact hcm

theorem awp_range {P : Program} {g : AX} {ps : List Nat} {assign body : ACode} {Q : AExit → St → Prop} {s : St} {k : FuncId} {caps lc : List AV} {vals : List (List AV)} (I : Nat → Nat → Mem → Prop) (hc : IterC P k lc vals) (hg : g.ev s.e = .fn k caps) (hp : purL s.m caps = some lc)
    (hv : ∀ r, r ∈ vals → r.length = ps.length ∧ scalL r = true) (h0 : I 0 s.nx (applyW s.m (fzW s.m (refsL caps))))
    (hr : ∀ i v nx m, vals[i]? = some v → I i nx m → awp P assign (fun x s1 => match x with
      | .normal => awp P body (fun x s2 => match x with
        | .normal => I (i + 1) s2.nx s2.m
        | x => Q x ⟨s.e, s2.m, s2.nx⟩) s1
      | _ => False) ⟨putPs s.e ps v, m, nx⟩)
    (he : ∀ nx m, I vals.length nx m → Q .normal ⟨s.e, m, nx⟩) : @awpRange P g ps assign body s ⟨Q⟩ := by
  unfold awpRange
  simp only [awp, hg]
  exact ⟨lc, vals, I, hp, hc, hv, h0, hr, he⟩

theorem awp_loopF {P : Program} {c : ACode} {Q : AExit → St → Prop} {s : St} (I : Nat → St → Prop) (n : Nat) (h0 : ∃ s0, (s0 = s ∨ Fgt s s0) ∧ I n s0) (h : ∀ k s', I k s' → awp P c (fun x s'' => match x with
    | .normal => @GoOn k s'' ⟨I⟩
    | x => Q x s'') s') : @awpLoop P c s ⟨Q⟩ := ⟨I, n, h0, h⟩

attribute [simp] AV.cl clL clR purK purKL putPs

end Go.Proofs.Ytpgkpdojpmikkaa.Eng

/-
  Contracts: the document's answer to an act.
-/
import Derived.Test.YtpgkpdojpmikkaaC10
set_option linter.unusedVariables false
set_option linter.unusedSimpArgs false
set_option maxRecDepth 100000
namespace Go.Proofs.Ytpgkpdojpmikkaa.Eng
open Go Go.Proofs

structure Ac where
  kind : Int
  a : K
  b : K
  on : Bool
def Ac.row (x : Ac) : List AV := [iv x.kind, iv x.a.o, iv x.a.s, iv x.b.o, iv x.b.s, .bool x.on]
abbrev Ac.av (x : Ac) : AV := .agg x.row
def modelS (t : List B) (x : Ac) : List B × Int := if x.kind = 0 then rootS t x.a else if x.kind = 1 then insS t x.a x.b else if x.kind = 2 then remS t x.a else if x.kind = 3 then movS t x.a x.b else markS t x.a x.on

set_option maxHeartbeats 4000000 in
theorem c14 (t : List B) (x : Ac) (ht : t.length ≤ 1000000) : PureC Try.prog 14 [tl t, x.av] (ans (modelS t x)) := by
  refine fun_ok Try.func14 a14_ok (by simp [a14]) ?_
  by_cases h0 : x.kind = 0
  · simp [a14, Ac.row, h0]
    refine callP (c41 t x.a ht) (by simp [K.row]) ?_
    simp [modelS, h0]
  · by_cases h1 : x.kind = 1
    · simp [a14, Ac.row, h1]
      refine callP (c42 t x.a x.b ht) (by simp [K.row]) ?_
      simp [modelS, h1]
    · by_cases h2 : x.kind = 2
      · simp [a14, Ac.row, h2]
        refine callP (c43 t x.a ht) (by simp [K.row]) ?_
        simp [modelS, h2]
      · by_cases h3 : x.kind = 3
        · simp [a14, Ac.row, h3]
          refine callP (c44 t x.a x.b ht) (by simp [K.row]) ?_
          simp [modelS, h3]
        · simp [a14, Ac.row, h0, h1, h2, h3]
          refine callP (c45 t x.a x.on ht) (by simp [K.row]) ?_
          simp [modelS, h0, h1, h2, h3]

end Go.Proofs.Ytpgkpdojpmikkaa.Eng

/-
  Contracts: live.
-/
import Derived.Test.YtpgkpdojpmikkaaC18
set_option linter.unusedVariables false
set_option linter.unusedSimpArgs false
set_option maxRecDepth 100000
namespace Go.Proofs.Ytpgkpdojpmikkaa.Eng
open Go Go.Proofs

def q (n : Int) : K := ⟨n, 0⟩
def T1 : List B := [⟨q 1, 0, false⟩]
def T2 : List B := [⟨q 1, 0, false⟩, ⟨q 2, 1, false⟩]
def T3 : List B := [⟨q 1, 0, false⟩, ⟨q 3, 1, false⟩, ⟨q 2, 1, false⟩]
def TU : List B := [⟨q 4, 0, false⟩, ⟨q 3, 1, false⟩, ⟨q 2, 1, false⟩]
def TM : List B := [⟨q 1, 0, false⟩, ⟨q 3, 1, true⟩, ⟨q 2, 1, false⟩]

abbrev qa (n : Int) : AV := .agg [iv n, iv 0]
theorem v1 : PureC Try.prog 34 [tl [], (qa 1)] (.tup [tl T1, iv 0]) := c34 h17 [] (q 1) (by decide)
theorem v2 : PureC Try.prog 30 [tl T1, (qa 1), (qa 2)] (.tup [tl T2, iv 0]) := c30 h17 T1 (q 1) (q 2) (by decide)
theorem v3 : PureC Try.prog 30 [tl T2, (qa 1), (qa 3)] (.tup [tl T3, iv 0]) := c30 h17 T2 (q 1) (q 3) (by decide)
theorem v4 : PureC Try.prog 31 [tl T3, (qa 1)] (.tup [tl T3, iv 130]) := c31 T3 (q 1) (by decide)
theorem v5 : PureC Try.prog 22 [tl T3, (qa 2)] (.tup [(qa 1), .bool true]) := c22 T3 (q 2) (by decide)
theorem v6 : PureC Try.prog 32 [tl T3, (qa 1), (qa 4)] (.tup [tl TU, iv 0]) := c32 h17 T3 (q 1) (q 4) (by decide)
theorem v7 : PureC Try.prog 33 [tl T3, (qa 3), .bool true] (.tup [tl TM, iv 0]) := c33 h17 T3 (q 3) true (by decide)
theorem v8 : PureC Try.prog 20 [tl T3, (qa 3)] (.tup [iv 1, .bool true]) := c20 T3 (q 3) (by decide)
theorem v9 : PureC Try.prog 34 [tl T3, (qa (-1))] (.tup [tl T3, iv 2]) := c34 h17 T3 (q (-1)) (by decide)
theorem v10 : PureC Try.prog 25 [tl T3, (qa 1)] (kl [q 3, q 2]) := c25 T3 (q 1) (by decide)
theorem v11 : PureC Try.prog 24 [kl [q 3, q 2], kl [q 3, q 2]] (.bool true) := c24 [q 3, q 2] [q 3, q 2] (by decide)
theorem v12 : PureC Try.prog 27 [tl TU, (qa 2), (qa 4)] (.bool true) := c27 TU (q 2) (q 4) (by decide)
theorem v13 : PureC Try.prog 17 [tl T3] (iv 0) := c17 T3 (by decide)
theorem v14 : PureC Try.prog 19 [tl T3, tl TM] (.bool false) := c19 T3 TM (by decide)
theorem v0 (n : Int) : PureC Try.prog 40 [iv n] (qa n) := c40 n

set_option maxHeartbeats 4000000 in
theorem c12 : PureC Try.prog 12 [] (.bool true) := by
  have hw0 : IntKind.i64.wrap 0 = 0 := by decide
  refine fun_ok Try.func12 a12_ok (by simp [a12]) ?_
  simp [a12]
  refine callP (v0 1) (by simp) ?_
  simp [hw0]
  refine callP (v1) (by simp) ?_
  simp [hw0]
  refine callP (v0 1) (by simp) ?_
  simp [hw0]
  refine callP (v0 2) (by simp) ?_
  simp [hw0]
  refine callP (v2) (by simp) ?_
  simp [hw0]
  refine callP (v0 1) (by simp) ?_
  simp [hw0]
  refine callP (v0 3) (by simp) ?_
  simp [hw0]
  refine callP (v3) (by simp) ?_
  simp [hw0]
  refine callP (v0 1) (by simp) ?_
  simp [hw0]
  refine callP (v4) (by simp) ?_
  simp [hw0]
  refine callP (v0 2) (by simp) ?_
  simp [hw0]
  refine callP (v5) (by simp) ?_
  simp [hw0]
  refine callP (v0 1) (by simp) ?_
  simp [hw0]
  refine callP (v0 4) (by simp) ?_
  simp [hw0]
  refine callP (v6) (by simp) ?_
  simp [hw0]
  refine callP (v0 3) (by simp) ?_
  simp [hw0]
  refine callP (v7) (by simp) ?_
  simp [hw0]
  refine callP (v0 3) (by simp) ?_
  simp [hw0]
  refine callP (v8) (by simp) ?_
  simp [hw0]
  refine callP (v0 (-1)) (by simp) ?_
  simp [hw0]
  refine callP (v9) (by simp) ?_
  simp [hw0]
  refine callP (c16 0) (by simp) ?_
  simp [hw0]
  refine callP (c16 0) (by simp) ?_
  simp [hw0]
  refine callP (c16 0) (by simp) ?_
  simp [hw0]
  refine callP (c16 0) (by simp) ?_
  simp [hw0]
  refine callP (c16 0) (by simp) ?_
  simp [hw0]
  refine callP (v0 1) (by simp) ?_
  simp [hw0]
  refine callP (v10) (by simp) ?_
  simp [hw0]
  refine callP (v0 3) (by simp) ?_
  simp [hw0]
  refine callP (v0 2) (by simp) ?_
  simp [hw0]
  refine callP (v11) (by simp [q, K.row]) ?_
  simp [hw0]
  refine callP (c16 130) (by simp) ?_
  simp [hw0]
  refine callP (v0 1) (by simp) ?_
  simp [hw0]
  refine callP (v0 2) (by simp) ?_
  simp [hw0]
  refine callP (v0 4) (by simp) ?_
  simp [hw0]
  refine callP (v12) (by simp) ?_
  have hTM : tl TM = .sl 4 false [[iv 1, iv 0, iv 0, .bool false], [iv 3, iv 0, iv 1, .bool true], [iv 2, iv 0, iv 1, .bool false]] := rfl
  simp (config := {maxSteps := 1000000}) [hw0, TM, B.row, q]
  refine callP (c16 2) (by simp) ?_
  simp (config := {maxSteps := 1000000}) [hw0]
  refine callP (v13) (by simp) ?_
  simp (config := {maxSteps := 1000000}) [hw0]
  refine callP (c16 0) (by simp) ?_
  simp (config := {maxSteps := 1000000}) [hw0]
  refine callP (v14) (by simp) ?_
  simp (config := {maxSteps := 1000000}) [hw0]

end Go.Proofs.Ytpgkpdojpmikkaa.Eng

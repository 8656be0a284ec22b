/- Facts of the functions and types, printed by gen.py. -/
import Derived.Test.YthglohpeijfcfaaProg
import Derived.Test.YthglohpeijfcfaaAmQ
import Derived.KernelRfl
set_option linter.unusedVariables false
set_option linter.unusedSimpArgs false
set_option linter.unusedSectionVars false
namespace Go.Proofs.Yth
open Go Go.Am
set_option maxRecDepth 20000
noncomputable def PP : Program := Go.Proofs.Try.prog
theorem mix : PP.follows .mixedOrders = true := by kernel_rfl
theorem gsize : True := trivial
/-! ### 3 parterre/parterrelaw3.VenueAsks -/
noncomputable def body3 : Code := match Go.Proofs.Try.f3.body with | some c => c | none => .skip
theorem fn3 : PP.funcs[3]? = some Go.Proofs.Try.f3 := Go.Proofs.Try.func3
theorem bodyEq3 : Go.Proofs.Try.f3.body = some body3 := rfl
def keep3 (i : Nat) : List Nat := (if i < 3 then (if i < 1 then [2, 3] else (if i < 2 then [2, 3, 16] else [4])) else (if i < 4 then [2, 3, 5, 6] else (if i < 5 then [2, 3, 5, 6, 7, 8] else [4])))
def draw3 (i : Nat) : DrawInfo := if i = 5 then ⟨[], [0, 1, 2, 4, 3, 5, 6, 7, 8, 9, 11, 10, 12, 13, 14, 15, 16, 17, 19, 20, 18, 21, 22, 23, 24, 25, 26, 27, 28, 29, 30, 31, 32, 33, 34], [[], [0], [0, 1], [0, 1, 2], [0, 1], [0, 1, 2, 3, 4], [0, 1, 2, 3, 4, 5], [0, 1, 2, 3, 4, 5, 6], [0, 1, 2, 3, 4, 5, 6, 7], [0, 1, 2, 3, 4, 5, 6, 7, 8], [0, 1, 2, 3, 4, 5, 6, 7, 8, 9], [0, 1, 2, 3, 4, 5, 6, 7, 8], [0, 1, 2, 3, 4, 5, 6, 7, 8, 9, 10, 11], [0, 1, 2, 3, 4, 5, 6, 7, 8, 9, 10, 11, 12], [0, 1, 2, 3, 4, 5, 6, 7, 8, 9, 10, 11, 12, 13], [0, 1, 2, 3, 4, 5, 6, 7, 8, 9, 10, 11, 12, 13, 14], [0, 1, 2, 3, 4, 5, 6, 7, 8, 9, 10, 11, 12, 13, 14, 15], [0, 1, 2, 3, 4, 5, 6, 7, 8, 9, 10, 11, 12, 13, 14, 15], [0, 1, 2, 3, 4, 5, 6, 7, 8, 9, 10, 11, 12, 13, 14, 15, 16, 17], [0, 1, 2, 3, 4, 5, 6, 7, 8, 9, 10, 11, 12, 13, 14, 15], [0, 1, 2, 3, 4, 5, 6, 7, 8, 9, 10, 11, 12, 13, 14, 15], [0, 1, 2, 3, 4, 5, 6, 7, 8, 9, 10, 11, 12, 13, 14, 15, 16, 17, 18, 19, 20], [0, 1, 2, 3, 4, 5, 6, 7, 8, 9, 10, 11, 12, 13, 14, 15, 16, 17, 18, 19, 20, 21], [0, 1, 2, 3, 4, 5, 6, 7, 8, 9, 10, 11, 12, 13, 14, 15, 16, 17, 18, 19, 20, 21, 22], [0, 1, 2, 3, 4, 5, 6, 7, 8, 9, 10, 11, 12, 13, 14, 15, 16, 17, 18, 19, 20, 21, 22, 23], [0, 1, 2, 3, 4, 5, 6, 7, 8, 9, 10, 11, 12, 13, 14, 15, 16, 17, 18, 19, 20, 21, 22, 23, 24], [0, 1, 2, 3, 4, 5, 6, 7, 8, 9, 10, 11, 12, 13, 14, 15, 16, 17, 18, 19, 20, 21, 22, 23, 24], [0, 1, 2, 3, 4, 5, 6, 7, 8, 9, 10, 11, 12, 13, 14, 15, 16, 17, 18, 19, 20, 21, 22, 23, 24, 25, 26], [0, 1, 2, 3, 4, 5, 6, 7, 8, 9, 10, 11, 12, 13, 14, 15, 16, 17, 18, 19, 20, 21, 22, 23, 24, 25, 26, 27], [0, 1, 2, 3, 4, 5, 6, 7, 8, 9, 10, 11, 12, 13, 14, 15, 16, 17, 18, 19, 20, 21, 22, 23, 24, 25, 26, 27, 28], [0, 1, 2, 3, 4, 5, 6, 7, 8, 9, 10, 11, 12, 13, 14, 15, 16, 17, 18, 19, 20, 21, 22, 23, 24, 25, 26, 27, 28, 29], [0, 1, 2, 3, 4, 5, 6, 7, 8, 9, 10, 11, 12, 13, 14, 15, 16, 17, 18, 19, 20, 21, 22, 23, 24, 25, 26, 27, 28, 29], [0, 1, 2, 3, 4, 5, 6, 7, 8, 9, 10, 11, 12, 13, 14, 15, 16, 17, 18, 19, 20, 21, 22, 23, 24, 25, 26, 27, 28, 29, 30, 31], [0, 1, 2, 3, 4, 5, 6, 7, 8, 9, 10, 11, 12, 13, 14, 15, 16, 17, 18, 19, 20, 21, 22, 23, 24, 25, 26, 27, 28, 29, 30, 31, 32], [0, 1, 2, 3, 4, 5, 6, 7, 8, 9, 10, 11, 12, 13, 14, 15, 16, 17, 18, 19, 20, 21, 22, 23, 24, 25, 26, 27, 28, 29, 30, 31, 32, 33]], []⟩ else ⟨[], [], [], []⟩
def cfg3 : Cfg := ⟨[2, 3, 5, 7], keep3, draw3⟩
theorem ok3 : codeOK PP cfg3 Go.Proofs.Try.f3.ntmps body3 = true := by kernel_rfl
/-! ### 4 parterre/parterrelaw3.VenueLess -/
noncomputable def body4 : Code := match Go.Proofs.Try.f4.body with | some c => c | none => .skip
theorem fn4 : PP.funcs[4]? = some Go.Proofs.Try.f4 := Go.Proofs.Try.func4
theorem bodyEq4 : Go.Proofs.Try.f4.body = some body4 := rfl
def keep4 (i : Nat) : List Nat := (if i < 4 then (if i < 2 then (if i < 1 then [2, 3] else [2, 3, 5]) else (if i < 3 then [2, 3, 5, 6] else [2, 3, 5, 6, 21])) else (if i < 6 then (if i < 5 then [2, 3, 5, 6] else [2, 3, 5, 6, 26]) else (if i < 7 then [2, 3, 5, 6] else [4])))
def draw4 (i : Nat) : DrawInfo := ⟨[], [], [], []⟩
def cfg4 : Cfg := ⟨[2, 3], keep4, draw4⟩
theorem ok4 : codeOK PP cfg4 Go.Proofs.Try.f4.ntmps body4 = true := by kernel_rfl
/-! ### 5 parterre/parterrelaw3.VenueEdges -/
noncomputable def body5 : Code := match Go.Proofs.Try.f5.body with | some c => c | none => .skip
theorem fn5 : PP.funcs[5]? = some Go.Proofs.Try.f5 := Go.Proofs.Try.func5
theorem bodyEq5 : Go.Proofs.Try.f5.body = some body5 := rfl
def keep5 (i : Nat) : List Nat := (if i < 17 then (if i < 8 then (if i < 4 then (if i < 2 then (if i < 1 then [0, 1] else [0, 1, 5]) else (if i < 3 then [0, 1, 5, 6] else [0, 1, 5, 6, 7])) else (if i < 6 then (if i < 5 then [5, 6, 7, 8, 9] else [7, 8, 9, 10]) else (if i < 7 then [7, 8, 9, 10, 11] else [7, 8, 9, 10, 11, 12]))) else (if i < 12 then (if i < 10 then (if i < 9 then [7, 8, 9, 10, 11, 12, 13] else [7, 8, 9, 10, 11, 12, 13, 50]) else (if i < 11 then [7, 8, 9, 11, 12, 13] else [7, 8, 9, 10, 11, 12, 13, 50, 53])) else (if i < 14 then (if i < 13 then [7, 8, 9, 11, 12, 13] else [7, 8, 9, 10, 11, 12, 13, 50, 57]) else (if i < 15 then [7, 8, 9, 11, 12, 13] else (if i < 16 then [7, 8, 9, 10, 11, 12, 13, 50, 61] else [7, 8, 9, 11, 12, 13]))))) else (if i < 25 then (if i < 21 then (if i < 19 then (if i < 18 then [7, 8, 9, 10, 11, 12, 13, 50, 65] else [7, 8, 9, 11, 12, 13]) else (if i < 20 then [7, 8, 9, 10, 11, 12, 13, 50, 69] else [7, 8, 9, 11, 12, 13])) else (if i < 23 then (if i < 22 then [7, 8, 9, 10, 11, 12, 13, 50, 73] else [7, 8, 9, 11, 12, 13]) else (if i < 24 then [7, 8, 9, 10, 11, 12, 13, 50, 77] else [7, 8, 9, 11, 12, 13]))) else (if i < 29 then (if i < 27 then (if i < 26 then [7, 8, 9, 10, 11, 12, 13, 50, 83] else [7, 8, 9, 11, 12, 13]) else (if i < 28 then [7, 8, 9, 10, 11, 12, 13, 87] else [7, 8, 9, 11, 12, 13])) else (if i < 31 then (if i < 30 then [7, 8, 9, 13] else [7, 8, 9, 13, 14]) else (if i < 32 then [7, 8, 13, 14, 98] else (if i < 33 then [13, 14] else [4]))))))
def draw5 (i : Nat) : DrawInfo := if i = 5 then ⟨[], [0, 1, 2, 3, 4, 5, 6, 7, 8, 9, 10, 11, 12, 13, 14, 15, 16, 17, 19, 18, 20, 21, 22], [[], [], [0, 1], [0, 1, 2], [], [], [4, 5], [4, 5, 6], [], [], [8, 9], [8, 9, 10], [8, 9, 10, 11], [], [], [13, 14], [13, 14, 15], [13, 14, 15, 16], [0, 1, 2, 3, 4, 5, 6, 7, 8, 9, 10, 11, 12, 13, 14, 15, 16, 17], [], [0, 1, 2, 3, 4, 5, 6, 7, 8, 9, 10, 11, 12, 13, 14, 15, 16, 17, 18, 19], [0, 1, 2, 3, 4, 5, 6, 7, 8, 9, 10, 11, 12, 13, 14, 15, 16, 17, 18, 19, 20], [0, 1, 2, 3, 4, 5, 6, 7, 8, 9, 10, 11, 12, 13, 14, 15, 16, 17, 18, 19, 20, 21]], []⟩ else if i = 29 then ⟨[], [0, 2, 1, 4, 3, 5, 6, 7], [[], [0], [], [2], [0, 1], [0, 1, 4], [0, 1, 2, 3, 4, 5], [0, 1, 2, 3, 4, 5, 6]], [[0, 2, 1, 4, 5, 3, 6, 7], [0, 2, 3, 1, 4, 5, 6, 7]]⟩ else ⟨[], [], [], []⟩
def cfg5 : Cfg := ⟨[11, 12, 13], keep5, draw5⟩
theorem ok5 : codeOK PP cfg5 Go.Proofs.Try.f5.ntmps body5 = true := by kernel_rfl
/-! ### 6 parterre/parterrelaw3.VenueNorm -/
noncomputable def body6 : Code := match Go.Proofs.Try.f6.body with | some c => c | none => .skip
theorem fn6 : PP.funcs[6]? = some Go.Proofs.Try.f6 := Go.Proofs.Try.func6
theorem bodyEq6 : Go.Proofs.Try.f6.body = some body6 := rfl
def keep6 (i : Nat) : List Nat := (if i < 6 then (if i < 3 then (if i < 1 then [0, 1] else (if i < 2 then [1, 5] else [1, 5, 6])) else (if i < 4 then [5, 6, 7] else (if i < 5 then [5, 6, 7, 8] else [5, 6, 7, 8]))) else (if i < 9 then (if i < 7 then [5, 6, 7, 8, 9] else (if i < 8 then [5, 6, 7, 8, 9, 48] else [5, 6, 7, 8, 9])) else (if i < 11 then (if i < 10 then [5, 6, 7, 8, 9] else [5, 10, 11]) else (if i < 12 then [5, 10, 11, 12, 13] else [4]))))
def draw6 (i : Nat) : DrawInfo := if i = 5 then ⟨[], [1, 2, 3, 4, 6, 7, 8, 9, 0, 5, 10, 11, 12], [[], [], [1], [], [1, 2, 3], [0, 1, 2, 3, 4], [], [6], [], [6, 7, 8], [0, 1, 2, 3, 4, 5, 6, 7, 8, 9], [0, 1, 2, 3, 4, 5, 6, 7, 8, 9, 10], [0, 1, 2, 3, 4, 5, 6, 7, 8, 9, 10, 11]], []⟩ else if i = 9 then ⟨[], [0, 1, 2, 3, 4, 5, 6, 7, 8, 9, 10, 12, 13, 11, 14, 15, 16], [[], [0], [], [0, 1, 2], [0, 1, 2, 3], [], [0, 1, 2, 3, 4, 5], [], [0, 1, 2, 3, 4, 5, 6, 7], [], [0, 1, 2, 3, 4, 5, 6, 7, 8, 9], [0, 1, 2, 3, 4, 5, 6, 7, 8, 9, 10], [], [12], [0, 1, 2, 3, 4, 5, 6, 7, 8, 9, 10, 11, 12, 13], [0, 1, 2, 3, 4, 5, 6, 7, 8, 9, 10, 11, 12, 13, 14], [0, 1, 2, 3, 4, 5, 6, 7, 8, 9, 10, 11, 12, 13, 14, 15]], []⟩ else ⟨[], [], [], []⟩
def cfg6 : Cfg := ⟨[5, 8, 10, 12], keep6, draw6⟩
theorem ok6 : codeOK PP cfg6 Go.Proofs.Try.f6.ntmps body6 = true := by kernel_rfl
/-! ### 7 parterre/parterrelaw3.VenueMany -/
noncomputable def body7 : Code := match Go.Proofs.Try.f7.body with | some c => c | none => .skip
theorem fn7 : PP.funcs[7]? = some Go.Proofs.Try.f7 := Go.Proofs.Try.func7
theorem bodyEq7 : Go.Proofs.Try.f7.body = some body7 := rfl
def keep7 (i : Nat) : List Nat := (if i < 4 then (if i < 2 then (if i < 1 then [0] else [3]) else (if i < 3 then [3, 4] else [3, 4, 5])) else (if i < 6 then (if i < 5 then [3, 4, 5, 14] else [3, 4, 5]) else (if i < 7 then [3, 4, 5] else [2])))
def draw7 (i : Nat) : DrawInfo := ⟨[], [], [], []⟩
def cfg7 : Cfg := ⟨[4], keep7, draw7⟩
theorem ok7 : codeOK PP cfg7 Go.Proofs.Try.f7.ntmps body7 = true := by kernel_rfl
/-! ### 8 parterre/parterrelaw3.VenueTwo -/
noncomputable def body8 : Code := match Go.Proofs.Try.f8.body with | some c => c | none => .skip
theorem fn8 : PP.funcs[8]? = some Go.Proofs.Try.f8 := Go.Proofs.Try.func8
theorem bodyEq8 : Go.Proofs.Try.f8.body = some body8 := rfl
def keep8 (i : Nat) : List Nat := (if i < 5 then (if i < 2 then (if i < 1 then [0, 1, 2, 3] else [1, 2, 3, 9]) else (if i < 3 then [3, 9, 10, 11] else (if i < 4 then [3, 9, 11, 12] else [3, 9, 11, 12, 40]))) else (if i < 7 then (if i < 6 then [3, 9, 11, 12] else [3, 9, 11, 12, 13]) else (if i < 8 then [3, 9, 13] else (if i < 9 then [3, 9, 14, 15] else [8]))))
def draw8 (i : Nat) : DrawInfo := if i = 2 then ⟨[], [0, 1, 2, 3, 4, 5, 6, 7, 8, 9, 10, 11, 12, 13, 14, 15, 16, 17, 18], [[], [0], [], [2], [2, 3], [2, 3, 4], [0, 1, 2, 3, 4, 5], [0, 1, 2, 3, 4, 5, 6], [], [8], [], [10], [10, 11], [10, 11, 12], [10, 11, 12, 13], [8, 9, 10, 11, 12, 13, 14], [8, 9, 10, 11, 12, 13, 14, 15], [0, 1, 2, 3, 4, 5, 6, 7], [0, 1, 2, 3, 4, 5, 6, 7, 8, 9, 10, 11, 12, 13, 14, 15, 16, 17]], []⟩ else if i = 7 then ⟨[], [1, 2, 3, 4, 6, 9, 10, 11, 12, 0, 5, 7, 8, 13, 14, 15], [[], [], [1], [], [1, 2, 3], [0, 1, 2, 3, 4], [], [6], [0, 1, 2, 3, 4, 5, 6, 7], [], [9], [], [9, 10, 11], [0, 1, 2, 3, 4, 5, 6, 7, 8, 9, 10, 11, 12], [0, 1, 2, 3, 4, 5, 6, 7, 8, 9, 10, 11, 12, 13], [0, 1, 2, 3, 4, 5, 6, 7, 8, 9, 10, 11, 12, 13, 14]], [[1, 2, 3, 4, 6, 9, 10, 11, 12, 0, 7, 5, 8, 13, 14, 15], [1, 2, 3, 4, 6, 9, 10, 11, 12, 7, 0, 5, 8, 13, 14, 15]]⟩ else ⟨[], [], [], []⟩
def cfg8 : Cfg := ⟨[9, 12, 13, 14], keep8, draw8⟩
theorem ok8 : codeOK PP cfg8 Go.Proofs.Try.f8.ntmps body8 = true := by kernel_rfl
/-! ### 9 parterre/parterrelaw3.Few -/
noncomputable def body9 : Code := match Go.Proofs.Try.f9.body with | some c => c | none => .skip
theorem fn9 : PP.funcs[9]? = some Go.Proofs.Try.f9 := Go.Proofs.Try.func9
theorem bodyEq9 : Go.Proofs.Try.f9.body = some body9 := rfl
def keep9 (i : Nat) : List Nat := (if i < 1 then [1] else [2])
def draw9 (i : Nat) : DrawInfo := ⟨[], [], [], []⟩
def cfg9 : Cfg := ⟨[1], keep9, draw9⟩
theorem ok9 : codeOK PP cfg9 Go.Proofs.Try.f9.ntmps body9 = true := by kernel_rfl
/-! ### 10 parterre/parterrelaw3.told -/
noncomputable def body10 : Code := match Go.Proofs.Try.f10.body with | some c => c | none => .skip
theorem fn10 : PP.funcs[10]? = some Go.Proofs.Try.f10 := Go.Proofs.Try.func10
theorem bodyEq10 : Go.Proofs.Try.f10.body = some body10 := rfl
def keep10 (i : Nat) : List Nat := (if i < 3 then (if i < 1 then [] else (if i < 2 then [1] else [1, 2, 3])) else (if i < 5 then (if i < 4 then [1, 2, 3, 4] else [1, 2, 3, 4]) else (if i < 6 then [1, 2, 3, 4, 6] else [0])))
def draw10 (i : Nat) : DrawInfo := if i = 6 then ⟨[], [0, 1, 2, 3, 4, 5, 6, 7, 8, 9, 10, 11, 12, 13, 14, 15, 16, 17, 18, 19, 20, 21, 22, 23, 24, 25, 26, 27, 28, 29, 30, 31, 32, 33, 34, 35, 36, 37, 38, 39, 40, 41, 42, 43, 44, 45, 46, 47, 48, 49, 50, 51, 52, 53, 54, 55, 56, 57, 58, 59, 60, 61, 62, 63, 64, 65, 66, 67, 68, 69, 70, 71, 72, 73], [[], [0], [0, 1], [0, 1, 2], [0, 1, 2, 3], [0, 1, 2, 3, 4], [0, 1, 2, 3, 4, 5], [0, 1, 2, 3, 4, 5, 6], [0, 1, 2, 3, 4, 5, 6, 7], [0, 1, 2, 3, 4, 5, 6, 7, 8], [0, 1, 2, 3, 4, 5, 6, 7, 8, 9], [0, 1, 2, 3, 4, 5, 6, 7, 8, 9, 10], [0, 1, 2, 3, 4, 5, 6, 7, 8, 9, 10, 11], [0, 1, 2, 3, 4, 5, 6, 7, 8, 9, 10, 11, 12], [0, 1, 2, 3, 4, 5, 6, 7, 8, 9, 10, 11, 12, 13], [0, 1, 2, 3, 4, 5, 6, 7, 8, 9, 10, 11, 12, 13, 14], [0, 1, 2, 3, 4, 5, 6, 7, 8, 9, 10, 11, 12, 13, 14, 15], [0, 1, 2, 3, 4, 5, 6, 7, 8, 9, 10, 11, 12, 13, 14, 15, 16], [0, 1, 2, 3, 4, 5, 6, 7, 8, 9, 10, 11, 12, 13, 14, 15, 16, 17], [0, 1, 2, 3, 4, 5, 6, 7, 8, 9, 10, 11, 12, 13, 14, 15, 16, 17, 18], [0, 1, 2, 3, 4, 5, 6, 7, 8, 9, 10, 11, 12, 13, 14, 15, 16, 17, 18, 19], [0, 1, 2, 3, 4, 5, 6, 7, 8, 9, 10, 11, 12, 13, 14, 15, 16, 17, 18, 19, 20], [0, 1, 2, 3, 4, 5, 6, 7, 8, 9, 10, 11, 12, 13, 14, 15, 16, 17, 18, 19, 20, 21], [0, 1, 2, 3, 4, 5, 6, 7, 8, 9, 10, 11, 12, 13, 14, 15, 16, 17, 18, 19, 20, 21, 22], [0, 1, 2, 3, 4, 5, 6, 7, 8, 9, 10, 11, 12, 13, 14, 15, 16, 17, 18, 19, 20, 21, 22, 23], [0, 1, 2, 3, 4, 5, 6, 7, 8, 9, 10, 11, 12, 13, 14, 15, 16, 17, 18, 19, 20, 21, 22, 23, 24], [0, 1, 2, 3, 4, 5, 6, 7, 8, 9, 10, 11, 12, 13, 14, 15, 16, 17, 18, 19, 20, 21, 22, 23, 24, 25], [0, 1, 2, 3, 4, 5, 6, 7, 8, 9, 10, 11, 12, 13, 14, 15, 16, 17, 18, 19, 20, 21, 22, 23, 24, 25, 26], [0, 1, 2, 3, 4, 5, 6, 7, 8, 9, 10, 11, 12, 13, 14, 15, 16, 17, 18, 19, 20, 21, 22, 23, 24, 25, 26, 27], [0, 1, 2, 3, 4, 5, 6, 7, 8, 9, 10, 11, 12, 13, 14, 15, 16, 17, 18, 19, 20, 21, 22, 23, 24, 25, 26, 27, 28], [0, 1, 2, 3, 4, 5, 6, 7, 8, 9, 10, 11, 12, 13, 14, 15, 16, 17, 18, 19, 20, 21, 22, 23, 24, 25, 26, 27, 28, 29], [0, 1, 2, 3, 4, 5, 6, 7, 8, 9, 10, 11, 12, 13, 14, 15, 16, 17, 18, 19, 20, 21, 22, 23, 24, 25, 26, 27, 28, 29, 30], [0, 1, 2, 3, 4, 5, 6, 7, 8, 9, 10, 11, 12, 13, 14, 15, 16, 17, 18, 19, 20, 21, 22, 23, 24, 25, 26, 27, 28, 29, 30, 31], [0, 1, 2, 3, 4, 5, 6, 7, 8, 9, 10, 11, 12, 13, 14, 15, 16, 17, 18, 19, 20, 21, 22, 23, 24, 25, 26, 27, 28, 29, 30, 31, 32], [0, 1, 2, 3, 4, 5, 6, 7, 8, 9, 10, 11, 12, 13, 14, 15, 16, 17, 18, 19, 20, 21, 22, 23, 24, 25, 26, 27, 28, 29, 30, 31, 32, 33], [0, 1, 2, 3, 4, 5, 6, 7, 8, 9, 10, 11, 12, 13, 14, 15, 16, 17, 18, 19, 20, 21, 22, 23, 24, 25, 26, 27, 28, 29, 30, 31, 32, 33, 34], [0, 1, 2, 3, 4, 5, 6, 7, 8, 9, 10, 11, 12, 13, 14, 15, 16, 17, 18, 19, 20, 21, 22, 23, 24, 25, 26, 27, 28, 29, 30, 31, 32, 33, 34, 35], [0, 1, 2, 3, 4, 5, 6, 7, 8, 9, 10, 11, 12, 13, 14, 15, 16, 17, 18, 19, 20, 21, 22, 23, 24, 25, 26, 27, 28, 29, 30, 31, 32, 33, 34, 35, 36], [0, 1, 2, 3, 4, 5, 6, 7, 8, 9, 10, 11, 12, 13, 14, 15, 16, 17, 18, 19, 20, 21, 22, 23, 24, 25, 26, 27, 28, 29, 30, 31, 32, 33, 34, 35, 36, 37], [0, 1, 2, 3, 4, 5, 6, 7, 8, 9, 10, 11, 12, 13, 14, 15, 16, 17, 18, 19, 20, 21, 22, 23, 24, 25, 26, 27, 28, 29, 30, 31, 32, 33, 34, 35, 36, 37, 38], [0, 1, 2, 3, 4, 5, 6, 7, 8, 9, 10, 11, 12, 13, 14, 15, 16, 17, 18, 19, 20, 21, 22, 23, 24, 25, 26, 27, 28, 29, 30, 31, 32, 33, 34, 35, 36, 37, 38, 39], [0, 1, 2, 3, 4, 5, 6, 7, 8, 9, 10, 11, 12, 13, 14, 15, 16, 17, 18, 19, 20, 21, 22, 23, 24, 25, 26, 27, 28, 29, 30, 31, 32, 33, 34, 35, 36, 37, 38, 39, 40], [0, 1, 2, 3, 4, 5, 6, 7, 8, 9, 10, 11, 12, 13, 14, 15, 16, 17, 18, 19, 20, 21, 22, 23, 24, 25, 26, 27, 28, 29, 30, 31, 32, 33, 34, 35, 36, 37, 38, 39, 40, 41], [0, 1, 2, 3, 4, 5, 6, 7, 8, 9, 10, 11, 12, 13, 14, 15, 16, 17, 18, 19, 20, 21, 22, 23, 24, 25, 26, 27, 28, 29, 30, 31, 32, 33, 34, 35, 36, 37, 38, 39, 40, 41, 42], [0, 1, 2, 3, 4, 5, 6, 7, 8, 9, 10, 11, 12, 13, 14, 15, 16, 17, 18, 19, 20, 21, 22, 23, 24, 25, 26, 27, 28, 29, 30, 31, 32, 33, 34, 35, 36, 37, 38, 39, 40, 41, 42, 43], [0, 1, 2, 3, 4, 5, 6, 7, 8, 9, 10, 11, 12, 13, 14, 15, 16, 17, 18, 19, 20, 21, 22, 23, 24, 25, 26, 27, 28, 29, 30, 31, 32, 33, 34, 35, 36, 37, 38, 39, 40, 41, 42, 43, 44], [0, 1, 2, 3, 4, 5, 6, 7, 8, 9, 10, 11, 12, 13, 14, 15, 16, 17, 18, 19, 20, 21, 22, 23, 24, 25, 26, 27, 28, 29, 30, 31, 32, 33, 34, 35, 36, 37, 38, 39, 40, 41, 42, 43, 44, 45], [0, 1, 2, 3, 4, 5, 6, 7, 8, 9, 10, 11, 12, 13, 14, 15, 16, 17, 18, 19, 20, 21, 22, 23, 24, 25, 26, 27, 28, 29, 30, 31, 32, 33, 34, 35, 36, 37, 38, 39, 40, 41, 42, 43, 44, 45, 46], [0, 1, 2, 3, 4, 5, 6, 7, 8, 9, 10, 11, 12, 13, 14, 15, 16, 17, 18, 19, 20, 21, 22, 23, 24, 25, 26, 27, 28, 29, 30, 31, 32, 33, 34, 35, 36, 37, 38, 39, 40, 41, 42, 43, 44, 45, 46, 47], [0, 1, 2, 3, 4, 5, 6, 7, 8, 9, 10, 11, 12, 13, 14, 15, 16, 17, 18, 19, 20, 21, 22, 23, 24, 25, 26, 27, 28, 29, 30, 31, 32, 33, 34, 35, 36, 37, 38, 39, 40, 41, 42, 43, 44, 45, 46, 47], [0, 1, 2, 3, 4, 5, 6, 7, 8, 9, 10, 11, 12, 13, 14, 15, 16, 17, 18, 19, 20, 21, 22, 23, 24, 25, 26, 27, 28, 29, 30, 31, 32, 33, 34, 35, 36, 37, 38, 39, 40, 41, 42, 43, 44, 45, 46, 47, 48, 49], [0, 1, 2, 3, 4, 5, 6, 7, 8, 9, 10, 11, 12, 13, 14, 15, 16, 17, 18, 19, 20, 21, 22, 23, 24, 25, 26, 27, 28, 29, 30, 31, 32, 33, 34, 35, 36, 37, 38, 39, 40, 41, 42, 43, 44, 45, 46, 47, 48, 49, 50], [0, 1, 2, 3, 4, 5, 6, 7, 8, 9, 10, 11, 12, 13, 14, 15, 16, 17, 18, 19, 20, 21, 22, 23, 24, 25, 26, 27, 28, 29, 30, 31, 32, 33, 34, 35, 36, 37, 38, 39, 40, 41, 42, 43, 44, 45, 46, 47, 48, 49, 50, 51], [0, 1, 2, 3, 4, 5, 6, 7, 8, 9, 10, 11, 12, 13, 14, 15, 16, 17, 18, 19, 20, 21, 22, 23, 24, 25, 26, 27, 28, 29, 30, 31, 32, 33, 34, 35, 36, 37, 38, 39, 40, 41, 42, 43, 44, 45, 46, 47, 48, 49, 50, 51, 52], [0, 1, 2, 3, 4, 5, 6, 7, 8, 9, 10, 11, 12, 13, 14, 15, 16, 17, 18, 19, 20, 21, 22, 23, 24, 25, 26, 27, 28, 29, 30, 31, 32, 33, 34, 35, 36, 37, 38, 39, 40, 41, 42, 43, 44, 45, 46, 47, 48, 49, 50, 51, 52], [0, 1, 2, 3, 4, 5, 6, 7, 8, 9, 10, 11, 12, 13, 14, 15, 16, 17, 18, 19, 20, 21, 22, 23, 24, 25, 26, 27, 28, 29, 30, 31, 32, 33, 34, 35, 36, 37, 38, 39, 40, 41, 42, 43, 44, 45, 46, 47, 48, 49, 50, 51, 52, 53, 54], [0, 1, 2, 3, 4, 5, 6, 7, 8, 9, 10, 11, 12, 13, 14, 15, 16, 17, 18, 19, 20, 21, 22, 23, 24, 25, 26, 27, 28, 29, 30, 31, 32, 33, 34, 35, 36, 37, 38, 39, 40, 41, 42, 43, 44, 45, 46, 47, 48, 49, 50, 51, 52, 53, 54, 55], [0, 1, 2, 3, 4, 5, 6, 7, 8, 9, 10, 11, 12, 13, 14, 15, 16, 17, 18, 19, 20, 21, 22, 23, 24, 25, 26, 27, 28, 29, 30, 31, 32, 33, 34, 35, 36, 37, 38, 39, 40, 41, 42, 43, 44, 45, 46, 47, 48, 49, 50, 51, 52, 53, 54, 55, 56], [0, 1, 2, 3, 4, 5, 6, 7, 8, 9, 10, 11, 12, 13, 14, 15, 16, 17, 18, 19, 20, 21, 22, 23, 24, 25, 26, 27, 28, 29, 30, 31, 32, 33, 34, 35, 36, 37, 38, 39, 40, 41, 42, 43, 44, 45, 46, 47, 48, 49, 50, 51, 52, 53, 54, 55, 56, 57], [0, 1, 2, 3, 4, 5, 6, 7, 8, 9, 10, 11, 12, 13, 14, 15, 16, 17, 18, 19, 20, 21, 22, 23, 24, 25, 26, 27, 28, 29, 30, 31, 32, 33, 34, 35, 36, 37, 38, 39, 40, 41, 42, 43, 44, 45, 46, 47, 48, 49, 50, 51, 52, 53, 54, 55, 56, 57, 58], [0, 1, 2, 3, 4, 5, 6, 7, 8, 9, 10, 11, 12, 13, 14, 15, 16, 17, 18, 19, 20, 21, 22, 23, 24, 25, 26, 27, 28, 29, 30, 31, 32, 33, 34, 35, 36, 37, 38, 39, 40, 41, 42, 43, 44, 45, 46, 47, 48, 49, 50, 51, 52, 53, 54, 55, 56, 57, 58, 59], [0, 1, 2, 3, 4, 5, 6, 7, 8, 9, 10, 11, 12, 13, 14, 15, 16, 17, 18, 19, 20, 21, 22, 23, 24, 25, 26, 27, 28, 29, 30, 31, 32, 33, 34, 35, 36, 37, 38, 39, 40, 41, 42, 43, 44, 45, 46, 47, 48, 49, 50, 51, 52, 53, 54, 55, 56, 57, 58, 59, 60], [0, 1, 2, 3, 4, 5, 6, 7, 8, 9, 10, 11, 12, 13, 14, 15, 16, 17, 18, 19, 20, 21, 22, 23, 24, 25, 26, 27, 28, 29, 30, 31, 32, 33, 34, 35, 36, 37, 38, 39, 40, 41, 42, 43, 44, 45, 46, 47, 48, 49, 50, 51, 52, 53, 54, 55, 56, 57, 58, 59, 60, 61], [0, 1, 2, 3, 4, 5, 6, 7, 8, 9, 10, 11, 12, 13, 14, 15, 16, 17, 18, 19, 20, 21, 22, 23, 24, 25, 26, 27, 28, 29, 30, 31, 32, 33, 34, 35, 36, 37, 38, 39, 40, 41, 42, 43, 44, 45, 46, 47, 48, 49, 50, 51, 52, 53, 54, 55, 56, 57, 58], [0, 1, 2, 3, 4, 5, 6, 7, 8, 9, 10, 11, 12, 13, 14, 15, 16, 17, 18, 19, 20, 21, 22, 23, 24, 25, 26, 27, 28, 29, 30, 31, 32, 33, 34, 35, 36, 37, 38, 39, 40, 41, 42, 43, 44, 45, 46, 47, 48, 49, 50, 51, 52, 53, 54, 55, 56, 57, 58, 63], [0, 1, 2, 3, 4, 5, 6, 7, 8, 9, 10, 11, 12, 13, 14, 15, 16, 17, 18, 19, 20, 21, 22, 23, 24, 25, 26, 27, 28, 29, 30, 31, 32, 33, 34, 35, 36, 37, 38, 39, 40, 41, 42, 43, 44, 45, 46, 47, 48, 49, 50, 51, 52, 53, 54, 55, 56, 57, 58, 63, 64], [0, 1, 2, 3, 4, 5, 6, 7, 8, 9, 10, 11, 12, 13, 14, 15, 16, 17, 18, 19, 20, 21, 22, 23, 24, 25, 26, 27, 28, 29, 30, 31, 32, 33, 34, 35, 36, 37, 38, 39, 40, 41, 42, 43, 44, 45, 46, 47, 48, 49, 50, 51, 52, 53, 54, 55, 56, 57, 58, 63, 64, 65], [0, 1, 2, 3, 4, 5, 6, 7, 8, 9, 10, 11, 12, 13, 14, 15, 16, 17, 18, 19, 20, 21, 22, 23, 24, 25, 26, 27, 28, 29, 30, 31, 32, 33, 34, 35, 36, 37, 38, 39, 40, 41, 42, 43, 44, 45, 46, 47, 48, 49, 50, 51, 52, 53, 54, 55, 56, 57, 58, 59, 60, 61, 62, 63, 64, 65, 66], [0, 1, 2, 3, 4, 5, 6, 7, 8, 9, 10, 11, 12, 13, 14, 15, 16, 17, 18, 19, 20, 21, 22, 23, 24, 25, 26, 27, 28, 29, 30, 31, 32, 33, 34, 35, 36, 37, 38, 39, 40, 41, 42, 43, 44, 45, 46, 47, 48, 49, 50, 51, 52, 53, 54, 55, 56, 57, 58, 59, 60, 61, 62, 63, 64, 65, 66, 67], [0, 1, 2, 3, 4, 5, 6, 7, 8, 9, 10, 11, 12, 13, 14, 15, 16, 17, 18, 19, 20, 21, 22, 23, 24, 25, 26, 27, 28, 29, 30, 31, 32, 33, 34, 35, 36, 37, 38, 39, 40, 41, 42, 43, 44, 45, 46, 47, 48, 49, 50, 51, 52, 53, 54, 55, 56, 57, 58, 59, 60, 61, 62, 63, 64, 65, 66, 67, 68], [0, 1, 2, 3, 4, 5, 6, 7, 8, 9, 10, 11, 12, 13, 14, 15, 16, 17, 18, 19, 20, 21, 22, 23, 24, 25, 26, 27, 28, 29, 30, 31, 32, 33, 34, 35, 36, 37, 38, 39, 40, 41, 42, 43, 44, 45, 46, 47, 48, 49, 50, 51, 52, 53, 54, 55, 56, 57, 58, 59, 60, 61, 62, 63, 64, 65, 66, 67, 68, 69], [0, 1, 2, 3, 4, 5, 6, 7, 8, 9, 10, 11, 12, 13, 14, 15, 16, 17, 18, 19, 20, 21, 22, 23, 24, 25, 26, 27, 28, 29, 30, 31, 32, 33, 34, 35, 36, 37, 38, 39, 40, 41, 42, 43, 44, 45, 46, 47, 48, 49, 50, 51, 52, 53, 54, 55, 56, 57, 58, 59, 60, 61, 62, 63, 64, 65, 66, 67, 68, 69, 70], [0, 1, 2, 3, 4, 5, 6, 7, 8, 9, 10, 11, 12, 13, 14, 15, 16, 17, 18, 19, 20, 21, 22, 23, 24, 25, 26, 27, 28, 29, 30, 31, 32, 33, 34, 35, 36, 37, 38, 39, 40, 41, 42, 43, 44, 45, 46, 47, 48, 49, 50, 51, 52, 53, 54, 55, 56, 57, 58, 59, 60, 61, 62, 63, 64, 65, 66, 67, 68, 69, 70, 71], [0, 1, 2, 3, 4, 5, 6, 7, 8, 9, 10, 11, 12, 13, 14, 15, 16, 17, 18, 19, 20, 21, 22, 23, 24, 25, 26, 27, 28, 29, 30, 31, 32, 33, 34, 35, 36, 37, 38, 39, 40, 41, 42, 43, 44, 45, 46, 47, 48, 49, 50, 51, 52, 53, 54, 55, 56, 57, 58, 59, 60, 61, 62, 63, 64, 65, 66, 67, 68, 69, 70, 71, 72]], []⟩ else ⟨[], [], [], []⟩
def cfg10 : Cfg := ⟨[1, 2, 4, 5], keep10, draw10⟩
theorem ok10 : codeOK PP cfg10 Go.Proofs.Try.f10.ntmps body10 = true := by kernel_rfl
/-! ### 11 parterre/venue.Norm -/
noncomputable def body11 : Code := match Go.Proofs.Try.f11.body with | some c => c | none => .skip
theorem fn11 : PP.funcs[11]? = some Go.Proofs.Try.f11 := Go.Proofs.Try.func11
theorem bodyEq11 : Go.Proofs.Try.f11.body = some body11 := rfl
def keep11 (i : Nat) : List Nat := (if i < 10 then (if i < 5 then (if i < 2 then (if i < 1 then [1, 2] else [1, 2, 4]) else (if i < 3 then [1, 2, 4, 11, 12, 13] else (if i < 4 then [1, 2, 4, 11, 12, 13, 14] else [1, 2, 4, 6, 11, 12, 13]))) else (if i < 7 then (if i < 6 then [1, 2, 4, 6, 11, 12, 13, 25] else [2, 3]) else (if i < 8 then [1, 2, 4, 11, 12, 13] else (if i < 9 then [1, 2, 4, 11, 12, 13] else [2, 4, 7])))) else (if i < 15 then (if i < 12 then (if i < 11 then [2, 4, 7] else [2, 7, 50, 51, 52]) else (if i < 13 then [2, 7, 50, 51, 52, 53] else (if i < 14 then [2, 7, 9, 50, 51, 52] else [2, 7, 50, 51, 52]))) else (if i < 18 then (if i < 16 then [2, 7, 50, 51, 52] else (if i < 17 then [2, 7] else [2, 7])) else (if i < 19 then [2, 7, 75] else (if i < 20 then [2, 3] else [2, 3])))))
def draw11 (i : Nat) : DrawInfo := if i = 9 then ⟨[11], [0, 1, 3, 4, 5, 6, 7, 8, 2, 9, 10, 12], [[], [0], [0, 1], [], [3], [], [5], [], [7], [0, 1, 2, 7, 8], [0, 1, 2, 3, 4, 5, 6, 7, 8, 9], [], [0, 1, 2, 3, 4, 5, 6, 7, 8, 9, 10, 11]], []⟩ else if i = 14 then ⟨[], [0, 1, 2, 3, 4, 5, 6, 7, 8, 9], [[], [0], [], [2], [], [2, 3, 4], [2, 3, 4, 5], [0, 1, 2, 3, 4, 5, 6], [0, 1, 2, 3, 4, 5, 6, 7], [0, 1, 2, 3, 4, 5, 6, 7, 8]], []⟩ else ⟨[], [], [], []⟩
def cfg11 : Cfg := ⟨[1, 2, 7], keep11, draw11⟩
theorem ok11 : codeOK PP cfg11 Go.Proofs.Try.f11.ntmps body11 = true := by kernel_rfl
/-! ### 12 parterre/parterreref2.Norm -/
noncomputable def body12 : Code := match Go.Proofs.Try.f12.body with | some c => c | none => .skip
theorem fn12 : PP.funcs[12]? = some Go.Proofs.Try.f12 := Go.Proofs.Try.func12
theorem bodyEq12 : Go.Proofs.Try.f12.body = some body12 := rfl
def keep12 (i : Nat) : List Nat := (if i < 11 then (if i < 5 then (if i < 2 then (if i < 1 then [1, 2] else [1, 2, 4]) else (if i < 3 then [1, 2, 4, 5] else (if i < 4 then [1, 2, 4, 5, 25] else [1, 2, 4, 5]))) else (if i < 8 then (if i < 6 then [1, 2, 4, 5, 6] else (if i < 7 then [1, 2, 4, 5, 6, 46] else [1, 2, 4, 5, 6])) else (if i < 9 then [1, 2, 4, 5] else (if i < 10 then [1, 2, 4, 7] else [1, 2, 4, 7, 72])))) else (if i < 16 then (if i < 13 then (if i < 12 then [1, 2, 4, 7] else [1, 2, 4, 7, 85]) else (if i < 14 then [2, 3] else (if i < 15 then [1, 2, 4, 7, 8] else [1, 2, 4, 7, 8, 9]))) else (if i < 19 then (if i < 17 then [1, 2, 4, 7, 8, 9, 123] else (if i < 18 then [1, 2, 4, 7, 8, 9] else [1, 2, 4, 7])) else (if i < 20 then [2, 4, 133] else (if i < 21 then [2, 3] else [2, 3])))))
def draw12 (i : Nat) : DrawInfo := if i = 6 then ⟨[], [0, 1, 2, 3, 4, 5, 6, 7, 8, 9, 10, 11, 12, 13, 14, 15], [[], [0], [0, 1], [0, 1, 2], [0, 1, 2, 3], [0, 1, 2], [0, 1, 2, 3, 4, 5], [0, 1, 2, 3, 4, 5, 6], [0, 1, 2], [0, 1, 2, 8], [0, 1, 2], [0, 1, 2, 10], [0, 1, 2, 8, 9, 10, 11], [0, 1, 2, 8, 9, 10, 11, 12], [0, 1, 2, 3, 4, 5, 6, 7, 8, 9, 10, 11, 12, 13], [0, 1, 2, 3, 4, 5, 6, 7, 8, 9, 10, 11, 12, 13, 14]], []⟩ else if i = 8 then ⟨[], [1, 2, 3, 4, 6, 7, 8, 9, 10, 13, 14, 15, 16, 0, 5, 11, 12, 17, 18, 19], [[], [], [1], [], [1, 2, 3], [0, 1, 2, 3, 4], [], [6], [], [6, 7, 8], [6, 7, 8, 9], [6, 7, 8, 9, 10], [0, 1, 2, 3, 4, 5, 6, 7, 8, 9, 10, 11], [], [13], [], [13, 14, 15], [0, 1, 2, 3, 4, 5, 6, 7, 8, 9, 10, 11, 12, 13, 14, 15, 16], [0, 1, 2, 3, 4, 5, 6, 7, 8, 9, 10, 11, 12, 13, 14, 15, 16, 17], [0, 1, 2, 3, 4, 5, 6, 7, 8, 9, 10, 11, 12, 13, 14, 15, 16, 17, 18]], [[1, 2, 3, 4, 6, 7, 8, 9, 10, 13, 14, 15, 16, 0, 11, 5, 12, 17, 18, 19], [1, 2, 3, 4, 6, 7, 8, 9, 10, 13, 14, 15, 16, 11, 0, 5, 12, 17, 18, 19]]⟩ else if i = 12 then ⟨[], [0, 1, 2, 3, 4, 5, 6, 7, 8, 9, 10], [[], [0], [], [0, 1, 2], [0, 1, 2, 3], [], [5], [5, 6], [5, 6, 7], [0, 1, 2, 3, 4, 5, 6, 7, 8], [0, 1, 2, 3, 4, 5, 6, 7, 8, 9]], []⟩ else if i = 14 then ⟨[9], [0, 1, 2, 3, 4, 5, 6, 7, 8, 10], [[], [0], [], [2], [], [2, 3, 4], [2, 3, 4, 5], [0, 1, 2, 3, 4, 5, 6], [0, 1, 2, 3, 4, 5, 6, 7], [], [0, 1, 2, 3, 4, 5, 6, 7, 8, 9]], []⟩ else if i = 16 then ⟨[], [0, 1, 2, 3, 4, 5, 6, 7, 8, 9, 10, 11, 12, 13, 14, 15, 16, 17, 18, 19, 20, 21, 22, 23, 24, 25, 26, 27], [[], [0], [], [2], [2, 3], [0, 1, 2, 3, 4], [0, 1, 2, 3, 4, 5], [0, 1, 2, 3, 4, 5, 6], [0, 1, 2, 3, 4, 5, 6, 7], [0, 1, 2, 3, 4, 5, 6], [0, 1, 2, 3, 4, 5, 6, 7, 8, 9], [0, 1, 2, 3, 4, 5, 6, 7, 8, 9, 10], [0, 1, 2, 3, 4, 5, 6, 7, 8, 9, 10, 11], [0, 1, 2, 3, 4, 5, 6], [0, 1, 2, 3, 4, 5, 6, 13], [0, 1, 2, 3, 4, 5, 6, 7, 8, 9, 10, 11, 12, 13, 14], [0, 1, 2, 3, 4, 5, 6, 7, 8, 9, 10, 11, 12, 13, 14, 15], [0, 1, 2, 3, 4, 5, 6, 7, 8, 9, 10, 11, 12, 13, 14, 15, 16], [0, 1, 2, 3, 4, 5, 6, 7, 8, 9, 10, 11, 12, 13, 14, 15, 16, 17], [0, 1, 2, 3, 4, 5, 6, 7, 8, 9, 10, 11, 12, 13, 14, 15, 16], [0, 1, 2, 3, 4, 5, 6, 7, 8, 9, 10, 11, 12, 13, 14, 15, 16, 17, 18, 19], [0, 1, 2, 3, 4, 5, 6, 7, 8, 9, 10, 11, 12, 13, 14, 15, 16, 17, 18, 19, 20], [0, 1, 2, 3, 4, 5, 6, 7, 8, 9, 10, 11, 12, 13, 14, 15, 16, 17, 18, 19, 20, 21], [0, 1, 2, 3, 4, 5, 6, 7, 8, 9, 10, 11, 12, 13, 14, 15, 16], [0, 1, 2, 3, 4, 5, 6, 7, 8, 9, 10, 11, 12, 13, 14, 15, 16, 23], [0, 1, 2, 3, 4, 5, 6, 7, 8, 9, 10, 11, 12, 13, 14, 15, 16, 17, 18, 19, 20, 21, 22, 23, 24], [0, 1, 2, 3, 4, 5, 6, 7, 8, 9, 10, 11, 12, 13, 14, 15, 16, 17, 18, 19, 20, 21, 22, 23, 24, 25], [0, 1, 2, 3, 4, 5, 6, 7, 8, 9, 10, 11, 12, 13, 14, 15, 16, 17, 18, 19, 20, 21, 22, 23, 24, 25, 26]], []⟩ else ⟨[], [], [], []⟩
def cfg12 : Cfg := ⟨[1, 2, 4, 8], keep12, draw12⟩
theorem ok12 : codeOK PP cfg12 Go.Proofs.Try.f12.ntmps body12 = true := by kernel_rfl
/-! ### 13 parterre/venue.Wrong -/
noncomputable def body13 : Code := match Go.Proofs.Try.f13.body with | some c => c | none => .skip
theorem fn13 : PP.funcs[13]? = some Go.Proofs.Try.f13 := Go.Proofs.Try.func13
theorem bodyEq13 : Go.Proofs.Try.f13.body = some body13 := rfl
def keep13 (i : Nat) : List Nat := (if i < 6 then (if i < 3 then (if i < 1 then [1] else (if i < 2 then [1, 3] else [2])) else (if i < 4 then [1, 8] else (if i < 5 then [2] else [1, 13]))) else (if i < 9 then (if i < 7 then [2] else (if i < 8 then [1, 18] else [2])) else (if i < 10 then [26] else (if i < 11 then [2] else [2]))))
def draw13 (i : Nat) : DrawInfo := ⟨[], [], [], []⟩
def cfg13 : Cfg := ⟨[1], keep13, draw13⟩
theorem ok13 : codeOK PP cfg13 Go.Proofs.Try.f13.ntmps body13 = true := by kernel_rfl
/-! ### 14 parterre/parterreref2.Wrong -/
noncomputable def body14 : Code := match Go.Proofs.Try.f14.body with | some c => c | none => .skip
theorem fn14 : PP.funcs[14]? = some Go.Proofs.Try.f14 := Go.Proofs.Try.func14
theorem bodyEq14 : Go.Proofs.Try.f14.body = some body14 := rfl
def keep14 (i : Nat) : List Nat := (if i < 6 then (if i < 3 then (if i < 1 then [1] else (if i < 2 then [1, 3] else [2])) else (if i < 4 then [1, 8] else (if i < 5 then [2] else [1, 13]))) else (if i < 9 then (if i < 7 then [2] else (if i < 8 then [1, 18] else [2])) else (if i < 10 then [26] else (if i < 11 then [2] else [2]))))
def draw14 (i : Nat) : DrawInfo := ⟨[], [], [], []⟩
def cfg14 : Cfg := ⟨[1], keep14, draw14⟩
theorem ok14 : codeOK PP cfg14 Go.Proofs.Try.f14.ntmps body14 = true := by kernel_rfl
/-! ### 15 parterre/venue.May -/
noncomputable def body15 : Code := match Go.Proofs.Try.f15.body with | some c => c | none => .skip
theorem fn15 : PP.funcs[15]? = some Go.Proofs.Try.f15 := Go.Proofs.Try.func15
theorem bodyEq15 : Go.Proofs.Try.f15.body = some body15 := rfl
def keep15 (i : Nat) : List Nat := (if i < 1 then [1] else [2])
def draw15 (i : Nat) : DrawInfo := ⟨[], [], [], []⟩
def cfg15 : Cfg := ⟨[1], keep15, draw15⟩
theorem ok15 : codeOK PP cfg15 Go.Proofs.Try.f15.ntmps body15 = true := by kernel_rfl
/-! ### 16 parterre/parterreref2.May -/
noncomputable def body16 : Code := match Go.Proofs.Try.f16.body with | some c => c | none => .skip
theorem fn16 : PP.funcs[16]? = some Go.Proofs.Try.f16 := Go.Proofs.Try.func16
theorem bodyEq16 : Go.Proofs.Try.f16.body = some body16 := rfl
def keep16 (i : Nat) : List Nat := (if i < 1 then [1] else [2])
def draw16 (i : Nat) : DrawInfo := ⟨[], [], [], []⟩
def cfg16 : Cfg := ⟨[1], keep16, draw16⟩
theorem ok16 : codeOK PP cfg16 Go.Proofs.Try.f16.ntmps body16 = true := by kernel_rfl
/-! ### 17 parterre/venue.Same -/
noncomputable def body17 : Code := match Go.Proofs.Try.f17.body with | some c => c | none => .skip
theorem fn17 : PP.funcs[17]? = some Go.Proofs.Try.f17 := Go.Proofs.Try.func17
theorem bodyEq17 : Go.Proofs.Try.f17.body = some body17 := rfl
def keep17 (i : Nat) : List Nat := (if i < 1 then [2, 3] else [4])
def draw17 (i : Nat) : DrawInfo := ⟨[], [], [], []⟩
def cfg17 : Cfg := ⟨[2, 3], keep17, draw17⟩
theorem ok17 : codeOK PP cfg17 Go.Proofs.Try.f17.ntmps body17 = true := by kernel_rfl
/-! ### 18 parterre/parterreref2.Same -/
noncomputable def body18 : Code := match Go.Proofs.Try.f18.body with | some c => c | none => .skip
theorem fn18 : PP.funcs[18]? = some Go.Proofs.Try.f18 := Go.Proofs.Try.func18
theorem bodyEq18 : Go.Proofs.Try.f18.body = some body18 := rfl
def keep18 (i : Nat) : List Nat := (if i < 9 then (if i < 4 then (if i < 2 then (if i < 1 then [2, 3] else [2, 3, 46]) else (if i < 3 then [4] else [2, 3, 5])) else (if i < 6 then (if i < 5 then [2, 3, 5, 51] else [2, 3, 5]) else (if i < 7 then [2, 3, 5, 64] else (if i < 8 then [4] else [2, 3, 6])))) else (if i < 14 then (if i < 11 then (if i < 10 then [2, 3, 6, 69] else [2, 3, 6]) else (if i < 12 then [2, 3, 6, 82] else (if i < 13 then [4] else [2, 3, 7]))) else (if i < 16 then (if i < 15 then [2, 3, 7, 87] else [2, 3, 7]) else (if i < 17 then [2, 3, 7, 100] else (if i < 18 then [4] else [4])))))
def draw18 (i : Nat) : DrawInfo := if i = 6 then ⟨[], [0, 1, 2, 3, 4, 5, 6, 7, 8, 9, 10], [[], [0], [], [0, 1, 2], [0, 1, 2, 3], [], [5], [], [5, 6, 7], [5, 6, 7, 8], [0, 1, 2, 3, 4, 5, 6, 7, 8, 9]], []⟩ else if i = 11 then ⟨[], [0, 1, 2, 3, 4, 5, 6, 7, 8, 9, 10], [[], [0], [], [0, 1, 2], [0, 1, 2, 3], [], [5], [], [5, 6, 7], [5, 6, 7, 8], [0, 1, 2, 3, 4, 5, 6, 7, 8, 9]], []⟩ else if i = 16 then ⟨[], [0, 1, 2, 3, 4, 5, 6, 7, 8, 9, 10], [[], [0], [], [0, 1, 2], [0, 1, 2, 3], [], [5], [], [5, 6, 7], [5, 6, 7, 8], [0, 1, 2, 3, 4, 5, 6, 7, 8, 9]], []⟩ else ⟨[], [], [], []⟩
def cfg18 : Cfg := ⟨[2, 3], keep18, draw18⟩
theorem ok18 : codeOK PP cfg18 Go.Proofs.Try.f18.ntmps body18 = true := by kernel_rfl
/-! ### 19 parterre/venue.Less -/
noncomputable def body19 : Code := match Go.Proofs.Try.f19.body with | some c => c | none => .skip
theorem fn19 : PP.funcs[19]? = some Go.Proofs.Try.f19 := Go.Proofs.Try.func19
theorem bodyEq19 : Go.Proofs.Try.f19.body = some body19 := rfl
def keep19 (i : Nat) : List Nat := (if i < 1 then [2, 3] else [4])
def draw19 (i : Nat) : DrawInfo := ⟨[], [], [], []⟩
def cfg19 : Cfg := ⟨[2, 3], keep19, draw19⟩
theorem ok19 : codeOK PP cfg19 Go.Proofs.Try.f19.ntmps body19 = true := by kernel_rfl
/-! ### 20 parterre/parterrelaw3.Make -/
noncomputable def body20 : Code := match Go.Proofs.Try.f20.body with | some c => c | none => .skip
theorem fn20 : PP.funcs[20]? = some Go.Proofs.Try.f20 := Go.Proofs.Try.func20
theorem bodyEq20 : Go.Proofs.Try.f20.body = some body20 := rfl
def keep20 (i : Nat) : List Nat := (if i < 14 then (if i < 7 then (if i < 3 then (if i < 1 then [0, 1, 4] else (if i < 2 then [0, 1, 4, 5] else [0, 1, 4, 5, 6, 7])) else (if i < 5 then (if i < 4 then [0, 1, 4, 5, 6, 7, 8] else [0, 1, 4, 5, 6, 7, 8, 24]) else (if i < 6 then [0, 1, 4, 5, 6, 7, 8] else [0, 1, 4, 5, 6, 7, 8, 9]))) else (if i < 10 then (if i < 8 then [0, 1, 4, 5, 6, 7, 8, 9] else (if i < 9 then [0, 1, 4, 5, 6, 7, 8, 9, 35] else [0, 1, 4, 5, 6, 7, 8, 9, 35, 36])) else (if i < 12 then (if i < 11 then [0, 1, 4, 5, 6, 7, 8, 9] else [0, 1, 4, 5, 6, 7, 8, 9, 40]) else (if i < 13 then [0, 1, 4, 5, 6, 7, 8, 9] else [0, 1, 4, 5, 6, 7, 8, 9, 10])))) else (if i < 21 then (if i < 17 then (if i < 15 then [0, 1, 4, 5, 6, 7, 8, 9, 10, 51] else (if i < 16 then [0, 1, 4, 5, 6, 7, 8, 9, 10, 51, 52] else [0, 1, 4, 5, 6, 7, 8, 9, 10])) else (if i < 19 then (if i < 18 then [0, 1, 4, 5, 6, 7, 8, 9, 10, 51, 55] else [0, 1, 4, 5, 6, 7, 8, 9, 10, 55]) else (if i < 20 then [0, 1, 4, 5, 6, 7, 8, 9, 10] else [0, 1, 4, 5, 6, 7, 8, 9]))) else (if i < 24 then (if i < 22 then [0, 1, 4, 5, 6, 7, 8, 9, 68] else (if i < 23 then [0, 1, 4, 5, 6, 7, 8, 9] else [0, 1, 4, 5, 6, 7, 8, 9, 81])) else (if i < 26 then (if i < 25 then [0, 1, 4, 5, 6, 7, 8, 9] else [0, 1, 4, 5, 6, 7, 8, 9, 99]) else (if i < 27 then [0, 1, 4, 5, 6, 7, 8] else [4])))))
def draw20 (i : Nat) : DrawInfo := ⟨[], [], [], []⟩
def cfg20 : Cfg := ⟨[4, 5, 10], keep20, draw20⟩
theorem ok20 : codeOK PP cfg20 Go.Proofs.Try.f20.ntmps body20 = true := by kernel_rfl
/-! ### 21 slices.Clone[[]parterre/api.Seat,parterre/api.Seat] -/
noncomputable def body21 : Code := match Go.Proofs.Try.f21.body with | some c => c | none => .skip
theorem fn21 : PP.funcs[21]? = some Go.Proofs.Try.f21 := Go.Proofs.Try.func21
theorem bodyEq21 : Go.Proofs.Try.f21.body = some body21 := rfl
def keep21 (i : Nat) : List Nat := (if i < 2 then (if i < 1 then [0] else [0, 4]) else (if i < 3 then [2] else [2]))
def draw21 (i : Nat) : DrawInfo := ⟨[], [], [], []⟩
def cfg21 : Cfg := ⟨[], keep21, draw21⟩
theorem ok21 : codeOK PP cfg21 Go.Proofs.Try.f21.ntmps body21 = true := by kernel_rfl
/-! ### 22 slices.Clone[[]parterre/api.Pole,parterre/api.Pole] -/
noncomputable def body22 : Code := match Go.Proofs.Try.f22.body with | some c => c | none => .skip
theorem fn22 : PP.funcs[22]? = some Go.Proofs.Try.f22 := Go.Proofs.Try.func22
theorem bodyEq22 : Go.Proofs.Try.f22.body = some body22 := rfl
def keep22 (i : Nat) : List Nat := (if i < 2 then (if i < 1 then [0] else [0, 4]) else (if i < 3 then [2] else [2]))
def draw22 (i : Nat) : DrawInfo := ⟨[], [], [], []⟩
def cfg22 : Cfg := ⟨[], keep22, draw22⟩
theorem ok22 : codeOK PP cfg22 Go.Proofs.Try.f22.ntmps body22 = true := by kernel_rfl
/-! ### 23 slices.SortFunc[[]parterre/api.Seat,parterre/api.Seat] -/
noncomputable def body23 : Code := match Go.Proofs.Try.f23.body with | some c => c | none => .skip
theorem fn23 : PP.funcs[23]? = some Go.Proofs.Try.f23 := Go.Proofs.Try.func23
theorem bodyEq23 : Go.Proofs.Try.f23.body = some body23 := rfl
def keep23 (i : Nat) : List Nat := (if i < 1 then [0, 1, 4] else [])
def draw23 (i : Nat) : DrawInfo := ⟨[], [], [], []⟩
def cfg23 : Cfg := ⟨[], keep23, draw23⟩
theorem ok23 : codeOK PP cfg23 Go.Proofs.Try.f23.ntmps body23 = true := by kernel_rfl
/-! ### 24 parterre/venue.Norm$1 -/
noncomputable def body24 : Code := match Go.Proofs.Try.f24.body with | some c => c | none => .skip
theorem fn24 : PP.funcs[24]? = some Go.Proofs.Try.f24 := Go.Proofs.Try.func24
theorem bodyEq24 : Go.Proofs.Try.f24.body = some body24 := rfl
def keep24 (i : Nat) : List Nat := (if i < 3 then (if i < 1 then [2, 3] else (if i < 2 then [2, 3, 5] else [4])) else (if i < 4 then [9] else (if i < 5 then [4] else [4])))
def draw24 (i : Nat) : DrawInfo := ⟨[], [], [], []⟩
def cfg24 : Cfg := ⟨[2, 3], keep24, draw24⟩
theorem ok24 : codeOK PP cfg24 Go.Proofs.Try.f24.ntmps body24 = true := by kernel_rfl
/-! ### 25 slices.IndexFunc[[]parterre/api.Seat,parterre/api.Seat] -/
noncomputable def body25 : Code := match Go.Proofs.Try.f25.body with | some c => c | none => .skip
theorem fn25 : PP.funcs[25]? = some Go.Proofs.Try.f25 := Go.Proofs.Try.func25
theorem bodyEq25 : Go.Proofs.Try.f25.body = some body25 := rfl
def keep25 (i : Nat) : List Nat := (if i < 4 then (if i < 2 then (if i < 1 then [0, 1] else [0, 1, 7, 8]) else (if i < 3 then [0, 1, 7, 8, 9] else [0, 1, 5, 7, 8])) else (if i < 6 then (if i < 5 then [0, 1, 5, 7, 8, 16] else [4]) else (if i < 7 then [0, 1, 7, 8] else [4])))
def draw25 (i : Nat) : DrawInfo := ⟨[], [], [], []⟩
def cfg25 : Cfg := ⟨[], keep25, draw25⟩
theorem ok25 : codeOK PP cfg25 Go.Proofs.Try.f25.ntmps body25 = true := by kernel_rfl
/-! ### 26 parterre/venue.Norm$2 -/
noncomputable def body26 : Code := match Go.Proofs.Try.f26.body with | some c => c | none => .skip
theorem fn26 : PP.funcs[26]? = some Go.Proofs.Try.f26 := Go.Proofs.Try.func26
theorem bodyEq26 : Go.Proofs.Try.f26.body = some body26 := rfl
def keep26 (i : Nat) : List Nat := (if i < 1 then [1, 2] else [3])
def draw26 (i : Nat) : DrawInfo := ⟨[], [], [], []⟩
def cfg26 : Cfg := ⟨[2], keep26, draw26⟩
theorem ok26 : codeOK PP cfg26 Go.Proofs.Try.f26.ntmps body26 = true := by kernel_rfl
/-! ### 27 slices.Sort[[]int,int] -/
noncomputable def body27 : Code := match Go.Proofs.Try.f27.body with | some c => c | none => .skip
theorem fn27 : PP.funcs[27]? = some Go.Proofs.Try.f27 := Go.Proofs.Try.func27
theorem bodyEq27 : Go.Proofs.Try.f27.body = some body27 := rfl
def keep27 (i : Nat) : List Nat := (if i < 1 then [0, 2] else [])
def draw27 (i : Nat) : DrawInfo := ⟨[], [], [], []⟩
def cfg27 : Cfg := ⟨[], keep27, draw27⟩
theorem ok27 : codeOK PP cfg27 Go.Proofs.Try.f27.ntmps body27 = true := by kernel_rfl
/-! ### 28 slices.Compact[[]int,int] -/
noncomputable def body28 : Code := match Go.Proofs.Try.f28.body with | some c => c | none => .skip
theorem fn28 : PP.funcs[28]? = some Go.Proofs.Try.f28 := Go.Proofs.Try.func28
theorem bodyEq28 : Go.Proofs.Try.f28.body = some body28 := rfl
def keep28 (i : Nat) : List Nat := (if i < 8 then (if i < 4 then (if i < 2 then (if i < 1 then [0] else [0, 8]) else (if i < 3 then [2] else [0, 3])) else (if i < 6 then (if i < 5 then [0, 3, 13] else [0, 3]) else (if i < 7 then [0, 3, 25] else [0, 3, 4]))) else (if i < 12 then (if i < 10 then (if i < 9 then [0, 3, 4, 5] else [0, 3, 4, 5, 32]) else (if i < 11 then [0, 3, 4, 5] else [0, 3, 4, 5, 44])) else (if i < 14 then (if i < 13 then [0, 3, 4, 5] else [0, 3, 4, 5]) else (if i < 15 then [0, 3] else (if i < 16 then [2] else [2])))))
def draw28 (i : Nat) : DrawInfo := if i = 6 then ⟨[], [0, 1, 2, 3, 4, 5, 6, 7, 8, 9], [[], [], [0, 1], [0, 1, 2], [], [], [5], [4, 5, 6], [4, 5, 6, 7], [0, 1, 2, 3, 4, 5, 6, 7, 8]], []⟩ else if i = 11 then ⟨[], [0, 1, 2, 3, 4, 5, 6, 7, 8, 9], [[], [], [0, 1], [0, 1, 2], [], [], [5], [4, 5, 6], [4, 5, 6, 7], [0, 1, 2, 3, 4, 5, 6, 7, 8]], []⟩ else ⟨[], [], [], []⟩
def cfg28 : Cfg := ⟨[], keep28, draw28⟩
theorem ok28 : codeOK PP cfg28 Go.Proofs.Try.f28.ntmps body28 = true := by kernel_rfl
/-! ### 29 parterre/parterreref2.Less -/
noncomputable def body29 : Code := match Go.Proofs.Try.f29.body with | some c => c | none => .skip
theorem fn29 : PP.funcs[29]? = some Go.Proofs.Try.f29 := Go.Proofs.Try.func29
theorem bodyEq29 : Go.Proofs.Try.f29.body = some body29 := rfl
def keep29 (i : Nat) : List Nat := (if i < 1 then [2, 3] else [4])
def draw29 (i : Nat) : DrawInfo := ⟨[], [], [], []⟩
def cfg29 : Cfg := ⟨[2, 3], keep29, draw29⟩
theorem ok29 : codeOK PP cfg29 Go.Proofs.Try.f29.ntmps body29 = true := by kernel_rfl
/-! ### 30 parterre/parterreref2.in -/
noncomputable def body30 : Code := match Go.Proofs.Try.f30.body with | some c => c | none => .skip
theorem fn30 : PP.funcs[30]? = some Go.Proofs.Try.f30 := Go.Proofs.Try.func30
theorem bodyEq30 : Go.Proofs.Try.f30.body = some body30 := rfl
def keep30 (i : Nat) : List Nat := (if i < 1 then [0, 1, 2] else [6])
def draw30 (i : Nat) : DrawInfo := ⟨[], [], [], []⟩
def cfg30 : Cfg := ⟨[], keep30, draw30⟩
theorem ok30 : codeOK PP cfg30 Go.Proofs.Try.f30.ntmps body30 = true := by kernel_rfl
/-! ### 31 parterre/parterreref2.put -/
noncomputable def body31 : Code := match Go.Proofs.Try.f31.body with | some c => c | none => .skip
theorem fn31 : PP.funcs[31]? = some Go.Proofs.Try.f31 := Go.Proofs.Try.func31
theorem bodyEq31 : Go.Proofs.Try.f31.body = some body31 := rfl
def keep31 (i : Nat) : List Nat := (if i < 3 then (if i < 1 then [0, 1] else (if i < 2 then [0, 1, 5] else [0, 1, 5, 18])) else (if i < 5 then (if i < 4 then [0, 1, 5] else [0, 1, 5, 31]) else (if i < 6 then [4] else [4])))
def draw31 (i : Nat) : DrawInfo := if i = 6 then ⟨[], [1, 2, 3, 5, 8, 9, 10, 0, 4, 6, 7, 11, 12], [[], [], [], [1, 2], [0, 1, 2, 3], [], [5], [0, 1, 2, 3, 4, 5, 6], [], [], [8, 9], [0, 1, 2, 3, 4, 5, 6, 7, 8, 9, 10], [0, 1, 2, 3, 4, 5, 6, 7, 8, 9, 10, 11]], [[1, 2, 3, 5, 8, 9, 10, 0, 6, 4, 7, 11, 12], [1, 2, 3, 5, 8, 9, 10, 6, 0, 4, 7, 11, 12]]⟩ else ⟨[], [], [], []⟩
def cfg31 : Cfg := ⟨[], keep31, draw31⟩
theorem ok31 : codeOK PP cfg31 Go.Proofs.Try.f31.ntmps body31 = true := by kernel_rfl
/-! ### 32 parterre/venue.seats -/
noncomputable def body32 : Code := match Go.Proofs.Try.f32.body with | some c => c | none => .skip
theorem fn32 : PP.funcs[32]? = some Go.Proofs.Try.f32 := Go.Proofs.Try.func32
theorem bodyEq32 : Go.Proofs.Try.f32.body = some body32 := rfl
def keep32 (i : Nat) : List Nat := (if i < 4 then (if i < 2 then (if i < 1 then [0] else [0, 5, 6, 7]) else (if i < 3 then [0, 5, 6, 7, 8] else [0, 3, 4, 5, 6, 7])) else (if i < 6 then (if i < 5 then [0, 5, 6, 7, 28] else [2]) else (if i < 7 then [0, 5, 6, 7] else [2])))
def draw32 (i : Nat) : DrawInfo := if i = 4 then ⟨[], [0, 1, 2, 3, 4, 5, 6, 7, 8, 9, 10, 11, 12, 13, 14, 15, 16], [[], [0], [0, 1], [0, 1, 2], [0, 1, 2, 3], [0, 1, 2, 3, 4], [0, 1, 2, 3, 4, 5], [0, 1, 2, 3, 4, 5, 6], [0, 1, 2, 3, 4, 5, 6], [0, 1, 2, 3, 4, 5, 6, 8], [0, 1, 2, 3, 4, 5, 6, 7, 8, 9], [0, 1, 2, 3, 4, 5, 6, 7, 8, 9, 10], [0, 1, 2, 3, 4, 5, 6], [0, 1, 2, 3, 4, 5, 6, 7, 8, 9, 10, 11, 12], [0, 1, 2, 3, 4, 5, 6, 7, 8, 9, 10, 11, 12, 13], [0, 1, 2, 3, 4, 5, 6, 7, 8, 9, 10, 11, 12, 13, 14], [0, 1, 2, 3, 4, 5, 6, 7, 8, 9, 10, 11, 12, 13, 14, 15]], []⟩ else ⟨[], [], [], []⟩
def cfg32 : Cfg := ⟨[4], keep32, draw32⟩
theorem ok32 : codeOK PP cfg32 Go.Proofs.Try.f32.ntmps body32 = true := by kernel_rfl
/-! ### 33 parterre/venue.Reach -/
noncomputable def body33 : Code := match Go.Proofs.Try.f33.body with | some c => c | none => .skip
theorem fn33 : PP.funcs[33]? = some Go.Proofs.Try.f33 := Go.Proofs.Try.func33
theorem bodyEq33 : Go.Proofs.Try.f33.body = some body33 := rfl
def keep33 (i : Nat) : List Nat := (if i < 1 then [0] else [2])
def draw33 (i : Nat) : DrawInfo := ⟨[], [], [], []⟩
def cfg33 : Cfg := ⟨[], keep33, draw33⟩
theorem ok33 : codeOK PP cfg33 Go.Proofs.Try.f33.ntmps body33 = true := by kernel_rfl
/-! ### 34 parterre/venue.in -/
noncomputable def body34 : Code := match Go.Proofs.Try.f34.body with | some c => c | none => .skip
theorem fn34 : PP.funcs[34]? = some Go.Proofs.Try.f34 := Go.Proofs.Try.func34
theorem bodyEq34 : Go.Proofs.Try.f34.body = some body34 := rfl
def keep34 (i : Nat) : List Nat := (if i < 1 then [0, 1, 2] else [6])
def draw34 (i : Nat) : DrawInfo := ⟨[], [], [], []⟩
def cfg34 : Cfg := ⟨[], keep34, draw34⟩
theorem ok34 : codeOK PP cfg34 Go.Proofs.Try.f34.ntmps body34 = true := by kernel_rfl
/-! ### 35 parterre/venue.kills -/
noncomputable def body35 : Code := match Go.Proofs.Try.f35.body with | some c => c | none => .skip
theorem fn35 : PP.funcs[35]? = some Go.Proofs.Try.f35 := Go.Proofs.Try.func35
theorem bodyEq35 : Go.Proofs.Try.f35.body = some body35 := rfl
def keep35 (i : Nat) : List Nat := (if i < 4 then (if i < 2 then (if i < 1 then [0, 1] else [0, 1, 7, 8, 9]) else (if i < 3 then [0, 1, 7, 8, 9, 10] else [0, 1, 5, 6, 7, 8, 9])) else (if i < 6 then (if i < 5 then [0, 1, 7, 8, 9, 33] else [4]) else (if i < 7 then [0, 1, 7, 8, 9] else [4])))
def draw35 (i : Nat) : DrawInfo := ⟨[], [], [], []⟩
def cfg35 : Cfg := ⟨[], keep35, draw35⟩
theorem ok35 : codeOK PP cfg35 Go.Proofs.Try.f35.ntmps body35 = true := by kernel_rfl
/-! ### 36 parterre/venue.poles -/
noncomputable def body36 : Code := match Go.Proofs.Try.f36.body with | some c => c | none => .skip
theorem fn36 : PP.funcs[36]? = some Go.Proofs.Try.f36 := Go.Proofs.Try.func36
theorem bodyEq36 : Go.Proofs.Try.f36.body = some body36 := rfl
def keep36 (i : Nat) : List Nat := (if i < 4 then (if i < 2 then (if i < 1 then [0] else [0, 5, 6, 7]) else (if i < 3 then [0, 5, 6, 7, 8] else [0, 4, 5, 6, 7])) else (if i < 6 then (if i < 5 then [0, 5, 6, 7, 26] else [2]) else (if i < 7 then [0, 5, 6, 7] else [2])))
def draw36 (i : Nat) : DrawInfo := ⟨[], [], [], []⟩
def cfg36 : Cfg := ⟨[4], keep36, draw36⟩
theorem ok36 : codeOK PP cfg36 Go.Proofs.Try.f36.ntmps body36 = true := by kernel_rfl
/-! ### 37 parterre/parterreref2.seats -/
noncomputable def body37 : Code := match Go.Proofs.Try.f37.body with | some c => c | none => .skip
theorem fn37 : PP.funcs[37]? = some Go.Proofs.Try.f37 := Go.Proofs.Try.func37
theorem bodyEq37 : Go.Proofs.Try.f37.body = some body37 := rfl
def keep37 (i : Nat) : List Nat := (if i < 4 then (if i < 2 then (if i < 1 then [0] else [0, 3]) else (if i < 3 then [0, 3, 8] else [0, 3])) else (if i < 6 then (if i < 5 then [0, 3, 4] else [0, 3, 50]) else (if i < 7 then [2] else [2])))
def draw37 (i : Nat) : DrawInfo := if i = 5 then ⟨[], [0, 1, 2, 3, 4, 5, 6, 7, 8, 9, 10, 11, 12, 13, 14, 15, 16, 17, 18, 19, 20, 21, 22, 23, 24, 25, 26, 27, 28, 29, 30, 31, 32, 33, 34, 35], [[], [0], [0, 1], [0, 1, 2], [0, 1, 2, 3], [0, 1, 2, 3, 4], [0, 1, 2, 3, 4, 5], [0, 1, 2, 3, 4, 5, 6], [0, 1, 2, 3, 4, 5, 6, 7], [0, 1, 2, 3, 4, 5, 6, 7, 8], [0, 1, 2, 3, 4, 5, 6, 7, 8, 9], [0, 1, 2, 3, 4, 5, 6, 7, 8, 9, 10], [0, 1, 2, 3, 4, 5, 6, 7, 8, 9, 10, 11], [0, 1, 2, 3, 4, 5, 6, 7, 8, 9, 10, 11, 12], [0, 1, 2, 3, 4, 5, 6, 7, 8, 9, 10, 11, 12, 13], [0, 1, 2, 3, 4, 5, 6, 7, 8, 9, 10, 11, 12, 13, 14], [0, 1, 2, 3, 4, 5, 6, 7, 8, 9, 10, 11, 12, 13, 14, 15], [0, 1, 2, 3, 4, 5, 6, 7, 8, 9, 10, 11, 12, 13, 14, 15, 16], [0, 1, 2, 3, 4, 5, 6, 7, 8, 9, 10, 11, 12, 13, 14, 15, 16, 17], [0, 1, 2, 3, 4, 5, 6, 7, 8, 9, 10, 11, 12, 13, 14, 15, 16, 17, 18], [0, 1, 2, 3, 4, 5, 6, 7, 8, 9, 10, 11, 12, 13, 14, 15, 16, 17, 18, 19], [0, 1, 2, 3, 4, 5, 6, 7, 8, 9, 10, 11, 12, 13, 14, 15, 16, 17, 18, 19, 20], [0, 1, 2, 3, 4, 5, 6, 7, 8, 9, 10, 11, 12, 13, 14, 15, 16, 17, 18, 19, 20, 21], [0, 1, 2, 3, 4, 5, 6, 7, 8, 9, 10, 11, 12, 13, 14, 15, 16, 17, 18, 19, 20, 21, 22], [0, 1, 2, 3, 4, 5, 6, 7, 8, 9, 10, 11, 12, 13, 14, 15, 16, 17, 18, 19, 20, 21, 22, 23], [0, 1, 2, 3, 4, 5, 6, 7, 8, 9, 10, 11, 12, 13, 14, 15, 16, 17, 18, 19, 20, 21, 22, 23, 24], [0, 1, 2, 3, 4, 5, 6, 7, 8, 9, 10, 11, 12, 13, 14, 15, 16, 17, 18, 19, 20, 21, 22, 23, 24, 25], [0, 1, 2, 3, 4, 5, 6, 7, 8, 9, 10, 11, 12, 13, 14, 15, 16, 17, 18, 19, 20, 21, 22, 23, 24, 25], [0, 1, 2, 3, 4, 5, 6, 7, 8, 9, 10, 11, 12, 13, 14, 15, 16, 17, 18, 19, 20, 21, 22, 23, 24, 25, 27], [0, 1, 2, 3, 4, 5, 6, 7, 8, 9, 10, 11, 12, 13, 14, 15, 16, 17, 18, 19, 20, 21, 22, 23, 24, 25, 26, 27, 28], [0, 1, 2, 3, 4, 5, 6, 7, 8, 9, 10, 11, 12, 13, 14, 15, 16, 17, 18, 19, 20, 21, 22, 23, 24, 25, 26, 27, 28, 29], [0, 1, 2, 3, 4, 5, 6, 7, 8, 9, 10, 11, 12, 13, 14, 15, 16, 17, 18, 19, 20, 21, 22, 23, 24, 25], [0, 1, 2, 3, 4, 5, 6, 7, 8, 9, 10, 11, 12, 13, 14, 15, 16, 17, 18, 19, 20, 21, 22, 23, 24, 25, 26, 27, 28, 29, 30, 31], [0, 1, 2, 3, 4, 5, 6, 7, 8, 9, 10, 11, 12, 13, 14, 15, 16, 17, 18, 19, 20, 21, 22, 23, 24, 25, 26, 27, 28, 29, 30, 31, 32], [0, 1, 2, 3, 4, 5, 6, 7, 8, 9, 10, 11, 12, 13, 14, 15, 16, 17, 18, 19, 20, 21, 22, 23, 24, 25, 26, 27, 28, 29, 30, 31, 32, 33], [0, 1, 2, 3, 4, 5, 6, 7, 8, 9, 10, 11, 12, 13, 14, 15, 16, 17, 18, 19, 20, 21, 22, 23, 24, 25, 26, 27, 28, 29, 30, 31, 32, 33, 34]], []⟩ else ⟨[], [], [], []⟩
def cfg37 : Cfg := ⟨[4], keep37, draw37⟩
theorem ok37 : codeOK PP cfg37 Go.Proofs.Try.f37.ntmps body37 = true := by kernel_rfl
/-! ### 38 parterre/parterreref2.kills -/
noncomputable def body38 : Code := match Go.Proofs.Try.f38.body with | some c => c | none => .skip
theorem fn38 : PP.funcs[38]? = some Go.Proofs.Try.f38 := Go.Proofs.Try.func38
theorem bodyEq38 : Go.Proofs.Try.f38.body = some body38 := rfl
def keep38 (i : Nat) : List Nat := (if i < 3 then (if i < 1 then [0, 1] else (if i < 2 then [0, 1, 5] else [0, 1, 5, 9])) else (if i < 5 then (if i < 4 then [0, 1, 5] else [0, 1, 5, 35]) else (if i < 6 then [4] else [4])))
def draw38 (i : Nat) : DrawInfo := if i = 4 then ⟨[], [0, 1, 2, 3, 4, 5, 6, 7, 8, 9, 10, 11, 12, 13, 14, 15, 16, 17, 18, 19, 20, 21, 22, 23], [[], [], [0, 1], [0, 1, 2], [], [4], [0, 1, 2, 3, 4, 5], [0, 1, 2, 3, 4, 5, 6], [0, 1, 2, 3, 4, 5, 6, 7], [0, 1, 2, 3, 4, 5, 6, 7, 8], [0, 1, 2, 3, 4, 5, 6, 7, 8, 9], [0, 1, 2, 3, 4, 5, 6, 7, 8, 9, 10], [0, 1, 2, 3, 4, 5, 6, 7, 8, 9, 10, 11], [0, 1, 2, 3, 4, 5, 6, 7, 8, 9, 10, 11], [0, 1, 2, 3, 4, 5, 6, 7, 8, 9, 10, 11, 12, 13], [0, 1, 2, 3, 4, 5, 6, 7, 8, 9, 10, 11, 12, 13, 14], [0, 1, 2, 3, 4, 5, 6, 7, 8, 9, 10, 11], [0, 1, 2, 3, 4, 5, 6, 7, 8, 9, 10, 11], [0, 1, 2, 3, 4, 5, 6, 7, 8, 9, 10, 11, 17], [0, 1, 2, 3, 4, 5, 6, 7, 8, 9, 10, 11, 16, 17, 18], [0, 1, 2, 3, 4, 5, 6, 7, 8, 9, 10, 11, 16, 17, 18, 19], [0, 1, 2, 3, 4, 5, 6, 7, 8, 9, 10, 11, 12, 13, 14, 15, 16, 17, 18, 19, 20], [0, 1, 2, 3, 4, 5, 6, 7, 8, 9, 10, 11, 12, 13, 14, 15, 16, 17, 18, 19, 20, 21], [0, 1, 2, 3, 4, 5, 6, 7, 8, 9, 10, 11, 12, 13, 14, 15, 16, 17, 18, 19, 20, 21, 22]], []⟩ else ⟨[], [], [], []⟩
def cfg38 : Cfg := ⟨[], keep38, draw38⟩
theorem ok38 : codeOK PP cfg38 Go.Proofs.Try.f38.ntmps body38 = true := by kernel_rfl
/-! ### 39 parterre/parterreref2.poles -/
noncomputable def body39 : Code := match Go.Proofs.Try.f39.body with | some c => c | none => .skip
theorem fn39 : PP.funcs[39]? = some Go.Proofs.Try.f39 := Go.Proofs.Try.func39
theorem bodyEq39 : Go.Proofs.Try.f39.body = some body39 := rfl
def keep39 (i : Nat) : List Nat := (if i < 3 then (if i < 1 then [0] else (if i < 2 then [0, 3] else [0, 3, 7])) else (if i < 5 then (if i < 4 then [0, 3] else [0, 3, 34]) else (if i < 6 then [2] else [2])))
def draw39 (i : Nat) : DrawInfo := ⟨[], [], [], []⟩
def cfg39 : Cfg := ⟨[], keep39, draw39⟩
theorem ok39 : codeOK PP cfg39 Go.Proofs.Try.f39.ntmps body39 = true := by kernel_rfl
/-! ### 40 slices.Equal[[]parterre/api.Seat,parterre/api.Seat] -/
noncomputable def body40 : Code := match Go.Proofs.Try.f40.body with | some c => c | none => .skip
theorem fn40 : PP.funcs[40]? = some Go.Proofs.Try.f40 := Go.Proofs.Try.func40
theorem bodyEq40 : Go.Proofs.Try.f40.body = some body40 := rfl
def keep40 (i : Nat) : List Nat := (if i < 5 then (if i < 2 then (if i < 1 then [0, 1] else [0, 1, 10]) else (if i < 3 then [4] else (if i < 4 then [0, 1, 12, 13] else [0, 1, 12, 13, 14]))) else (if i < 7 then (if i < 6 then [0, 1, 5, 12, 13] else [0, 1, 12, 13, 24]) else (if i < 8 then [4] else (if i < 9 then [0, 1, 12, 13] else [4]))))
def draw40 (i : Nat) : DrawInfo := if i = 6 then ⟨[], [0, 1, 2, 3, 4, 5, 6, 7, 8], [[], [], [0, 1], [0, 1, 2], [], [], [4, 5], [4, 5, 6], [0, 1, 2, 3, 4, 5, 6, 7]], []⟩ else ⟨[], [], [], []⟩
def cfg40 : Cfg := ⟨[], keep40, draw40⟩
theorem ok40 : codeOK PP cfg40 Go.Proofs.Try.f40.ntmps body40 = true := by kernel_rfl
/-! ### 41 slices.Equal[[]int,int] -/
noncomputable def body41 : Code := match Go.Proofs.Try.f41.body with | some c => c | none => .skip
theorem fn41 : PP.funcs[41]? = some Go.Proofs.Try.f41 := Go.Proofs.Try.func41
theorem bodyEq41 : Go.Proofs.Try.f41.body = some body41 := rfl
def keep41 (i : Nat) : List Nat := (if i < 5 then (if i < 2 then (if i < 1 then [0, 1] else [0, 1, 10]) else (if i < 3 then [4] else (if i < 4 then [0, 1, 12, 13] else [0, 1, 12, 13, 14]))) else (if i < 7 then (if i < 6 then [0, 1, 5, 12, 13] else [0, 1, 12, 13, 24]) else (if i < 8 then [4] else (if i < 9 then [0, 1, 12, 13] else [4]))))
def draw41 (i : Nat) : DrawInfo := if i = 6 then ⟨[], [0, 1, 2, 3, 4, 5, 6, 7, 8], [[], [], [0, 1], [0, 1, 2], [], [], [4, 5], [4, 5, 6], [0, 1, 2, 3, 4, 5, 6, 7]], []⟩ else ⟨[], [], [], []⟩
def cfg41 : Cfg := ⟨[], keep41, draw41⟩
theorem ok41 : codeOK PP cfg41 Go.Proofs.Try.f41.ntmps body41 = true := by kernel_rfl
/-! ### 42 slices.Equal[[]parterre/api.Pole,parterre/api.Pole] -/
noncomputable def body42 : Code := match Go.Proofs.Try.f42.body with | some c => c | none => .skip
theorem fn42 : PP.funcs[42]? = some Go.Proofs.Try.f42 := Go.Proofs.Try.func42
theorem bodyEq42 : Go.Proofs.Try.f42.body = some body42 := rfl
def keep42 (i : Nat) : List Nat := (if i < 5 then (if i < 2 then (if i < 1 then [0, 1] else [0, 1, 10]) else (if i < 3 then [4] else (if i < 4 then [0, 1, 12, 13] else [0, 1, 12, 13, 14]))) else (if i < 7 then (if i < 6 then [0, 1, 5, 12, 13] else [0, 1, 12, 13, 24]) else (if i < 8 then [4] else (if i < 9 then [0, 1, 12, 13] else [4]))))
def draw42 (i : Nat) : DrawInfo := if i = 6 then ⟨[], [0, 1, 2, 3, 4, 5, 6, 7, 8], [[], [], [0, 1], [0, 1, 2], [], [], [4, 5], [4, 5, 6], [0, 1, 2, 3, 4, 5, 6, 7]], []⟩ else ⟨[], [], [], []⟩
def cfg42 : Cfg := ⟨[], keep42, draw42⟩
theorem ok42 : codeOK PP cfg42 Go.Proofs.Try.f42.ntmps body42 = true := by kernel_rfl
/-! ### 43 slices.pdqsortCmpFunc[parterre/api.Seat] -/
noncomputable def body43 : Code := match Go.Proofs.Try.f43.body with | some c => c | none => .skip
theorem fn43 : PP.funcs[43]? = some Go.Proofs.Try.f43 := Go.Proofs.Try.func43
theorem bodyEq43 : Go.Proofs.Try.f43.body = some body43 := rfl
def keep43 (i : Nat) : List Nat := (if i < 15 then (if i < 7 then (if i < 3 then (if i < 1 then [0, 1, 2, 3, 4, 10] else (if i < 2 then [0, 1, 2, 3, 4, 10, 11] else [0, 1, 2, 3, 4, 10, 11, 12])) else (if i < 5 then (if i < 4 then [0, 1, 2, 3, 4, 10, 11, 12, 25] else []) else (if i < 6 then [0, 1, 2, 3, 4, 10, 11, 12, 32] else []))) else (if i < 11 then (if i < 9 then (if i < 8 then [0, 1, 2, 3, 4, 10, 11, 12, 39] else [0, 1, 2, 3, 4, 10, 11, 12]) else (if i < 10 then [0, 1, 2, 3, 4, 10, 11, 12] else [0, 1, 2, 3, 4, 10, 11, 12, 13, 14])) else (if i < 13 then (if i < 12 then [0, 1, 2, 3, 4, 10, 11, 12, 13, 14, 56] else [0, 1, 2, 3, 4, 10, 11, 12, 13]) else (if i < 14 then [0, 1, 2, 3, 4, 10, 11, 12, 13] else [0, 1, 2, 3, 4, 10, 11, 12, 13, 14])))) else (if i < 23 then (if i < 19 then (if i < 17 then (if i < 16 then [0, 1, 2, 3, 4, 10, 11, 12, 13, 75] else [0, 1, 2, 3, 4, 10, 11, 12, 13, 80]) else (if i < 18 then [0, 1, 2, 3, 4, 10, 11, 12, 13, 97] else [0, 2, 3, 4, 10, 11, 15])) else (if i < 21 then (if i < 20 then [0, 1, 2, 3, 4, 10, 11] else [0, 1, 2, 3, 4, 12, 16, 17]) else (if i < 22 then [0, 1, 2, 3, 4, 11, 12, 16] else [0, 1, 2, 3, 4, 11, 12, 16, 18, 19]))) else (if i < 27 then (if i < 25 then (if i < 24 then [0, 1, 2, 3, 4, 11, 16, 18, 19, 20] else [0, 1, 2, 3, 4, 11, 16, 18, 19, 20, 125]) else (if i < 26 then [0, 1, 2, 3, 4, 10, 11, 16] else [0, 2, 3, 4, 10, 11, 16])) else (if i < 29 then (if i < 28 then [0, 1, 2, 3, 4, 10, 11] else [0, 1, 2, 3, 4, 10, 11, 16]) else (if i < 30 then [0, 1, 3, 4, 10, 11, 16] else [0, 1, 2, 3, 4, 10, 11])))))
def draw43 (i : Nat) : DrawInfo := if i = 17 then ⟨[], [0, 1, 2, 3, 4, 5, 6, 7, 8, 9, 10, 11, 12, 13, 14, 15, 16], [[], [0], [0, 1], [0, 1, 2], [0, 1, 2], [0, 1, 2], [0, 1, 2, 5], [0, 1, 2, 4, 5, 6], [0, 1, 2, 4, 5, 6, 7], [0, 1, 2], [0, 1, 2], [0, 1, 2, 9, 10], [0, 1, 2, 9, 10, 11], [0, 1, 2, 3, 4, 5, 6, 7, 8, 9, 10, 11, 12], [0, 1, 2, 3, 4, 5, 6, 7, 8, 9, 10, 11, 12, 13], [0, 1, 2, 3, 4, 5, 6, 7, 8, 9, 10, 11, 12, 13, 14], [0, 1, 2, 3, 4, 5, 6, 7, 8, 9, 10, 11, 12, 13, 14, 15]], []⟩ else ⟨[], [], [], []⟩
def cfg43 : Cfg := ⟨[], keep43, draw43⟩
theorem ok43 : codeOK PP cfg43 Go.Proofs.Try.f43.ntmps body43 = true := by kernel_rfl
/-! ### 44 math/bits.Len -/
noncomputable def body44 : Code := match Go.Proofs.Try.f44.body with | some c => c | none => .skip
theorem fn44 : PP.funcs[44]? = some Go.Proofs.Try.f44 := Go.Proofs.Try.func44
theorem bodyEq44 : Go.Proofs.Try.f44.body = some body44 := rfl
def keep44 (i : Nat) : List Nat := (if i < 1 then [0] else (if i < 2 then [2] else [2]))
def draw44 (i : Nat) : DrawInfo := ⟨[], [], [], []⟩
def cfg44 : Cfg := ⟨[], keep44, draw44⟩
theorem ok44 : codeOK PP cfg44 Go.Proofs.Try.f44.ntmps body44 = true := by kernel_rfl
/-! ### 45 slices.pdqsortOrdered[int] -/
noncomputable def body45 : Code := match Go.Proofs.Try.f45.body with | some c => c | none => .skip
theorem fn45 : PP.funcs[45]? = some Go.Proofs.Try.f45 := Go.Proofs.Try.func45
theorem bodyEq45 : Go.Proofs.Try.f45.body = some body45 := rfl
def keep45 (i : Nat) : List Nat := (if i < 15 then (if i < 7 then (if i < 3 then (if i < 1 then [0, 1, 2, 3, 8] else (if i < 2 then [0, 1, 2, 3, 8, 9] else [0, 1, 2, 3, 8, 9, 10])) else (if i < 5 then (if i < 4 then [0, 1, 2, 3, 8, 9, 10, 23] else []) else (if i < 6 then [0, 1, 2, 3, 8, 9, 10, 29] else []))) else (if i < 11 then (if i < 9 then (if i < 8 then [0, 1, 2, 3, 8, 9, 10, 35] else [0, 1, 2, 3, 8, 9, 10]) else (if i < 10 then [0, 1, 2, 3, 8, 9, 10] else [0, 1, 2, 3, 8, 9, 10, 11, 12])) else (if i < 13 then (if i < 12 then [0, 1, 2, 3, 8, 9, 10, 11, 12, 50] else [0, 1, 2, 3, 8, 9, 10, 11]) else (if i < 14 then [0, 1, 2, 3, 8, 9, 10, 11] else [0, 1, 2, 3, 8, 9, 10, 11, 12])))) else (if i < 23 then (if i < 19 then (if i < 17 then (if i < 16 then [0, 1, 2, 3, 8, 9, 10, 11, 68] else [0, 1, 2, 3, 8, 9, 10, 11, 72]) else (if i < 18 then [0, 1, 2, 3, 8, 9, 10, 11, 87] else [0, 2, 3, 8, 9, 13])) else (if i < 21 then (if i < 20 then [0, 1, 2, 3, 8, 9] else [0, 1, 2, 3, 10, 14, 15]) else (if i < 22 then [0, 1, 2, 3, 9, 10, 14] else [0, 1, 2, 3, 9, 10, 14, 16, 17]))) else (if i < 27 then (if i < 25 then (if i < 24 then [0, 1, 2, 3, 9, 14, 16, 17, 18] else [0, 1, 2, 3, 9, 14, 16, 17, 18, 113]) else (if i < 26 then [0, 1, 2, 3, 8, 9, 14] else [0, 2, 3, 8, 9, 14])) else (if i < 29 then (if i < 28 then [0, 1, 2, 3, 8, 9] else [0, 1, 2, 3, 8, 9, 14]) else (if i < 30 then [0, 1, 3, 8, 9, 14] else [0, 1, 2, 3, 8, 9])))))
def draw45 (i : Nat) : DrawInfo := if i = 17 then ⟨[], [0, 1, 2, 3, 4, 5, 6, 7, 8, 9, 10, 11, 12, 13, 14], [[], [0], [0, 1], [0, 1, 2], [0, 1, 2], [0, 1, 2, 4], [0, 1, 2, 3, 4, 5], [0, 1, 2, 3, 4, 5, 6], [0, 1, 2], [0, 1, 2], [0, 1, 2, 8, 9], [0, 1, 2, 8, 9, 10], [0, 1, 2, 3, 4, 5, 6, 7, 8, 9, 10, 11], [0, 1, 2, 3, 4, 5, 6, 7, 8, 9, 10, 11, 12], [0, 1, 2, 3, 4, 5, 6, 7, 8, 9, 10, 11, 12, 13]], []⟩ else ⟨[], [], [], []⟩
def cfg45 : Cfg := ⟨[], keep45, draw45⟩
theorem ok45 : codeOK PP cfg45 Go.Proofs.Try.f45.ntmps body45 = true := by kernel_rfl
/-! ### 46 parterre/venue.seat -/
noncomputable def body46 : Code := match Go.Proofs.Try.f46.body with | some c => c | none => .skip
theorem fn46 : PP.funcs[46]? = some Go.Proofs.Try.f46 := Go.Proofs.Try.func46
theorem bodyEq46 : Go.Proofs.Try.f46.body = some body46 := rfl
def keep46 (i : Nat) : List Nat := (if i < 3 then (if i < 1 then [1] else (if i < 2 then [1, 4] else [1, 4, 5])) else (if i < 5 then (if i < 4 then [1, 4, 7] else [1, 9]) else (if i < 6 then [2] else [2])))
def draw46 (i : Nat) : DrawInfo := ⟨[], [], [], []⟩
def cfg46 : Cfg := ⟨[1], keep46, draw46⟩
theorem ok46 : codeOK PP cfg46 Go.Proofs.Try.f46.ntmps body46 = true := by kernel_rfl
/-! ### 47 parterre/venue.Coord -/
noncomputable def body47 : Code := match Go.Proofs.Try.f47.body with | some c => c | none => .skip
theorem fn47 : PP.funcs[47]? = some Go.Proofs.Try.f47 := Go.Proofs.Try.func47
theorem bodyEq47 : Go.Proofs.Try.f47.body = some body47 := rfl
def keep47 (i : Nat) : List Nat := (if i < 1 then [0] else [2])
def draw47 (i : Nat) : DrawInfo := ⟨[], [], [], []⟩
def cfg47 : Cfg := ⟨[], keep47, draw47⟩
theorem ok47 : codeOK PP cfg47 Go.Proofs.Try.f47.ntmps body47 = true := by kernel_rfl
/-! ### 48 parterre/parterreref2.coord -/
noncomputable def body48 : Code := match Go.Proofs.Try.f48.body with | some c => c | none => .skip
theorem fn48 : PP.funcs[48]? = some Go.Proofs.Try.f48 := Go.Proofs.Try.func48
theorem bodyEq48 : Go.Proofs.Try.f48.body = some body48 := rfl
def keep48 (i : Nat) : List Nat := (if i < 1 then [0] else [2])
def draw48 (i : Nat) : DrawInfo := ⟨[], [], [], []⟩
def cfg48 : Cfg := ⟨[], keep48, draw48⟩
theorem ok48 : codeOK PP cfg48 Go.Proofs.Try.f48.ntmps body48 = true := by kernel_rfl
/-! ### 49 slices.insertionSortCmpFunc[parterre/api.Seat] -/
noncomputable def body49 : Code := match Go.Proofs.Try.f49.body with | some c => c | none => .skip
theorem fn49 : PP.funcs[49]? = some Go.Proofs.Try.f49 := Go.Proofs.Try.func49
theorem bodyEq49 : Go.Proofs.Try.f49.body = some body49 := rfl
def keep49 (i : Nat) : List Nat := (if i < 3 then (if i < 1 then [0, 1, 2, 3, 8] else (if i < 2 then [0, 1, 2, 3, 8, 14] else [0, 1, 2, 3, 8])) else (if i < 5 then (if i < 4 then [0, 1, 2, 3, 8, 9] else [0, 1, 2, 3, 8, 9, 34]) else (if i < 6 then [0, 1, 2, 3, 8, 9] else [0, 1, 2, 3, 8, 9])))
def draw49 (i : Nat) : DrawInfo := if i = 4 then ⟨[], [0, 1, 2, 3, 4, 5, 6, 7, 8, 9, 10, 11, 12, 13, 14, 15, 16], [[], [], [0, 1], [0, 1, 2], [0, 1, 2, 3], [0, 1, 2, 3], [0, 1, 2, 3], [0, 1, 2, 3, 5, 6], [0, 1, 2, 3, 5, 6, 7], [0, 1, 2, 3], [0, 1, 2, 3], [0, 1, 2, 3, 10], [0, 1, 2, 3, 9, 10, 11], [0, 1, 2, 3, 9, 10, 11, 12], [0, 1, 2, 3, 4, 5, 6, 7, 8, 9, 10, 11, 12, 13], [0, 1, 2, 3, 4, 5, 6, 7, 8, 9, 10, 11, 12, 13, 14], [0, 1, 2, 3, 4, 5, 6, 7, 8, 9, 10, 11, 12, 13, 14, 15]], []⟩ else if i = 6 then ⟨[], [0, 1, 2, 3, 4, 5, 6, 7, 8, 9, 10, 11, 12, 13, 14, 15, 16, 17], [[], [], [], [], [3], [], [], [6], [5, 6, 7], [5, 6, 7, 8], [], [], [10, 11], [10, 11, 12], [0, 1, 5, 6, 7, 8, 9, 10, 11, 12, 13], [0, 1, 5, 6, 7, 8, 9, 10, 11, 12, 13, 14], [0, 1, 2, 3, 4, 5, 6, 7, 8, 9, 10, 11, 12, 13, 14, 15], [0, 1, 2, 3, 4, 5, 6, 7, 8, 9, 10, 11, 12, 13, 14, 15, 16]], []⟩ else ⟨[], [], [], []⟩
def cfg49 : Cfg := ⟨[], keep49, draw49⟩
theorem ok49 : codeOK PP cfg49 Go.Proofs.Try.f49.ntmps body49 = true := by kernel_rfl
/-! ### 57 math/bits.Len32 -/
noncomputable def body57 : Code := match Go.Proofs.Try.f57.body with | some c => c | none => .skip
theorem fn57 : PP.funcs[57]? = some Go.Proofs.Try.f57 := Go.Proofs.Try.func57
theorem bodyEq57 : Go.Proofs.Try.f57.body = some body57 := rfl
def keep57 (i : Nat) : List Nat := (if i < 4 then (if i < 2 then (if i < 1 then [0, 2] else [0, 2, 4]) else (if i < 3 then [0] else [0, 2])) else (if i < 6 then (if i < 5 then [0, 2, 8] else [0, 2]) else (if i < 7 then [0, 2] else [2])))
def draw57 (i : Nat) : DrawInfo := ⟨[], [], [], []⟩
def cfg57 : Cfg := ⟨[], keep57, draw57⟩
theorem ok57 : codeOK PP cfg57 Go.Proofs.Try.f57.ntmps body57 = true := by kernel_rfl
/-! ### 58 math/bits.Len64 -/
noncomputable def body58 : Code := match Go.Proofs.Try.f58.body with | some c => c | none => .skip
theorem fn58 : PP.funcs[58]? = some Go.Proofs.Try.f58 := Go.Proofs.Try.func58
theorem bodyEq58 : Go.Proofs.Try.f58.body = some body58 := rfl
def keep58 (i : Nat) : List Nat := (if i < 5 then (if i < 2 then (if i < 1 then [0, 2] else [0, 2, 4]) else (if i < 3 then [0] else (if i < 4 then [0, 2] else [0, 2, 8]))) else (if i < 8 then (if i < 6 then [0, 2] else (if i < 7 then [0, 2] else [0, 2, 14])) else (if i < 9 then [0, 2] else (if i < 10 then [0, 2] else [2]))))
def draw58 (i : Nat) : DrawInfo := ⟨[], [], [], []⟩
def cfg58 : Cfg := ⟨[], keep58, draw58⟩
theorem ok58 : codeOK PP cfg58 Go.Proofs.Try.f58.ntmps body58 = true := by kernel_rfl
/-! ### 59 slices.insertionSortOrdered[int] -/
noncomputable def body59 : Code := match Go.Proofs.Try.f59.body with | some c => c | none => .skip
theorem fn59 : PP.funcs[59]? = some Go.Proofs.Try.f59 := Go.Proofs.Try.func59
theorem bodyEq59 : Go.Proofs.Try.f59.body = some body59 := rfl
def keep59 (i : Nat) : List Nat := (if i < 3 then (if i < 1 then [0, 1, 2, 6] else (if i < 2 then [0, 1, 2, 6, 12] else [0, 1, 2, 6])) else (if i < 5 then (if i < 4 then [0, 1, 2, 6, 7] else [0, 1, 2, 6, 7, 30]) else (if i < 6 then [0, 1, 2, 6, 7] else [0, 1, 2, 6, 7])))
def draw59 (i : Nat) : DrawInfo := if i = 4 then ⟨[], [0, 1, 2, 3, 4, 5, 6, 7, 8, 9, 10, 11, 12, 13, 14], [[], [], [0, 1], [0, 1, 2], [0, 1, 2, 3], [0, 1, 2, 3], [0, 1, 2, 3, 4, 5], [0, 1, 2, 3, 4, 5, 6], [0, 1, 2, 3], [0, 1, 2, 3], [0, 1, 2, 3, 9], [0, 1, 2, 3, 8, 9, 10], [0, 1, 2, 3, 8, 9, 10, 11], [0, 1, 2, 3, 4, 5, 6, 7, 8, 9, 10, 11, 12], [0, 1, 2, 3, 4, 5, 6, 7, 8, 9, 10, 11, 12, 13]], []⟩ else if i = 6 then ⟨[], [0, 1, 2, 3, 4, 5, 6, 7, 8, 9, 10, 11, 12, 13, 14, 15, 16, 17], [[], [], [], [], [3], [], [], [6], [5, 6, 7], [5, 6, 7, 8], [], [], [10, 11], [10, 11, 12], [0, 1, 5, 6, 7, 8, 9, 10, 11, 12, 13], [0, 1, 5, 6, 7, 8, 9, 10, 11, 12, 13, 14], [0, 1, 2, 3, 4, 5, 6, 7, 8, 9, 10, 11, 12, 13, 14, 15], [0, 1, 2, 3, 4, 5, 6, 7, 8, 9, 10, 11, 12, 13, 14, 15, 16]], []⟩ else ⟨[], [], [], []⟩
def cfg59 : Cfg := ⟨[], keep59, draw59⟩
theorem ok59 : codeOK PP cfg59 Go.Proofs.Try.f59.ntmps body59 = true := by kernel_rfl
/-! ### 68 parterre/venue.Row -/
noncomputable def body68 : Code := match Go.Proofs.Try.f68.body with | some c => c | none => .skip
theorem fn68 : PP.funcs[68]? = some Go.Proofs.Try.f68 := Go.Proofs.Try.func68
theorem bodyEq68 : Go.Proofs.Try.f68.body = some body68 := rfl
def keep68 (i : Nat) : List Nat := (if i < 1 then [0] else [2])
def draw68 (i : Nat) : DrawInfo := ⟨[], [], [], []⟩
def cfg68 : Cfg := ⟨[], keep68, draw68⟩
theorem ok68 : codeOK PP cfg68 Go.Proofs.Try.f68.ntmps body68 = true := by kernel_rfl
/-! ### types -/
theorem un3 : PP.underlying 3 = some (Go.TypeDesc.int Go.IntKind.i64) := by kernel_rfl
theorem sz3 : szT PP 3 = some 1 := by kernel_rfl
theorem co3 : PP.cellsOf 3 = 1 := by kernel_rfl
theorem by3 : bytesT PP 3 = some 8 := by kernel_rfl
theorem ag3 : aggT PP 3 = some false := by kernel_rfl
theorem ze3 : zeroT PP 3 = some [(Go.Value.int Go.IntKind.i64 0)] := by kernel_rfl
theorem un4 : PP.underlying 4 = some Go.TypeDesc.bool := by kernel_rfl
theorem sz4 : szT PP 4 = some 1 := by kernel_rfl
theorem co4 : PP.cellsOf 4 = 1 := by kernel_rfl
theorem by4 : bytesT PP 4 = some 1 := by kernel_rfl
theorem ag4 : aggT PP 4 = some false := by kernel_rfl
theorem ze4 : zeroT PP 4 = some [(Go.Value.bool false)] := by kernel_rfl
theorem un5 : PP.underlying 5 = some (Go.TypeDesc.int Go.IntKind.u8) := by kernel_rfl
theorem sz5 : szT PP 5 = some 1 := by kernel_rfl
theorem co5 : PP.cellsOf 5 = 1 := by kernel_rfl
theorem by5 : bytesT PP 5 = some 1 := by kernel_rfl
theorem ag5 : aggT PP 5 = some false := by kernel_rfl
theorem ze5 : zeroT PP 5 = some [(Go.Value.int Go.IntKind.u8 0)] := by kernel_rfl
theorem un9 : PP.underlying 9 = some Go.TypeDesc.string := by kernel_rfl
theorem sz9 : szT PP 9 = some 1 := by kernel_rfl
theorem co9 : PP.cellsOf 9 = 1 := by kernel_rfl
theorem by9 : bytesT PP 9 = some 16 := by kernel_rfl
theorem ag9 : aggT PP 9 = some false := by kernel_rfl
theorem ze9 : zeroT PP 9 = some [(Go.Value.string { data := #[] })] := by kernel_rfl
theorem un22 : PP.underlying 22 = some (Go.TypeDesc.slice 34) := by kernel_rfl
theorem sz22 : szT PP 22 = some 1 := by kernel_rfl
theorem co22 : PP.cellsOf 22 = 1 := by kernel_rfl
theorem by22 : bytesT PP 22 = some 24 := by kernel_rfl
theorem ag22 : aggT PP 22 = some false := by kernel_rfl
theorem ze22 : zeroT PP 22 = some [(Go.Value.slice none 0 0)] := by kernel_rfl
theorem el22 : elemT PP 22 = some (34, 4) := by kernel_rfl
theorem un23 : PP.underlying 23 = some (Go.TypeDesc.slice 3) := by kernel_rfl
theorem sz23 : szT PP 23 = some 1 := by kernel_rfl
theorem co23 : PP.cellsOf 23 = 1 := by kernel_rfl
theorem by23 : bytesT PP 23 = some 24 := by kernel_rfl
theorem ag23 : aggT PP 23 = some false := by kernel_rfl
theorem ze23 : zeroT PP 23 = some [(Go.Value.slice none 0 0)] := by kernel_rfl
theorem el23 : elemT PP 23 = some (3, 1) := by kernel_rfl
theorem un24 : PP.underlying 24 = some (Go.TypeDesc.slice 39) := by kernel_rfl
theorem sz24 : szT PP 24 = some 1 := by kernel_rfl
theorem co24 : PP.cellsOf 24 = 1 := by kernel_rfl
theorem by24 : bytesT PP 24 = some 24 := by kernel_rfl
theorem ag24 : aggT PP 24 = some false := by kernel_rfl
theorem ze24 : zeroT PP 24 = some [(Go.Value.slice none 0 0)] := by kernel_rfl
theorem el24 : elemT PP 24 = some (39, 3) := by kernel_rfl
theorem un26 : PP.underlying 26 = some (Go.TypeDesc.struct #[{ name := "Seats", type := 22, offset := 0, embedded := false, tag := "", pkgPath := "", byteOffset := 0 }, { name := "Gap", type := 3, offset := 1, embedded := false, tag := "", pkgPath := "", byteOffset := 24 }, { name := "Radius", type := 3, offset := 2, embedded := false, tag := "", pkgPath := "", byteOffset := 32 }, { name := "Kills", type := 23, offset := 3, embedded := false, tag := "", pkgPath := "", byteOffset := 40 }, { name := "Poles", type := 24, offset := 4, embedded := false, tag := "", pkgPath := "", byteOffset := 64 }]) := by kernel_rfl
theorem sz26 : szT PP 26 = some 5 := by kernel_rfl
theorem co26 : PP.cellsOf 26 = 5 := by kernel_rfl
theorem by26 : bytesT PP 26 = some 88 := by kernel_rfl
theorem ag26 : aggT PP 26 = some true := by kernel_rfl
theorem ze26 : zeroT PP 26 = some [(Go.Value.slice none 0 0), (Go.Value.int Go.IntKind.i64 0), (Go.Value.int Go.IntKind.i64 0), (Go.Value.slice none 0 0), (Go.Value.slice none 0 0)] := by kernel_rfl
theorem gt26 : PP.eqGuardType PP.depth 26 = false := by kernel_rfl
theorem st26 : PP.stoodInHeld 26 = false := by kernel_rfl
theorem of26x0 : offT PP 26 0 = some (0, 22, 1) := by kernel_rfl
theorem of26x1 : offT PP 26 1 = some (1, 3, 1) := by kernel_rfl
theorem of26x2 : offT PP 26 2 = some (2, 3, 1) := by kernel_rfl
theorem of26x3 : offT PP 26 3 = some (3, 23, 1) := by kernel_rfl
theorem of26x4 : offT PP 26 4 = some (4, 24, 1) := by kernel_rfl
theorem pl26 : placesT PP #[{ name := "Seats", type := 22, offset := 0, embedded := false, tag := "", pkgPath := "", byteOffset := 0 }, { name := "Gap", type := 3, offset := 1, embedded := false, tag := "", pkgPath := "", byteOffset := 24 }, { name := "Radius", type := 3, offset := 2, embedded := false, tag := "", pkgPath := "", byteOffset := 32 }, { name := "Kills", type := 23, offset := 3, embedded := false, tag := "", pkgPath := "", byteOffset := 40 }, { name := "Poles", type := 24, offset := 4, embedded := false, tag := "", pkgPath := "", byteOffset := 64 }].toList = some [(0, 1), (1, 1), (2, 1), (3, 1), (4, 1)] := by kernel_rfl
theorem bu26 (σ : St) (parts : Array (Nat × Operand)) : opBuild PP σ 26 parts = (match partsA σ parts.toList with | some ps => (match fillL (fun i => ([(0, 1), (1, 1), (2, 1), (3, 1), (4, 1)] : List (Nat × Nat))[i]?) [(Go.Value.slice none 0 0), (Go.Value.int Go.IntKind.i64 0), (Go.Value.int Go.IntKind.i64 0), (Go.Value.slice none 0 0), (Go.Value.slice none 0 0)] ps with | some out => some (.agg ⟨out⟩, σ) | none => none) | none => none) := by
  unfold opBuild; rw [un26]; simp only []; rw [pl26, ze26]; cases partsA σ parts.toList <;> rfl
theorem un34 : PP.underlying 34 = some (Go.TypeDesc.struct #[{ name := "Row", type := 3, offset := 0, embedded := false, tag := "", pkgPath := "", byteOffset := 0 }, { name := "X", type := 3, offset := 1, embedded := false, tag := "", pkgPath := "", byteOffset := 8 }, { name := "Y", type := 3, offset := 2, embedded := false, tag := "", pkgPath := "", byteOffset := 16 }, { name := "Kind", type := 3, offset := 3, embedded := false, tag := "", pkgPath := "", byteOffset := 24 }]) := by kernel_rfl
theorem sz34 : szT PP 34 = some 4 := by kernel_rfl
theorem co34 : PP.cellsOf 34 = 4 := by kernel_rfl
theorem by34 : bytesT PP 34 = some 32 := by kernel_rfl
theorem ag34 : aggT PP 34 = some true := by kernel_rfl
theorem ze34 : zeroT PP 34 = some [(Go.Value.int Go.IntKind.i64 0), (Go.Value.int Go.IntKind.i64 0), (Go.Value.int Go.IntKind.i64 0), (Go.Value.int Go.IntKind.i64 0)] := by kernel_rfl
theorem gt34 : PP.eqGuardType PP.depth 34 = false := by kernel_rfl
theorem st34 : PP.stoodInHeld 34 = false := by kernel_rfl
theorem of34x0 : offT PP 34 0 = some (0, 3, 1) := by kernel_rfl
theorem of34x1 : offT PP 34 1 = some (1, 3, 1) := by kernel_rfl
theorem of34x2 : offT PP 34 2 = some (2, 3, 1) := by kernel_rfl
theorem of34x3 : offT PP 34 3 = some (3, 3, 1) := by kernel_rfl
theorem pl34 : placesT PP #[{ name := "Row", type := 3, offset := 0, embedded := false, tag := "", pkgPath := "", byteOffset := 0 }, { name := "X", type := 3, offset := 1, embedded := false, tag := "", pkgPath := "", byteOffset := 8 }, { name := "Y", type := 3, offset := 2, embedded := false, tag := "", pkgPath := "", byteOffset := 16 }, { name := "Kind", type := 3, offset := 3, embedded := false, tag := "", pkgPath := "", byteOffset := 24 }].toList = some [(0, 1), (1, 1), (2, 1), (3, 1)] := by kernel_rfl
theorem bu34 (σ : St) (parts : Array (Nat × Operand)) : opBuild PP σ 34 parts = (match partsA σ parts.toList with | some ps => (match fillL (fun i => ([(0, 1), (1, 1), (2, 1), (3, 1)] : List (Nat × Nat))[i]?) [(Go.Value.int Go.IntKind.i64 0), (Go.Value.int Go.IntKind.i64 0), (Go.Value.int Go.IntKind.i64 0), (Go.Value.int Go.IntKind.i64 0)] ps with | some out => some (.agg ⟨out⟩, σ) | none => none) | none => none) := by
  unfold opBuild; rw [un34]; simp only []; rw [pl34, ze34]; cases partsA σ parts.toList <;> rfl
theorem un36 : PP.underlying 36 = some (Go.TypeDesc.slice 9) := by kernel_rfl
theorem sz36 : szT PP 36 = some 1 := by kernel_rfl
theorem co36 : PP.cellsOf 36 = 1 := by kernel_rfl
theorem by36 : bytesT PP 36 = some 24 := by kernel_rfl
theorem ag36 : aggT PP 36 = some false := by kernel_rfl
theorem ze36 : zeroT PP 36 = some [(Go.Value.slice none 0 0)] := by kernel_rfl
theorem el36 : elemT PP 36 = some (9, 1) := by kernel_rfl
theorem un37 : PP.underlying 37 = some (Go.TypeDesc.int Go.IntKind.u64) := by kernel_rfl
theorem sz37 : szT PP 37 = some 1 := by kernel_rfl
theorem co37 : PP.cellsOf 37 = 1 := by kernel_rfl
theorem by37 : bytesT PP 37 = some 8 := by kernel_rfl
theorem ag37 : aggT PP 37 = some false := by kernel_rfl
theorem ze37 : zeroT PP 37 = some [(Go.Value.int Go.IntKind.u64 0)] := by kernel_rfl
theorem un39 : PP.underlying 39 = some (Go.TypeDesc.struct #[{ name := "X", type := 3, offset := 0, embedded := false, tag := "", pkgPath := "", byteOffset := 0 }, { name := "Y", type := 3, offset := 1, embedded := false, tag := "", pkgPath := "", byteOffset := 8 }, { name := "R", type := 3, offset := 2, embedded := false, tag := "", pkgPath := "", byteOffset := 16 }]) := by kernel_rfl
theorem sz39 : szT PP 39 = some 3 := by kernel_rfl
theorem co39 : PP.cellsOf 39 = 3 := by kernel_rfl
theorem by39 : bytesT PP 39 = some 24 := by kernel_rfl
theorem ag39 : aggT PP 39 = some true := by kernel_rfl
theorem ze39 : zeroT PP 39 = some [(Go.Value.int Go.IntKind.i64 0), (Go.Value.int Go.IntKind.i64 0), (Go.Value.int Go.IntKind.i64 0)] := by kernel_rfl
theorem gt39 : PP.eqGuardType PP.depth 39 = false := by kernel_rfl
theorem st39 : PP.stoodInHeld 39 = false := by kernel_rfl
theorem of39x0 : offT PP 39 0 = some (0, 3, 1) := by kernel_rfl
theorem of39x1 : offT PP 39 1 = some (1, 3, 1) := by kernel_rfl
theorem of39x2 : offT PP 39 2 = some (2, 3, 1) := by kernel_rfl
theorem pl39 : placesT PP #[{ name := "X", type := 3, offset := 0, embedded := false, tag := "", pkgPath := "", byteOffset := 0 }, { name := "Y", type := 3, offset := 1, embedded := false, tag := "", pkgPath := "", byteOffset := 8 }, { name := "R", type := 3, offset := 2, embedded := false, tag := "", pkgPath := "", byteOffset := 16 }].toList = some [(0, 1), (1, 1), (2, 1)] := by kernel_rfl
theorem bu39 (σ : St) (parts : Array (Nat × Operand)) : opBuild PP σ 39 parts = (match partsA σ parts.toList with | some ps => (match fillL (fun i => ([(0, 1), (1, 1), (2, 1)] : List (Nat × Nat))[i]?) [(Go.Value.int Go.IntKind.i64 0), (Go.Value.int Go.IntKind.i64 0), (Go.Value.int Go.IntKind.i64 0)] ps with | some out => some (.agg ⟨out⟩, σ) | none => none) | none => none) := by
  unfold opBuild; rw [un39]; simp only []; rw [pl39, ze39]; cases partsA σ parts.toList <;> rfl
theorem un48 : PP.underlying 48 = some (Go.TypeDesc.func #[34, 34] #[3] false) := by kernel_rfl
theorem sz48 : szT PP 48 = some 1 := by kernel_rfl
theorem co48 : PP.cellsOf 48 = 1 := by kernel_rfl
theorem by48 : bytesT PP 48 = some 8 := by kernel_rfl
theorem ag48 : aggT PP 48 = some false := by kernel_rfl
theorem ze48 : zeroT PP 48 = some [Go.Value.nilFunc] := by kernel_rfl
theorem un50 : PP.underlying 50 = some (Go.TypeDesc.func #[34] #[4] false) := by kernel_rfl
theorem sz50 : szT PP 50 = some 1 := by kernel_rfl
theorem co50 : PP.cellsOf 50 = 1 := by kernel_rfl
theorem by50 : bytesT PP 50 = some 8 := by kernel_rfl
theorem ag50 : aggT PP 50 = some false := by kernel_rfl
theorem ze50 : zeroT PP 50 = some [Go.Value.nilFunc] := by kernel_rfl
theorem un64 : PP.underlying 64 = some (Go.TypeDesc.int Go.IntKind.i64) := by kernel_rfl
theorem sz64 : szT PP 64 = some 1 := by kernel_rfl
theorem co64 : PP.cellsOf 64 = 1 := by kernel_rfl
theorem by64 : bytesT PP 64 = some 8 := by kernel_rfl
theorem ag64 : aggT PP 64 = some false := by kernel_rfl
theorem ze64 : zeroT PP 64 = some [(Go.Value.int Go.IntKind.i64 0)] := by kernel_rfl
theorem un72 : PP.underlying 72 = some (Go.TypeDesc.int Go.IntKind.u32) := by kernel_rfl
theorem sz72 : szT PP 72 = some 1 := by kernel_rfl
theorem co72 : PP.cellsOf 72 = 1 := by kernel_rfl
theorem by72 : bytesT PP 72 = some 4 := by kernel_rfl
theorem ag72 : aggT PP 72 = some false := by kernel_rfl
theorem ze72 : zeroT PP 72 = some [(Go.Value.int Go.IntKind.u32 0)] := by kernel_rfl
theorem un74 : PP.underlying 74 = some (Go.TypeDesc.int Go.IntKind.u64) := by kernel_rfl
theorem sz74 : szT PP 74 = some 1 := by kernel_rfl
theorem co74 : PP.cellsOf 74 = 1 := by kernel_rfl
theorem by74 : bytesT PP 74 = some 8 := by kernel_rfl
theorem ag74 : aggT PP 74 = some false := by kernel_rfl
theorem ze74 : zeroT PP 74 = some [(Go.Value.int Go.IntKind.u64 0)] := by kernel_rfl
attribute [irreducible] PP
attribute [simp] un3 sz3 co3 by3 ag3 ze3 un4 sz4 co4 by4 ag4 ze4 un5 sz5 co5 by5 ag5 ze5 un9 sz9 co9 by9 ag9 ze9 un22 sz22 co22 by22 ag22 ze22 el22 un23 sz23 co23 by23 ag23 ze23 el23 un24 sz24 co24 by24 ag24 ze24 el24 un26 sz26 co26 by26 ag26 ze26 gt26 st26 of26x0 of26x1 of26x2 of26x3 of26x4 bu26 un34 sz34 co34 by34 ag34 ze34 gt34 st34 of34x0 of34x1 of34x2 of34x3 bu34 un36 sz36 co36 by36 ag36 ze36 el36 un37 sz37 co37 by37 ag37 ze37 un39 sz39 co39 by39 ag39 ze39 gt39 st39 of39x0 of39x1 of39x2 bu39 un48 sz48 co48 by48 ag48 ze48 un50 sz50 co50 by50 ag50 ze50 un64 sz64 co64 by64 ag64 ze64 un72 sz72 co72 by72 ag72 ze72 un74 sz74 co74 by74 ag74 ze74 keep3 cfg3 draw3 keep4 cfg4 draw4 keep5 cfg5 draw5 keep6 cfg6 draw6 keep7 cfg7 draw7 keep8 cfg8 draw8 keep9 cfg9 draw9 keep10 cfg10 draw10 keep11 cfg11 draw11 keep12 cfg12 draw12 keep13 cfg13 draw13 keep14 cfg14 draw14 keep15 cfg15 draw15 keep16 cfg16 draw16 keep17 cfg17 draw17 keep18 cfg18 draw18 keep19 cfg19 draw19 keep20 cfg20 draw20 keep21 cfg21 draw21 keep22 cfg22 draw22 keep23 cfg23 draw23 keep24 cfg24 draw24 keep25 cfg25 draw25 keep26 cfg26 draw26 keep27 cfg27 draw27 keep28 cfg28 draw28 keep29 cfg29 draw29 keep30 cfg30 draw30 keep31 cfg31 draw31 keep32 cfg32 draw32 keep33 cfg33 draw33 keep34 cfg34 draw34 keep35 cfg35 draw35 keep36 cfg36 draw36 keep37 cfg37 draw37 keep38 cfg38 draw38 keep39 cfg39 draw39 keep40 cfg40 draw40 keep41 cfg41 draw41 keep42 cfg42 draw42 keep43 cfg43 draw43 keep44 cfg44 draw44 keep45 cfg45 draw45 keep46 cfg46 draw46 keep47 cfg47 draw47 keep48 cfg48 draw48 keep49 cfg49 draw49 keep57 cfg57 draw57 keep58 cfg58 draw58 keep59 cfg59 draw59 keep68 cfg68 draw68
end Go.Proofs.Yth

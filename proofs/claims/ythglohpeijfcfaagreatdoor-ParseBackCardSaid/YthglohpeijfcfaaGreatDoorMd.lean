import Derived.Test.YthglohpeijfcfaaGreatDoorMc
import Derived.Test.YthglohpeijfcfaaGreatDoorProg
import Derived.KernelRfl
import Derived.WalkKit
import Derived.LaidEql
import Derived.Stop.Asserts
import Derived.RowKitTokens
import Derived.Sort.Grow
import Derived.Deep.Draws
set_option linter.unusedVariables false
set_option linter.unusedSimpArgs false
set_option linter.unusedSectionVars false
set_option linter.constructorNameAsVariable false
/- Facts of the functions and types, printed by gen.py. -/
namespace Go.Proofs.Yph
open Go Go.Am
set_option maxRecDepth 20000
noncomputable def PP : Program := Go.Proofs.Tryz.prog
theorem mix : PP.follows .mixedOrders = true := by kernel_rfl
theorem gsize : True := trivial
/-! ### 3 parterre/parterrelaw4.ParseAsks -/
noncomputable def body3 : Code := match Go.Proofs.Tryz.f3.body with | some c => c | none => .skip
theorem fn3 : PP.funcs[3]? = some Go.Proofs.Tryz.f3 := Go.Proofs.Tryz.func3
theorem bodyEq3 : Go.Proofs.Tryz.f3.body = some body3 := rfl
def keep3 (i : Nat) : List Nat := (if i < 6 then (if i < 3 then (if i < 1 then [0, 1, 2] else (if i < 2 then [0, 1, 2, 18] else [6])) else (if i < 4 then [7] else (if i < 5 then [7, 8] else [7, 8, 32]))) else (if i < 9 then (if i < 7 then [7, 8] else (if i < 8 then [7, 8, 9, 10] else [7, 8, 9, 10, 11, 12])) else (if i < 11 then (if i < 10 then [7, 8, 9, 10, 11, 12, 13, 14, 15] else [7, 8, 92]) else (if i < 12 then [6] else [6]))))
def draw3 (i : Nat) : DrawInfo := if i = 10 then ⟨[], [0, 1, 2, 3, 4, 5, 6, 7, 8, 9, 11, 10, 12, 13, 14, 15, 17, 16, 18, 19, 20, 21, 22, 23, 24, 25, 26, 27, 28, 29, 30, 31, 32], [[], [], [0, 1], [0, 1, 2], [0, 1, 2, 3], [0, 1, 2, 3], [0, 1, 2, 3, 4, 5], [0, 1, 2, 3, 4, 5, 6], [0, 1, 2, 3, 4, 5, 6, 7], [0, 1, 2, 3, 4, 5, 6, 7, 8], [0, 1, 2, 3, 4, 5, 6, 7, 8, 9], [0, 1, 2, 3, 4, 5, 6, 7, 8], [0, 1, 2, 3, 4, 5, 6, 7, 8, 9, 10, 11], [0, 1, 2, 3, 4, 5, 6, 7, 8, 9, 10, 11, 12], [0, 1, 2, 3, 4, 5, 6, 7, 8, 9, 10, 11, 12, 13], [0, 1, 2, 3, 4, 5, 6, 7, 8, 9, 10, 11, 12, 13, 14], [0, 1, 2, 3, 4, 5, 6, 7, 8, 9, 10, 11, 12, 13, 14, 15], [0, 1, 2, 3, 4, 5, 6, 7, 8, 9, 10, 11, 12, 13, 14], [0, 1, 2, 3, 4, 5, 6, 7, 8, 9, 10, 11, 12, 13, 14, 15, 16, 17], [0, 1, 2, 3, 4, 5, 6, 7, 8, 9, 10, 11, 12, 13, 14, 15, 16, 17, 18], [0, 1, 2, 3, 4, 5, 6, 7, 8, 9, 10, 11, 12, 13, 14, 15, 16, 17, 18, 19], [0, 1, 2, 3, 4, 5, 6, 7, 8, 9, 10, 11, 12, 13, 14, 15, 16, 17, 18, 19, 20], [0, 1, 2, 3, 4, 5, 6, 7, 8, 9, 10, 11, 12, 13, 14, 15, 16, 17, 18, 19, 20, 21], [0, 1, 2, 3, 4, 5, 6, 7, 8, 9, 10, 11, 12, 13, 14, 15, 16, 17, 18, 19, 20], [0, 1, 2, 3, 4, 5, 6, 7, 8, 9, 10, 11, 12, 13, 14, 15, 16, 17, 18, 19, 20, 23], [0, 1, 2, 3, 4, 5, 6, 7, 8, 9, 10, 11, 12, 13, 14, 15, 16, 17, 18, 19, 20, 21, 22, 23, 24], [0, 1, 2, 3, 4, 5, 6, 7, 8, 9, 10, 11, 12, 13, 14, 15, 16, 17, 18, 19, 20, 21, 22, 23, 24, 25], [0, 1, 2, 3, 4, 5, 6, 7, 8, 9, 10, 11, 12, 13, 14, 15, 16, 17, 18, 19, 20, 21, 22, 23, 24, 25, 26], [0, 1, 2, 3, 4, 5, 6, 7, 8, 9, 10, 11, 12, 13, 14, 15, 16, 17, 18, 19, 20, 21, 22, 23, 24, 25, 26, 27], [0, 1, 2, 3, 4, 5, 6, 7, 8, 9, 10, 11, 12, 13, 14, 15, 16, 17, 18, 19, 20, 21, 22, 23, 24, 25, 26, 27], [0, 1, 2, 3, 4, 5, 6, 7, 8, 9, 10, 11, 12, 13, 14, 15, 16, 17, 18, 19, 20, 21, 22, 23, 24, 25, 26, 27, 28, 29], [0, 1, 2, 3, 4, 5, 6, 7, 8, 9, 10, 11, 12, 13, 14, 15, 16, 17, 18, 19, 20, 21, 22, 23, 24, 25, 26, 27, 28, 29, 30], [0, 1, 2, 3, 4, 5, 6, 7, 8, 9, 10, 11, 12, 13, 14, 15, 16, 17, 18, 19, 20, 21, 22, 23, 24, 25, 26, 27, 28, 29, 30, 31]], []⟩ else ⟨[], [], [], []⟩
def cfg3 : Cfg := ⟨[10, 11, 13, 15], keep3, draw3⟩
theorem ok3 : codeOK PP cfg3 Go.Proofs.Tryz.f3.ntmps body3 = true := by kernel_rfl
/-! ### 4 parterre/parterrelaw4.ParseMay -/
noncomputable def body4 : Code := match Go.Proofs.Tryz.f4.body with | some c => c | none => .skip
theorem fn4 : PP.funcs[4]? = some Go.Proofs.Tryz.f4 := Go.Proofs.Tryz.func4
theorem bodyEq4 : Go.Proofs.Tryz.f4.body = some body4 := rfl
def keep4 (i : Nat) : List Nat := (if i < 4 then (if i < 2 then (if i < 1 then [0, 1] else [0, 1, 11]) else (if i < 3 then [4] else [1, 5, 6])) else (if i < 6 then (if i < 5 then [5, 6, 7, 8] else [6, 50]) else (if i < 7 then [4] else [4])))
def draw4 (i : Nat) : DrawInfo := ⟨[], [], [], []⟩
def cfg4 : Cfg := ⟨[5, 7], keep4, draw4⟩
theorem ok4 : codeOK PP cfg4 Go.Proofs.Tryz.f4.ntmps body4 = true := by kernel_rfl
/-! ### 5 parterre/parterrelaw4.ParseBack -/
noncomputable def body5 : Code := match Go.Proofs.Tryz.f5.body with | some c => c | none => .skip
theorem fn5 : PP.funcs[5]? = some Go.Proofs.Tryz.f5 := Go.Proofs.Tryz.func5
theorem bodyEq5 : Go.Proofs.Tryz.f5.body = some body5 := rfl
def keep5 (i : Nat) : List Nat := (if i < 14 then (if i < 7 then (if i < 3 then (if i < 1 then [0, 1] else (if i < 2 then [1, 5] else [1, 5, 6, 7])) else (if i < 5 then (if i < 4 then [1, 5, 6, 26] else [4]) else (if i < 6 then [1, 5, 6, 8] else [1, 5, 6, 8, 9]))) else (if i < 10 then (if i < 8 then [1, 5, 6, 8, 9, 10] else (if i < 9 then [1, 5, 6, 8, 9, 10, 30] else [1, 5, 6, 8, 9, 10])) else (if i < 12 then (if i < 11 then [1, 5, 6, 8, 9, 10, 36] else [1, 5, 6, 8, 10]) else (if i < 13 then [1, 5, 6, 8, 9, 10] else [5, 8, 11])))) else (if i < 21 then (if i < 17 then (if i < 15 then [5, 8, 11, 12] else (if i < 16 then [5, 8, 11, 12, 13] else [5, 8, 11, 12, 13, 56])) else (if i < 19 then (if i < 18 then [5, 8, 11, 12, 13] else [5, 8, 11, 12, 13, 14]) else (if i < 20 then [5, 8, 11, 12, 13, 14, 70] else [5, 8, 11, 12, 13]))) else (if i < 24 then (if i < 22 then [5, 8, 12, 15] else (if i < 23 then [5, 8, 12, 15, 79] else [5, 8, 12, 15])) else (if i < 26 then (if i < 25 then [5, 8, 12, 15, 87] else [5, 8, 12, 15]) else (if i < 27 then [5, 16, 17] else [4])))))
def draw5 (i : Nat) : DrawInfo := ⟨[], [], [], []⟩
def cfg5 : Cfg := ⟨[5, 16], keep5, draw5⟩
theorem ok5 : codeOK PP cfg5 Go.Proofs.Tryz.f5.ntmps body5 = true := by kernel_rfl
/-! ### 6 parterre/parterrelaw4.ParseLarge -/
noncomputable def body6 : Code := match Go.Proofs.Tryz.f6.body with | some c => c | none => .skip
theorem fn6 : PP.funcs[6]? = some Go.Proofs.Tryz.f6 := Go.Proofs.Tryz.func6
theorem bodyEq6 : Go.Proofs.Tryz.f6.body = some body6 := rfl
def keep6 (i : Nat) : List Nat := (if i < 6 then (if i < 3 then (if i < 1 then [0] else (if i < 2 then [3] else [3, 4])) else (if i < 4 then [3, 4, 5] else (if i < 5 then [3, 4, 5, 17] else [3, 4, 5]))) else (if i < 9 then (if i < 7 then [3, 4, 5] else (if i < 8 then [3, 4] else [3, 6, 7])) else (if i < 10 then [6, 7, 32] else (if i < 11 then [2] else [2]))))
def draw6 (i : Nat) : DrawInfo := ⟨[], [], [], []⟩
def cfg6 : Cfg := ⟨[7], keep6, draw6⟩
theorem ok6 : codeOK PP cfg6 Go.Proofs.Tryz.f6.ntmps body6 = true := by kernel_rfl
/-! ### 7 parterre/parterrelaw4.ParseFirst -/
noncomputable def body7 : Code := match Go.Proofs.Tryz.f7.body with | some c => c | none => .skip
theorem fn7 : PP.funcs[7]? = some Go.Proofs.Tryz.f7 := Go.Proofs.Tryz.func7
theorem bodyEq7 : Go.Proofs.Tryz.f7.body = some body7 := rfl
def keep7 (i : Nat) : List Nat := (if i < 8 then (if i < 4 then (if i < 2 then (if i < 1 then [0, 1, 2] else [0, 1, 2, 7]) else (if i < 3 then [0, 1, 2, 7, 8] else [0, 1, 2, 7, 8, 9])) else (if i < 6 then (if i < 5 then [1, 2, 7, 8, 9, 10] else [1, 2, 7, 8, 9, 10, 11]) else (if i < 7 then [1, 2, 7, 8, 9, 10, 11, 24] else [1, 2, 7, 8, 9, 10, 11]))) else (if i < 12 then (if i < 10 then (if i < 9 then [1, 2, 7, 8, 9, 10, 11] else [1, 7, 8, 9, 10, 12]) else (if i < 11 then [1, 8, 9, 10, 12] else [1, 8, 9, 10, 12, 13])) else (if i < 14 then (if i < 13 then [1, 8, 9, 10, 12, 13, 52] else [1, 8, 9, 10, 12, 13]) else (if i < 15 then [1, 8, 9, 10, 12, 13] else (if i < 16 then [8, 10, 12, 14, 15] else [6])))))
def draw7 (i : Nat) : DrawInfo := if i = 16 then ⟨[], [0, 1, 2, 3, 4, 5, 6, 7, 8, 9, 10, 11, 12, 13, 14, 15, 16], [[], [0], [0, 1], [0, 1, 2], [0, 1, 2, 3], [0, 1, 2, 3, 4], [0, 1, 2, 3, 4, 5], [0, 1, 2, 3, 4, 5], [0, 1, 2, 3, 4, 5, 7], [0, 1, 2, 3, 4, 5], [0, 1, 2, 3, 4, 5], [0, 1, 2, 3, 4, 5, 9, 10], [0, 1, 2, 3, 4, 5, 9, 10, 11], [0, 1, 2, 3, 4, 5, 7, 8, 9, 10, 11, 12], [0, 1, 2, 3, 4, 5, 6, 7, 8, 9, 10, 11, 12, 13], [0, 1, 2, 3, 4, 5, 6, 7, 8, 9, 10, 11, 12, 13, 14], [0, 1, 2, 3, 4, 5, 6, 7, 8, 9, 10, 11, 12, 13, 14, 15]], []⟩ else ⟨[], [], [], []⟩
def cfg7 : Cfg := ⟨[15], keep7, draw7⟩
theorem ok7 : codeOK PP cfg7 Go.Proofs.Tryz.f7.ntmps body7 = true := by kernel_rfl
/-! ### 8 parterre/parterrelaw4.ParseKills -/
noncomputable def body8 : Code := match Go.Proofs.Tryz.f8.body with | some c => c | none => .skip
theorem fn8 : PP.funcs[8]? = some Go.Proofs.Tryz.f8 := Go.Proofs.Tryz.func8
theorem bodyEq8 : Go.Proofs.Tryz.f8.body = some body8 := rfl
def keep8 (i : Nat) : List Nat := (if i < 15 then (if i < 7 then (if i < 3 then (if i < 1 then [0, 1] else (if i < 2 then [0, 1, 5] else [0, 1, 5, 6])) else (if i < 5 then (if i < 4 then [0, 1, 5, 6, 7] else [0, 1, 5, 6, 7, 8, 9]) else (if i < 6 then [0, 1, 5, 6, 7, 8, 9, 10] else [0, 1, 5, 6, 7, 8, 9, 10, 27]))) else (if i < 11 then (if i < 9 then (if i < 8 then [0, 1, 5, 6, 7, 8, 9, 10] else [0, 1, 5, 6, 7, 8, 9, 10, 11]) else (if i < 10 then [0, 1, 5, 6, 7, 8, 9, 10, 11] else [0, 1, 5, 6, 7, 8, 9, 10, 11, 55])) else (if i < 13 then (if i < 12 then [0, 1, 5, 6, 7, 8, 9, 10, 11] else [0, 1, 5, 6, 7, 8, 9, 10, 11, 59]) else (if i < 14 then [0, 1, 5, 6, 7, 8, 9, 10, 11] else [0, 1, 5, 6, 7, 8, 9, 10])))) else (if i < 23 then (if i < 19 then (if i < 17 then (if i < 16 then [1, 5, 6, 7, 8, 9, 12, 13] else [5, 6, 7, 8, 9, 12, 13, 68]) else (if i < 18 then [7, 8, 9, 12, 13] else [7, 8, 9, 12, 13, 14, 15])) else (if i < 21 then (if i < 20 then [7, 8, 9, 13, 14, 15, 16] else [7, 9, 13, 14, 15, 16, 86]) else (if i < 22 then [4] else [7, 14, 16, 18]))) else (if i < 27 then (if i < 25 then (if i < 24 then [7, 14, 16, 18, 19] else [7, 14, 16, 18, 19, 106]) else (if i < 26 then [7, 14, 16, 18, 19] else [7, 14, 16, 18, 19, 111])) else (if i < 29 then (if i < 28 then [7, 14, 16, 18, 19, 125] else [4]) else (if i < 30 then [7, 14, 16, 18, 19] else [4])))))
def draw8 (i : Nat) : DrawInfo := ⟨[], [], [], []⟩
def cfg8 : Cfg := ⟨[15, 16], keep8, draw8⟩
theorem ok8 : codeOK PP cfg8 Go.Proofs.Tryz.f8.ntmps body8 = true := by kernel_rfl
/-! ### 9 parterre/parterrelaw4.told -/
noncomputable def body9 : Code := match Go.Proofs.Tryz.f9.body with | some c => c | none => .skip
theorem fn9 : PP.funcs[9]? = some Go.Proofs.Tryz.f9 := Go.Proofs.Tryz.func9
theorem bodyEq9 : Go.Proofs.Tryz.f9.body = some body9 := rfl
def keep9 (i : Nat) : List Nat := (if i < 4 then (if i < 2 then (if i < 1 then [] else [1, 2]) else (if i < 3 then [1, 2, 3, 4] else [1, 2, 3, 4, 5, 6])) else (if i < 6 then (if i < 5 then [1, 2, 3, 4, 5, 6, 7, 8] else [1, 2, 3, 4, 5, 6, 7, 8, 9, 10]) else (if i < 7 then [1, 2, 3, 4, 5, 6, 7, 8, 9, 10, 11, 12] else (if i < 8 then [1, 2, 3, 4, 5, 6, 7, 8, 9, 10, 11, 12, 14] else [0]))))
def draw9 (i : Nat) : DrawInfo := ⟨[], [], [], []⟩
def cfg9 : Cfg := ⟨[1, 4, 6, 8, 10, 12, 13], keep9, draw9⟩
theorem ok9 : codeOK PP cfg9 Go.Proofs.Tryz.f9.ntmps body9 = true := by kernel_rfl
/-! ### 10 parterre/parterrelaw4.Text -/
noncomputable def body10 : Code := match Go.Proofs.Tryz.f10.body with | some c => c | none => .skip
theorem fn10 : PP.funcs[10]? = some Go.Proofs.Tryz.f10 := Go.Proofs.Tryz.func10
theorem bodyEq10 : Go.Proofs.Tryz.f10.body = some body10 := rfl
def keep10 (i : Nat) : List Nat := (if i < 4 then (if i < 2 then (if i < 1 then [0, 1] else [0, 1, 5]) else (if i < 3 then [0, 1, 5, 6] else [0, 1, 5, 6, 7])) else (if i < 6 then (if i < 5 then [0, 1, 5, 6, 7, 17] else [0, 1, 5, 6, 7]) else (if i < 7 then [0, 1, 5, 6, 7] else [4])))
def draw10 (i : Nat) : DrawInfo := ⟨[], [], [], []⟩
def cfg10 : Cfg := ⟨[], keep10, draw10⟩
theorem ok10 : codeOK PP cfg10 Go.Proofs.Tryz.f10.ntmps body10 = true := by kernel_rfl
/-! ### 11 parterre/parterrelaw2.Text -/
noncomputable def body11 : Code := match Go.Proofs.Tryz.f11.body with | some c => c | none => .skip
theorem fn11 : PP.funcs[11]? = some Go.Proofs.Tryz.f11 := Go.Proofs.Tryz.func11
theorem bodyEq11 : Go.Proofs.Tryz.f11.body = some body11 := rfl
def keep11 (i : Nat) : List Nat := (if i < 4 then (if i < 2 then (if i < 1 then [0, 1] else [0, 1, 5]) else (if i < 3 then [0, 1, 5, 6] else [0, 1, 5, 6, 7])) else (if i < 6 then (if i < 5 then [0, 1, 5, 6, 7, 17] else [0, 1, 5, 6, 7]) else (if i < 7 then [0, 1, 5, 6, 7] else [4])))
def draw11 (i : Nat) : DrawInfo := ⟨[], [], [], []⟩
def cfg11 : Cfg := ⟨[], keep11, draw11⟩
theorem ok11 : codeOK PP cfg11 Go.Proofs.Tryz.f11.ntmps body11 = true := by kernel_rfl
/-! ### 12 parterre/parse.Check -/
noncomputable def body12 : Code := match Go.Proofs.Tryz.f12.body with | some c => c | none => .skip
theorem fn12 : PP.funcs[12]? = some Go.Proofs.Tryz.f12 := Go.Proofs.Tryz.func12
theorem bodyEq12 : Go.Proofs.Tryz.f12.body = some body12 := rfl
def keep12 (i : Nat) : List Nat := (if i < 3 then (if i < 1 then [0, 3] else (if i < 2 then [3, 5] else [3, 5, 6])) else (if i < 4 then [3, 5, 6, 15] else (if i < 5 then [2, 3] else [2, 3])))
def draw12 (i : Nat) : DrawInfo := ⟨[], [], [], []⟩
def cfg12 : Cfg := ⟨[3, 4], keep12, draw12⟩
theorem ok12 : codeOK PP cfg12 Go.Proofs.Tryz.f12.ntmps body12 = true := by kernel_rfl
/-! ### 13 parterre/parse.Venue -/
noncomputable def body13 : Code := match Go.Proofs.Tryz.f13.body with | some c => c | none => .skip
theorem fn13 : PP.funcs[13]? = some Go.Proofs.Tryz.f13 := Go.Proofs.Tryz.func13
theorem bodyEq13 : Go.Proofs.Tryz.f13.body = some body13 := rfl
def keep13 (i : Nat) : List Nat := (if i < 9 then (if i < 4 then (if i < 2 then (if i < 1 then [0, 2] else [2, 4, 5, 6]) else (if i < 3 then [2, 4, 5, 6, 18] else [2, 4, 5, 6, 18, 19])) else (if i < 6 then (if i < 5 then [2, 3] else [2, 4, 5, 6, 24]) else (if i < 7 then [2, 3] else (if i < 8 then [2, 4, 5, 7] else [2, 5, 7, 8])))) else (if i < 13 then (if i < 11 then (if i < 10 then [2, 5, 7, 8, 37] else [2, 3]) else (if i < 12 then [2, 5, 7, 9] else [2, 5, 7, 9, 43])) else (if i < 15 then (if i < 14 then [2, 3] else [2, 5, 10, 11]) else (if i < 16 then [2, 5, 10, 55] else (if i < 17 then [2, 3] else [2, 3])))))
def draw13 (i : Nat) : DrawInfo := ⟨[], [], [], []⟩
def cfg13 : Cfg := ⟨[2, 5, 10], keep13, draw13⟩
theorem ok13 : codeOK PP cfg13 Go.Proofs.Tryz.f13.ntmps body13 = true := by kernel_rfl
/-! ### 14 parterre/parterreref2.Parse -/
noncomputable def body14 : Code := match Go.Proofs.Tryz.f14.body with | some c => c | none => .skip
theorem fn14 : PP.funcs[14]? = some Go.Proofs.Tryz.f14 := Go.Proofs.Tryz.func14
theorem bodyEq14 : Go.Proofs.Tryz.f14.body = some body14 := rfl
def keep14 (i : Nat) : List Nat := (if i < 16 then (if i < 8 then (if i < 4 then (if i < 2 then (if i < 1 then [0, 2, 4] else [2, 4, 5, 6, 7]) else (if i < 3 then [2, 4, 5, 6, 7, 27] else [2, 3, 4])) else (if i < 6 then (if i < 5 then [2, 4, 5, 6, 8] else [2, 4, 5, 6, 8, 9]) else (if i < 7 then [2, 4, 5, 6, 8, 9, 36] else [2, 4, 5, 6, 8, 9, 10, 11]))) else (if i < 12 then (if i < 10 then (if i < 9 then [2, 4, 5, 6, 8, 9, 10, 11, 12] else [2, 4, 5, 6, 8, 9, 10, 11, 12, 50]) else (if i < 11 then [2, 4, 5, 6, 8, 10, 11, 12] else [2, 4, 5, 6, 8, 10, 11, 12, 61])) else (if i < 14 then (if i < 13 then [2, 4, 5, 6, 8, 11, 13, 14] else [2, 4, 5, 6, 8, 11, 13, 70]) else (if i < 15 then [2, 3, 4] else [2, 4, 5, 6, 8, 9])))) else (if i < 24 then (if i < 20 then (if i < 18 then (if i < 17 then [2, 4, 6, 8, 87] else [2, 3, 4]) else (if i < 19 then [2, 4, 8, 15] else [2, 4, 8, 15, 96])) else (if i < 22 then (if i < 21 then [2, 4, 8, 15] else [2, 4, 8, 15, 16]) else (if i < 23 then [2, 4, 8, 15, 16, 116] else [2, 3, 4]))) else (if i < 28 then (if i < 26 then (if i < 25 then [2, 4, 8, 15, 16, 17] else [2, 4, 8, 15, 16, 17, 132]) else (if i < 27 then [2, 4, 8, 15, 16, 17] else [2, 4, 8, 15, 16, 17, 144])) else (if i < 30 then (if i < 29 then [2, 3, 4] else [2, 4, 8, 15]) else (if i < 31 then [2, 4, 18] else [2, 3, 4])))))
def draw14 (i : Nat) : DrawInfo := if i = 3 then ⟨[], [0, 1, 2, 3, 4, 5], [[], [], [], [0], [0, 1, 3], [0, 1, 2, 3, 4]], []⟩ else if i = 14 then ⟨[], [0, 1, 2, 3, 4], [[], [], [0], [0, 2], [0, 1, 2, 3]], []⟩ else if i = 17 then ⟨[], [0, 1, 2, 3, 4], [[], [], [0], [0, 2], [0, 1, 2, 3]], []⟩ else if i = 21 then ⟨[], [0, 1, 2, 3, 4, 5, 6, 7, 8, 9, 10, 11, 12, 13, 14, 15, 16], [[], [], [1], [1, 2], [1, 2, 3], [], [1, 2, 3, 4, 5], [1, 2, 3, 4, 5, 6], [], [8], [8, 9], [8, 9, 10], [], [8, 9, 10, 11, 12], [8, 9, 10, 11, 12, 13], [0, 1, 2, 3, 4, 5, 6, 7, 8, 9, 10, 11, 12, 13, 14], [0, 1, 2, 3, 4, 5, 6, 7, 8, 9, 10, 11, 12, 13, 14, 15]], []⟩ else if i = 23 then ⟨[], [0, 1, 2, 3, 4, 5, 6, 7, 8, 9, 10], [[], [], [1], [1, 2], [1, 2, 3], [], [1, 2, 3, 4, 5], [1, 2, 3, 4, 5, 6], [0], [0, 8], [0, 1, 2, 3, 4, 5, 6, 7, 8, 9]], []⟩ else if i = 28 then ⟨[], [0, 1, 2, 3, 4, 5, 6, 7, 8, 9, 10], [[], [], [1], [1, 2], [1, 2, 3], [], [1, 2, 3, 4, 5], [1, 2, 3, 4, 5, 6], [0], [0, 8], [0, 1, 2, 3, 4, 5, 6, 7, 8, 9]], []⟩ else ⟨[], [], [], []⟩
def cfg14 : Cfg := ⟨[2, 4, 6, 12, 13, 18], keep14, draw14⟩
theorem ok14 : codeOK PP cfg14 Go.Proofs.Tryz.f14.ntmps body14 = true := by kernel_rfl
/-! ### 15 parterre/fault.Code -/
noncomputable def body15 : Code := match Go.Proofs.Tryz.f15.body with | some c => c | none => .skip
theorem fn15 : PP.funcs[15]? = some Go.Proofs.Tryz.f15 := Go.Proofs.Tryz.func15
theorem bodyEq15 : Go.Proofs.Tryz.f15.body = some body15 := rfl
def keep15 (i : Nat) : List Nat := (if i < 3 then (if i < 1 then [0] else (if i < 2 then [0, 3] else [0, 3, 4])) else (if i < 5 then (if i < 4 then [2] else [3, 7]) else (if i < 6 then [2] else [2])))
def draw15 (i : Nat) : DrawInfo := ⟨[], [], [], []⟩
def cfg15 : Cfg := ⟨[], keep15, draw15⟩
theorem ok15 : codeOK PP cfg15 Go.Proofs.Tryz.f15.ntmps body15 = true := by kernel_rfl
/-! ### 16 parterre/fault.Spot -/
noncomputable def body16 : Code := match Go.Proofs.Tryz.f16.body with | some c => c | none => .skip
theorem fn16 : PP.funcs[16]? = some Go.Proofs.Tryz.f16 := Go.Proofs.Tryz.func16
theorem bodyEq16 : Go.Proofs.Tryz.f16.body = some body16 := rfl
def keep16 (i : Nat) : List Nat := (if i < 4 then (if i < 2 then (if i < 1 then [0, 2] else [2, 6, 7, 8]) else (if i < 3 then [2, 6, 7, 8, 9] else [2, 4, 6, 7, 8])) else (if i < 6 then (if i < 5 then [2, 4, 6, 7, 8, 17] else [2]) else (if i < 7 then [2, 6, 7, 8] else [2])))
def draw16 (i : Nat) : DrawInfo := ⟨[], [], [], []⟩
def cfg16 : Cfg := ⟨[2], keep16, draw16⟩
theorem ok16 : codeOK PP cfg16 Go.Proofs.Tryz.f16.ntmps body16 = true := by kernel_rfl
/-! ### 17 parterre/parterreref2.Same -/
noncomputable def body17 : Code := match Go.Proofs.Tryz.f17.body with | some c => c | none => .skip
theorem fn17 : PP.funcs[17]? = some Go.Proofs.Tryz.f17 := Go.Proofs.Tryz.func17
theorem bodyEq17 : Go.Proofs.Tryz.f17.body = some body17 := rfl
def keep17 (i : Nat) : List Nat := (if i < 9 then (if i < 4 then (if i < 2 then (if i < 1 then [2, 3] else [2, 3, 46]) else (if i < 3 then [4] else [2, 3, 5])) else (if i < 6 then (if i < 5 then [2, 3, 5, 51] else [2, 3, 5]) else (if i < 7 then [2, 3, 5, 64] else (if i < 8 then [4] else [2, 3, 6])))) else (if i < 14 then (if i < 11 then (if i < 10 then [2, 3, 6, 69] else [2, 3, 6]) else (if i < 12 then [2, 3, 6, 82] else (if i < 13 then [4] else [2, 3, 7]))) else (if i < 16 then (if i < 15 then [2, 3, 7, 87] else [2, 3, 7]) else (if i < 17 then [2, 3, 7, 100] else (if i < 18 then [4] else [4])))))
def draw17 (i : Nat) : DrawInfo := if i = 6 then ⟨[], [0, 1, 2, 3, 4, 5, 6, 7, 8, 9, 10], [[], [0], [], [0, 1, 2], [0, 1, 2, 3], [], [5], [], [5, 6, 7], [5, 6, 7, 8], [0, 1, 2, 3, 4, 5, 6, 7, 8, 9]], []⟩ else if i = 11 then ⟨[], [0, 1, 2, 3, 4, 5, 6, 7, 8, 9, 10], [[], [0], [], [0, 1, 2], [0, 1, 2, 3], [], [5], [], [5, 6, 7], [5, 6, 7, 8], [0, 1, 2, 3, 4, 5, 6, 7, 8, 9]], []⟩ else if i = 16 then ⟨[], [0, 1, 2, 3, 4, 5, 6, 7, 8, 9, 10], [[], [0], [], [0, 1, 2], [0, 1, 2, 3], [], [5], [], [5, 6, 7], [5, 6, 7, 8], [0, 1, 2, 3, 4, 5, 6, 7, 8, 9]], []⟩ else ⟨[], [], [], []⟩
def cfg17 : Cfg := ⟨[2, 3], keep17, draw17⟩
theorem ok17 : codeOK PP cfg17 Go.Proofs.Tryz.f17.ntmps body17 = true := by kernel_rfl
/-! ### 18 parterre/parterreref2.May -/
noncomputable def body18 : Code := match Go.Proofs.Tryz.f18.body with | some c => c | none => .skip
theorem fn18 : PP.funcs[18]? = some Go.Proofs.Tryz.f18 := Go.Proofs.Tryz.func18
theorem bodyEq18 : Go.Proofs.Tryz.f18.body = some body18 := rfl
def keep18 (i : Nat) : List Nat := (if i < 1 then [1] else [2])
def draw18 (i : Nat) : DrawInfo := ⟨[], [], [], []⟩
def cfg18 : Cfg := ⟨[1], keep18, draw18⟩
theorem ok18 : codeOK PP cfg18 Go.Proofs.Tryz.f18.ntmps body18 = true := by kernel_rfl
/-! ### 19 parterre/parterrelaw3.Make -/
noncomputable def body19 : Code := match Go.Proofs.Tryz.f19.body with | some c => c | none => .skip
theorem fn19 : PP.funcs[19]? = some Go.Proofs.Tryz.f19 := Go.Proofs.Tryz.func19
theorem bodyEq19 : Go.Proofs.Tryz.f19.body = some body19 := rfl
def keep19 (i : Nat) : List Nat := (if i < 14 then (if i < 7 then (if i < 3 then (if i < 1 then [0, 1, 4] else (if i < 2 then [0, 1, 4, 5] else [0, 1, 4, 5, 6, 7])) else (if i < 5 then (if i < 4 then [0, 1, 4, 5, 6, 7, 8] else [0, 1, 4, 5, 6, 7, 8, 24]) else (if i < 6 then [0, 1, 4, 5, 6, 7, 8] else [0, 1, 4, 5, 6, 7, 8, 9]))) else (if i < 10 then (if i < 8 then [0, 1, 4, 5, 6, 7, 8, 9] else (if i < 9 then [0, 1, 4, 5, 6, 7, 8, 9, 35] else [0, 1, 4, 5, 6, 7, 8, 9, 35, 36])) else (if i < 12 then (if i < 11 then [0, 1, 4, 5, 6, 7, 8, 9] else [0, 1, 4, 5, 6, 7, 8, 9, 40]) else (if i < 13 then [0, 1, 4, 5, 6, 7, 8, 9] else [0, 1, 4, 5, 6, 7, 8, 9, 10])))) else (if i < 21 then (if i < 17 then (if i < 15 then [0, 1, 4, 5, 6, 7, 8, 9, 10, 51] else (if i < 16 then [0, 1, 4, 5, 6, 7, 8, 9, 10, 51, 52] else [0, 1, 4, 5, 6, 7, 8, 9, 10])) else (if i < 19 then (if i < 18 then [0, 1, 4, 5, 6, 7, 8, 9, 10, 51, 55] else [0, 1, 4, 5, 6, 7, 8, 9, 10, 55]) else (if i < 20 then [0, 1, 4, 5, 6, 7, 8, 9, 10] else [0, 1, 4, 5, 6, 7, 8, 9]))) else (if i < 24 then (if i < 22 then [0, 1, 4, 5, 6, 7, 8, 9, 68] else (if i < 23 then [0, 1, 4, 5, 6, 7, 8, 9] else [0, 1, 4, 5, 6, 7, 8, 9, 81])) else (if i < 26 then (if i < 25 then [0, 1, 4, 5, 6, 7, 8, 9] else [0, 1, 4, 5, 6, 7, 8, 9, 99]) else (if i < 27 then [0, 1, 4, 5, 6, 7, 8] else [4])))))
def draw19 (i : Nat) : DrawInfo := ⟨[], [], [], []⟩
def cfg19 : Cfg := ⟨[4, 5, 10], keep19, draw19⟩
theorem ok19 : codeOK PP cfg19 Go.Proofs.Tryz.f19.ntmps body19 = true := by kernel_rfl
/-! ### 20 parterre/parterreref2.Print -/
noncomputable def body20 : Code := match Go.Proofs.Tryz.f20.body with | some c => c | none => .skip
theorem fn20 : PP.funcs[20]? = some Go.Proofs.Tryz.f20 := Go.Proofs.Tryz.func20
theorem bodyEq20 : Go.Proofs.Tryz.f20.body = some body20 := rfl
def keep20 (i : Nat) : List Nat := (if i < 9 then (if i < 4 then (if i < 2 then (if i < 1 then [1] else [1, 12]) else (if i < 3 then [2, 3] else [1, 4])) else (if i < 6 then (if i < 5 then [1, 4, 5] else [1, 4, 5, 27]) else (if i < 7 then [1, 4, 5] else (if i < 8 then [1, 4, 5] else [1, 4, 6])))) else (if i < 14 then (if i < 11 then (if i < 10 then [1, 4, 6, 43] else [1, 4, 6]) else (if i < 12 then [1, 4, 6, 7] else (if i < 13 then [1, 4, 6] else [1, 4, 8]))) else (if i < 16 then (if i < 15 then [1, 4, 8, 71] else [1, 4, 8]) else (if i < 17 then [1, 4, 8, 9] else (if i < 18 then [1, 4, 8] else [2, 3])))))
def draw20 (i : Nat) : DrawInfo := if i = 3 then ⟨[], [0, 1, 5, 6, 2, 3, 4, 7, 8, 9, 10], [[], [0], [0, 1], [0, 1, 2], [0, 1, 2, 3], [], [5], [0, 1, 2, 5, 6], [0, 1, 2, 3, 4, 5, 6, 7], [0, 1, 2, 3, 4, 5, 6, 7, 8], [0, 1, 2, 3, 4, 5, 6, 7, 8, 9]], []⟩ else if i = 11 then ⟨[9], [0, 1, 2, 3, 4, 5, 6, 7, 8, 10], [[], [0], [], [2], [], [2, 3, 4], [2, 3, 4, 5], [0, 1, 2, 3, 4, 5, 6], [0, 1, 2, 3, 4, 5, 6, 7], [], [0, 1, 2, 3, 4, 5, 6, 7, 8, 9]], []⟩ else if i = 12 then ⟨[], [0, 1, 2, 3, 7, 8, 4, 5, 6, 9, 10, 11, 12], [[], [0], [], [2], [2, 3], [0, 1, 2, 3, 4], [0, 1, 2, 3, 4, 5], [], [7], [2, 3, 4, 7, 8], [0, 1, 2, 3, 4, 5, 6, 7, 8, 9], [0, 1, 2, 3, 4, 5, 6, 7, 8, 9, 10], [0, 1, 2, 3, 4, 5, 6, 7, 8, 9, 10, 11]], []⟩ else if i = 17 then ⟨[], [0, 1, 2, 3, 7, 8, 12, 13, 4, 5, 6, 9, 10, 11, 14, 15, 16, 17], [[], [0], [], [2], [2, 3], [0, 1, 2, 3, 4], [0, 1, 2, 3, 4, 5], [], [7], [2, 3, 4, 7, 8], [0, 1, 2, 3, 4, 5, 6, 7, 8, 9], [0, 1, 2, 3, 4, 5, 6, 7, 8, 9, 10], [], [12], [2, 3, 4, 7, 8, 9, 12, 13], [0, 1, 2, 3, 4, 5, 6, 7, 8, 9, 10, 11, 12, 13, 14], [0, 1, 2, 3, 4, 5, 6, 7, 8, 9, 10, 11, 12, 13, 14, 15], [0, 1, 2, 3, 4, 5, 6, 7, 8, 9, 10, 11, 12, 13, 14, 15, 16]], []⟩ else ⟨[], [], [], []⟩
def cfg20 : Cfg := ⟨[1, 7, 9], keep20, draw20⟩
theorem ok20 : codeOK PP cfg20 Go.Proofs.Tryz.f20.ntmps body20 = true := by kernel_rfl
/-! ### 22 (*parterre/fault.Failure).Code -/
noncomputable def body22 : Code := match Go.Proofs.Tryz.f22.body with | some c => c | none => .skip
theorem fn22 : PP.funcs[22]? = some Go.Proofs.Tryz.f22 := Go.Proofs.Tryz.func22
theorem bodyEq22 : Go.Proofs.Tryz.f22.body = some body22 := rfl
def keep22 (i : Nat) : List Nat := (if i < 1 then [0] else [2])
def draw22 (i : Nat) : DrawInfo := ⟨[], [], [], []⟩
def cfg22 : Cfg := ⟨[], keep22, draw22⟩
theorem ok22 : codeOK PP cfg22 Go.Proofs.Tryz.f22.ntmps body22 = true := by kernel_rfl
/-! ### 23 parterre/token.All -/
noncomputable def body23 : Code := match Go.Proofs.Tryz.f23.body with | some c => c | none => .skip
theorem fn23 : PP.funcs[23]? = some Go.Proofs.Tryz.f23 := Go.Proofs.Tryz.func23
theorem bodyEq23 : Go.Proofs.Tryz.f23.body = some body23 := rfl
def keep23 (i : Nat) : List Nat := (if i < 6 then (if i < 3 then (if i < 1 then [0, 3] else (if i < 2 then [0, 3, 14] else [2, 3, 4])) else (if i < 4 then [0, 3, 5] else (if i < 5 then [0, 3, 5, 6, 7] else [0, 3, 5, 7, 8, 9, 10, 11]))) else (if i < 9 then (if i < 7 then [0, 3, 5, 7, 8, 9, 10, 11, 26] else (if i < 8 then [2, 3, 4] else [0, 3, 5, 7, 8, 9, 10, 11, 26, 30])) else (if i < 10 then [0, 3, 5, 6, 7] else (if i < 11 then [3, 5, 10, 11, 38] else [2, 3, 4]))))
def draw23 (i : Nat) : DrawInfo := if i = 9 then ⟨[], [0, 1, 4, 5, 2, 3, 6, 7, 8], [[], [], [1], [0, 1, 2], [], [], [0, 1, 2, 3], [0, 1, 2, 3, 4, 6], [0, 1, 2, 3, 4, 5, 6, 7]], []⟩ else if i = 11 then ⟨[], [0, 1, 2, 3, 4], [[], [], [0], [0, 1, 2], [0, 1, 2, 3]], []⟩ else if i = 7 then ⟨[], [0, 1, 2, 3, 4, 5], [[], [], [], [0], [0, 1, 3], [0, 1, 2, 3, 4]], []⟩ else ⟨[], [], [], []⟩
def cfg23 : Cfg := ⟨[3, 7, 8, 10], keep23, draw23⟩
theorem ok23 : codeOK PP cfg23 Go.Proofs.Tryz.f23.ntmps body23 = true := by kernel_rfl
/-! ### 24 parterre/parse.wrong -/
noncomputable def body24 : Code := match Go.Proofs.Tryz.f24.body with | some c => c | none => .skip
theorem fn24 : PP.funcs[24]? = some Go.Proofs.Tryz.f24 := Go.Proofs.Tryz.func24
theorem bodyEq24 : Go.Proofs.Tryz.f24.body = some body24 := rfl
def keep24 (i : Nat) : List Nat := (if i < 1 then [1] else [2])
def draw24 (i : Nat) : DrawInfo := ⟨[], [], [], []⟩
def cfg24 : Cfg := ⟨[1], keep24, draw24⟩
theorem ok24 : codeOK PP cfg24 Go.Proofs.Tryz.f24.ntmps body24 = true := by kernel_rfl
/-! ### 25 parterre/fault.New -/
noncomputable def body25 : Code := match Go.Proofs.Tryz.f25.body with | some c => c | none => .skip
theorem fn25 : PP.funcs[25]? = some Go.Proofs.Tryz.f25 := Go.Proofs.Tryz.func25
theorem bodyEq25 : Go.Proofs.Tryz.f25.body = some body25 := rfl
def keep25 (i : Nat) : List Nat := (if i < 2 then (if i < 1 then [0, 1, 2] else [0, 1, 2, 8]) else (if i < 3 then [6] else [6]))
def draw25 (i : Nat) : DrawInfo := ⟨[], [], [], []⟩
def cfg25 : Cfg := ⟨[], keep25, draw25⟩
theorem ok25 : codeOK PP cfg25 Go.Proofs.Tryz.f25.ntmps body25 = true := by kernel_rfl
/-! ### 26 (*parterre/parse.reader).lines -/
noncomputable def body26 : Code := match Go.Proofs.Tryz.f26.body with | some c => c | none => .skip
theorem fn26 : PP.funcs[26]? = some Go.Proofs.Tryz.f26 := Go.Proofs.Tryz.func26
theorem bodyEq26 : Go.Proofs.Tryz.f26.body = some body26 := rfl
def keep26 (i : Nat) : List Nat := (if i < 7 then (if i < 3 then (if i < 1 then [0, 1] else (if i < 2 then [0, 1, 5] else [0, 1, 5, 14])) else (if i < 5 then (if i < 4 then [0, 1, 5, 6, 7] else [0, 1, 5, 6, 7, 8]) else (if i < 6 then [0, 1, 5, 6, 7, 8, 31] else [0, 1, 6, 7, 8]))) else (if i < 11 then (if i < 9 then (if i < 8 then [0, 1, 5, 6, 8] else [0, 1, 5, 6, 8, 43]) else (if i < 10 then [0, 1, 5, 6, 9, 10] else [0, 1, 5, 6, 9, 10, 51])) else (if i < 13 then (if i < 12 then [4] else [0, 1, 5, 6, 57]) else (if i < 14 then [4] else [4]))))
def draw26 (i : Nat) : DrawInfo := ⟨[], [], [], []⟩
def cfg26 : Cfg := ⟨[8], keep26, draw26⟩
theorem ok26 : codeOK PP cfg26 Go.Proofs.Tryz.f26.ntmps body26 = true := by kernel_rfl
/-! ### 27 (*parterre/parse.reader).whole -/
noncomputable def body27 : Code := match Go.Proofs.Tryz.f27.body with | some c => c | none => .skip
theorem fn27 : PP.funcs[27]? = some Go.Proofs.Tryz.f27 := Go.Proofs.Tryz.func27
theorem bodyEq27 : Go.Proofs.Tryz.f27.body = some body27 := rfl
def keep27 (i : Nat) : List Nat := (if i < 7 then (if i < 3 then (if i < 1 then [0] else (if i < 2 then [0, 21] else [2])) else (if i < 5 then (if i < 4 then [0, 30, 31, 32] else [0, 30, 31, 32, 33]) else (if i < 6 then [0, 4, 30, 31, 32] else [0, 4, 5, 6, 30, 31, 32]))) else (if i < 10 then (if i < 8 then [0, 4, 5, 30, 31, 32, 46] else (if i < 9 then [2] else [0, 4, 5, 30, 31, 32, 52])) else (if i < 12 then (if i < 11 then [2] else [0, 30, 31, 32]) else (if i < 13 then [0, 30, 31, 32] else [2]))))
def draw27 (i : Nat) : DrawInfo := if i = 6 then ⟨[], [0, 1, 2, 3, 4, 5, 6, 7, 8, 9, 10, 11], [[], [0], [0, 1], [0, 1, 2], [], [4], [0, 1, 2, 3, 4, 5], [0, 1, 2, 3, 4, 5, 6], [0, 1, 2, 3, 4, 5, 6, 7], [0, 1, 2, 3, 4, 5, 6, 7], [0, 1, 2, 3, 4, 5, 6, 7, 8], [0, 1, 2, 3, 4, 5, 6, 7, 8, 9, 10]], []⟩ else ⟨[], [], [], []⟩
def cfg27 : Cfg := ⟨[4], keep27, draw27⟩
theorem ok27 : codeOK PP cfg27 Go.Proofs.Tryz.f27.ntmps body27 = true := by kernel_rfl
/-! ### 28 parterre/venue.Norm -/
noncomputable def body28 : Code := match Go.Proofs.Tryz.f28.body with | some c => c | none => .skip
theorem fn28 : PP.funcs[28]? = some Go.Proofs.Tryz.f28 := Go.Proofs.Tryz.func28
theorem bodyEq28 : Go.Proofs.Tryz.f28.body = some body28 := rfl
def keep28 (i : Nat) : List Nat := (if i < 10 then (if i < 5 then (if i < 2 then (if i < 1 then [1, 2] else [1, 2, 4]) else (if i < 3 then [1, 2, 4, 11, 12, 13] else (if i < 4 then [1, 2, 4, 11, 12, 13, 14] else [1, 2, 4, 6, 11, 12, 13]))) else (if i < 7 then (if i < 6 then [1, 2, 4, 6, 11, 12, 13, 25] else [2, 3]) else (if i < 8 then [1, 2, 4, 11, 12, 13] else (if i < 9 then [1, 2, 4, 11, 12, 13] else [2, 4, 7])))) else (if i < 15 then (if i < 12 then (if i < 11 then [2, 4, 7] else [2, 7, 50, 51, 52]) else (if i < 13 then [2, 7, 50, 51, 52, 53] else (if i < 14 then [2, 7, 9, 50, 51, 52] else [2, 7, 50, 51, 52]))) else (if i < 18 then (if i < 16 then [2, 7, 50, 51, 52] else (if i < 17 then [2, 7] else [2, 7])) else (if i < 19 then [2, 7, 75] else (if i < 20 then [2, 3] else [2, 3])))))
def draw28 (i : Nat) : DrawInfo := if i = 9 then ⟨[11], [0, 1, 3, 4, 5, 6, 7, 8, 2, 9, 10, 12], [[], [0], [0, 1], [], [3], [], [5], [], [7], [0, 1, 2, 7, 8], [0, 1, 2, 3, 4, 5, 6, 7, 8, 9], [], [0, 1, 2, 3, 4, 5, 6, 7, 8, 9, 10, 11]], []⟩ else if i = 14 then ⟨[], [0, 1, 2, 3, 4, 5, 6, 7, 8, 9], [[], [0], [], [2], [], [2, 3, 4], [2, 3, 4, 5], [0, 1, 2, 3, 4, 5, 6], [0, 1, 2, 3, 4, 5, 6, 7], [0, 1, 2, 3, 4, 5, 6, 7, 8]], []⟩ else ⟨[], [], [], []⟩
def cfg28 : Cfg := ⟨[1, 2, 7], keep28, draw28⟩
theorem ok28 : codeOK PP cfg28 Go.Proofs.Tryz.f28.ntmps body28 = true := by kernel_rfl
/-! ### 29 parterre/parterreref2.All -/
noncomputable def body29 : Code := match Go.Proofs.Tryz.f29.body with | some c => c | none => .skip
theorem fn29 : PP.funcs[29]? = some Go.Proofs.Tryz.f29 := Go.Proofs.Tryz.func29
theorem bodyEq29 : Go.Proofs.Tryz.f29.body = some body29 := rfl
def keep29 (i : Nat) : List Nat := (if i < 6 then (if i < 3 then (if i < 1 then [0, 3] else (if i < 2 then [0, 3, 14] else [2, 3, 4])) else (if i < 4 then [0, 3, 5] else (if i < 5 then [0, 3, 5, 6] else [0, 3, 5, 6, 7]))) else (if i < 9 then (if i < 7 then [0, 3, 5, 6, 8, 9, 10, 11] else (if i < 8 then [0, 3, 5, 6, 8, 9, 10, 11, 27] else [2, 3, 4])) else (if i < 11 then (if i < 10 then [0, 3, 5, 6, 8, 9, 10, 11, 31] else [2, 3, 4]) else (if i < 12 then [0, 3, 5, 6, 9, 10] else [0, 3, 5, 6, 7]))))
def draw29 (i : Nat) : DrawInfo := if i = 8 then ⟨[], [0, 1, 2, 3, 4], [[], [], [0], [0, 1, 2], [0, 1, 2, 3]], []⟩ else if i = 10 then ⟨[], [0, 1, 2, 3, 4, 5], [[], [], [], [0], [0, 1, 3], [0, 1, 2, 3, 4]], []⟩ else if i = 12 then ⟨[], [0, 1, 2, 3], [[], [], [0], [0, 1, 2]], []⟩ else ⟨[], [], [], []⟩
def cfg29 : Cfg := ⟨[3, 6, 8, 10], keep29, draw29⟩
theorem ok29 : codeOK PP cfg29 Go.Proofs.Tryz.f29.ntmps body29 = true := by kernel_rfl
/-! ### 30 parterre/parterreref2.Line -/
noncomputable def body30 : Code := match Go.Proofs.Tryz.f30.body with | some c => c | none => .skip
theorem fn30 : PP.funcs[30]? = some Go.Proofs.Tryz.f30 := Go.Proofs.Tryz.func30
theorem bodyEq30 : Go.Proofs.Tryz.f30.body = some body30 := rfl
def keep30 (i : Nat) : List Nat := (if i < 3 then (if i < 1 then [0, 1] else (if i < 2 then [0, 1, 14] else [4, 5])) else (if i < 5 then (if i < 4 then [0, 1, 6] else [0, 1, 6, 28]) else (if i < 6 then [0, 1, 6] else [4, 5])))
def draw30 (i : Nat) : DrawInfo := ⟨[], [], [], []⟩
def cfg30 : Cfg := ⟨[], keep30, draw30⟩
theorem ok30 : codeOK PP cfg30 Go.Proofs.Tryz.f30.ntmps body30 = true := by kernel_rfl
/-! ### 31 parterre/parterreref2.spot -/
noncomputable def body31 : Code := match Go.Proofs.Tryz.f31.body with | some c => c | none => .skip
theorem fn31 : PP.funcs[31]? = some Go.Proofs.Tryz.f31 := Go.Proofs.Tryz.func31
theorem bodyEq31 : Go.Proofs.Tryz.f31.body = some body31 := rfl
def keep31 (i : Nat) : List Nat := (if i < 1 then [1, 2] else [2])
def draw31 (i : Nat) : DrawInfo := ⟨[], [], [], []⟩
def cfg31 : Cfg := ⟨[1, 2], keep31, draw31⟩
theorem ok31 : codeOK PP cfg31 Go.Proofs.Tryz.f31.ntmps body31 = true := by kernel_rfl
/-! ### 32 (*parterre/parterreref2.Parser).line -/
noncomputable def body32 : Code := match Go.Proofs.Tryz.f32.body with | some c => c | none => .skip
theorem fn32 : PP.funcs[32]? = some Go.Proofs.Tryz.f32 := Go.Proofs.Tryz.func32
theorem bodyEq32 : Go.Proofs.Tryz.f32.body = some body32 := rfl
def keep32 (i : Nat) : List Nat := (if i < 10 then (if i < 5 then (if i < 2 then (if i < 1 then [0, 1, 5, 6] else [0, 1, 5, 6, 8]) else (if i < 3 then [0, 1, 5, 6, 8, 9] else (if i < 4 then [0, 1, 5, 6, 8, 9, 27] else [6, 7]))) else (if i < 7 then (if i < 6 then [0, 1, 5, 6, 8, 9, 10] else [0, 1, 5, 6, 8, 9, 10, 34]) else (if i < 8 then [0, 1, 5, 6, 8, 9, 10] else (if i < 9 then [0, 1, 5, 6, 8, 9, 10, 41] else [6, 7])))) else (if i < 15 then (if i < 12 then (if i < 11 then [0, 1, 5, 6, 8, 9, 10, 11] else [0, 1, 5, 6, 8, 9, 10, 11, 50]) else (if i < 13 then [6, 7] else (if i < 14 then [0, 1, 6, 8, 9, 57] else [6, 7]))) else (if i < 18 then (if i < 16 then [0, 1, 6, 8, 9, 12] else (if i < 17 then [0, 1, 6, 8, 9, 12, 66] else [0, 1, 6, 8, 9, 12])) else (if i < 19 then [0, 1, 6, 8, 9, 12, 78] else (if i < 20 then [6, 7] else [6, 7])))))
def draw32 (i : Nat) : DrawInfo := ⟨[], [], [], []⟩
def cfg32 : Cfg := ⟨[5, 6, 11], keep32, draw32⟩
theorem ok32 : codeOK PP cfg32 Go.Proofs.Tryz.f32.ntmps body32 = true := by kernel_rfl
/-! ### 33 (*parterre/parterreref2.Parser).at -/
noncomputable def body33 : Code := match Go.Proofs.Tryz.f33.body with | some c => c | none => .skip
theorem fn33 : PP.funcs[33]? = some Go.Proofs.Tryz.f33 := Go.Proofs.Tryz.func33
theorem bodyEq33 : Go.Proofs.Tryz.f33.body = some body33 := rfl
def keep33 (i : Nat) : List Nat := (if i < 3 then (if i < 1 then [0, 1, 2] else (if i < 2 then [0, 1, 2, 7] else [0, 1, 2, 7, 15])) else (if i < 5 then (if i < 4 then [0, 1, 2, 7] else [0, 1, 2, 7, 41]) else (if i < 6 then [6] else [6])))
def draw33 (i : Nat) : DrawInfo := ⟨[], [], [], []⟩
def cfg33 : Cfg := ⟨[], keep33, draw33⟩
theorem ok33 : codeOK PP cfg33 Go.Proofs.Tryz.f33.ntmps body33 = true := by kernel_rfl
/-! ### 34 parterre/parterreref2.Norm -/
noncomputable def body34 : Code := match Go.Proofs.Tryz.f34.body with | some c => c | none => .skip
theorem fn34 : PP.funcs[34]? = some Go.Proofs.Tryz.f34 := Go.Proofs.Tryz.func34
theorem bodyEq34 : Go.Proofs.Tryz.f34.body = some body34 := rfl
def keep34 (i : Nat) : List Nat := (if i < 11 then (if i < 5 then (if i < 2 then (if i < 1 then [1, 2] else [1, 2, 4]) else (if i < 3 then [1, 2, 4, 5] else (if i < 4 then [1, 2, 4, 5, 25] else [1, 2, 4, 5]))) else (if i < 8 then (if i < 6 then [1, 2, 4, 5, 6] else (if i < 7 then [1, 2, 4, 5, 6, 46] else [1, 2, 4, 5, 6])) else (if i < 9 then [1, 2, 4, 5] else (if i < 10 then [1, 2, 4, 7] else [1, 2, 4, 7, 72])))) else (if i < 16 then (if i < 13 then (if i < 12 then [1, 2, 4, 7] else [1, 2, 4, 7, 85]) else (if i < 14 then [2, 3] else (if i < 15 then [1, 2, 4, 7, 8] else [1, 2, 4, 7, 8, 9]))) else (if i < 19 then (if i < 17 then [1, 2, 4, 7, 8, 9, 123] else (if i < 18 then [1, 2, 4, 7, 8, 9] else [1, 2, 4, 7])) else (if i < 20 then [2, 4, 133] else (if i < 21 then [2, 3] else [2, 3])))))
def draw34 (i : Nat) : DrawInfo := if i = 6 then ⟨[], [0, 1, 2, 3, 4, 5, 6, 7, 8, 9, 10, 11, 12, 13, 14, 15], [[], [0], [0, 1], [0, 1, 2], [0, 1, 2, 3], [0, 1, 2], [0, 1, 2, 3, 4, 5], [0, 1, 2, 3, 4, 5, 6], [0, 1, 2], [0, 1, 2, 8], [0, 1, 2], [0, 1, 2, 10], [0, 1, 2, 8, 9, 10, 11], [0, 1, 2, 8, 9, 10, 11, 12], [0, 1, 2, 3, 4, 5, 6, 7, 8, 9, 10, 11, 12, 13], [0, 1, 2, 3, 4, 5, 6, 7, 8, 9, 10, 11, 12, 13, 14]], []⟩ else if i = 8 then ⟨[], [1, 2, 3, 4, 6, 7, 8, 9, 10, 13, 14, 15, 16, 0, 5, 11, 12, 17, 18, 19], [[], [], [1], [], [1, 2, 3], [0, 1, 2, 3, 4], [], [6], [], [6, 7, 8], [6, 7, 8, 9], [6, 7, 8, 9, 10], [0, 1, 2, 3, 4, 5, 6, 7, 8, 9, 10, 11], [], [13], [], [13, 14, 15], [0, 1, 2, 3, 4, 5, 6, 7, 8, 9, 10, 11, 12, 13, 14, 15, 16], [0, 1, 2, 3, 4, 5, 6, 7, 8, 9, 10, 11, 12, 13, 14, 15, 16, 17], [0, 1, 2, 3, 4, 5, 6, 7, 8, 9, 10, 11, 12, 13, 14, 15, 16, 17, 18]], [[1, 2, 3, 4, 6, 7, 8, 9, 10, 13, 14, 15, 16, 0, 11, 5, 12, 17, 18, 19], [1, 2, 3, 4, 6, 7, 8, 9, 10, 13, 14, 15, 16, 11, 0, 5, 12, 17, 18, 19]]⟩ else if i = 12 then ⟨[], [0, 1, 2, 3, 4, 5, 6, 7, 8, 9, 10], [[], [0], [], [0, 1, 2], [0, 1, 2, 3], [], [5], [5, 6], [5, 6, 7], [0, 1, 2, 3, 4, 5, 6, 7, 8], [0, 1, 2, 3, 4, 5, 6, 7, 8, 9]], []⟩ else if i = 14 then ⟨[9], [0, 1, 2, 3, 4, 5, 6, 7, 8, 10], [[], [0], [], [2], [], [2, 3, 4], [2, 3, 4, 5], [0, 1, 2, 3, 4, 5, 6], [0, 1, 2, 3, 4, 5, 6, 7], [], [0, 1, 2, 3, 4, 5, 6, 7, 8, 9]], []⟩ else if i = 16 then ⟨[], [0, 1, 2, 3, 4, 5, 6, 7, 8, 9, 10, 11, 12, 13, 14, 15, 16, 17, 18, 19, 20, 21, 22, 23, 24, 25, 26, 27], [[], [0], [], [2], [2, 3], [0, 1, 2, 3, 4], [0, 1, 2, 3, 4, 5], [0, 1, 2, 3, 4, 5, 6], [0, 1, 2, 3, 4, 5, 6, 7], [0, 1, 2, 3, 4, 5, 6], [0, 1, 2, 3, 4, 5, 6, 7, 8, 9], [0, 1, 2, 3, 4, 5, 6, 7, 8, 9, 10], [0, 1, 2, 3, 4, 5, 6, 7, 8, 9, 10, 11], [0, 1, 2, 3, 4, 5, 6], [0, 1, 2, 3, 4, 5, 6, 13], [0, 1, 2, 3, 4, 5, 6, 7, 8, 9, 10, 11, 12, 13, 14], [0, 1, 2, 3, 4, 5, 6, 7, 8, 9, 10, 11, 12, 13, 14, 15], [0, 1, 2, 3, 4, 5, 6, 7, 8, 9, 10, 11, 12, 13, 14, 15, 16], [0, 1, 2, 3, 4, 5, 6, 7, 8, 9, 10, 11, 12, 13, 14, 15, 16, 17], [0, 1, 2, 3, 4, 5, 6, 7, 8, 9, 10, 11, 12, 13, 14, 15, 16], [0, 1, 2, 3, 4, 5, 6, 7, 8, 9, 10, 11, 12, 13, 14, 15, 16, 17, 18, 19], [0, 1, 2, 3, 4, 5, 6, 7, 8, 9, 10, 11, 12, 13, 14, 15, 16, 17, 18, 19, 20], [0, 1, 2, 3, 4, 5, 6, 7, 8, 9, 10, 11, 12, 13, 14, 15, 16, 17, 18, 19, 20, 21], [0, 1, 2, 3, 4, 5, 6, 7, 8, 9, 10, 11, 12, 13, 14, 15, 16], [0, 1, 2, 3, 4, 5, 6, 7, 8, 9, 10, 11, 12, 13, 14, 15, 16, 23], [0, 1, 2, 3, 4, 5, 6, 7, 8, 9, 10, 11, 12, 13, 14, 15, 16, 17, 18, 19, 20, 21, 22, 23, 24], [0, 1, 2, 3, 4, 5, 6, 7, 8, 9, 10, 11, 12, 13, 14, 15, 16, 17, 18, 19, 20, 21, 22, 23, 24, 25], [0, 1, 2, 3, 4, 5, 6, 7, 8, 9, 10, 11, 12, 13, 14, 15, 16, 17, 18, 19, 20, 21, 22, 23, 24, 25, 26]], []⟩ else ⟨[], [], [], []⟩
def cfg34 : Cfg := ⟨[1, 2, 4, 8], keep34, draw34⟩
theorem ok34 : codeOK PP cfg34 Go.Proofs.Tryz.f34.ntmps body34 = true := by kernel_rfl
/-! ### 35 parterre/fault.all -/
noncomputable def body35 : Code := match Go.Proofs.Tryz.f35.body with | some c => c | none => .skip
theorem fn35 : PP.funcs[35]? = some Go.Proofs.Tryz.f35 := Go.Proofs.Tryz.func35
theorem bodyEq35 : Go.Proofs.Tryz.f35.body = some body35 := rfl
def keep35 (i : Nat) : List Nat := (if i < 3 then (if i < 1 then [0] else (if i < 2 then [0, 3] else [0, 3, 4])) else (if i < 5 then (if i < 4 then [3, 4, 7] else [3, 4]) else (if i < 6 then [0, 3, 4] else [2])))
def draw35 (i : Nat) : DrawInfo := ⟨[], [], [], []⟩
def cfg35 : Cfg := ⟨[], keep35, draw35⟩
theorem ok35 : codeOK PP cfg35 Go.Proofs.Tryz.f35.ntmps body35 = true := by kernel_rfl
/-! ### 36 parterre/parterreref2.Wrong -/
noncomputable def body36 : Code := match Go.Proofs.Tryz.f36.body with | some c => c | none => .skip
theorem fn36 : PP.funcs[36]? = some Go.Proofs.Tryz.f36 := Go.Proofs.Tryz.func36
theorem bodyEq36 : Go.Proofs.Tryz.f36.body = some body36 := rfl
def keep36 (i : Nat) : List Nat := (if i < 6 then (if i < 3 then (if i < 1 then [1] else (if i < 2 then [1, 3] else [2])) else (if i < 4 then [1, 8] else (if i < 5 then [2] else [1, 13]))) else (if i < 9 then (if i < 7 then [2] else (if i < 8 then [1, 18] else [2])) else (if i < 10 then [26] else (if i < 11 then [2] else [2]))))
def draw36 (i : Nat) : DrawInfo := ⟨[], [], [], []⟩
def cfg36 : Cfg := ⟨[1], keep36, draw36⟩
theorem ok36 : codeOK PP cfg36 Go.Proofs.Tryz.f36.ntmps body36 = true := by kernel_rfl
/-! ### 37 parterre/parterreref2.Decimal -/
noncomputable def body37 : Code := match Go.Proofs.Tryz.f37.body with | some c => c | none => .skip
theorem fn37 : PP.funcs[37]? = some Go.Proofs.Tryz.f37 := Go.Proofs.Tryz.func37
theorem bodyEq37 : Go.Proofs.Tryz.f37.body = some body37 := rfl
def keep37 (i : Nat) : List Nat := (if i < 2 then (if i < 1 then [0] else [0, 4]) else (if i < 3 then [2] else [2]))
def draw37 (i : Nat) : DrawInfo := ⟨[], [], [], []⟩
def cfg37 : Cfg := ⟨[], keep37, draw37⟩
theorem ok37 : codeOK PP cfg37 Go.Proofs.Tryz.f37.ntmps body37 = true := by kernel_rfl
/-! ### 38 parterre/parterreref2.Seat -/
noncomputable def body38 : Code := match Go.Proofs.Tryz.f38.body with | some c => c | none => .skip
theorem fn38 : PP.funcs[38]? = some Go.Proofs.Tryz.f38 := Go.Proofs.Tryz.func38
theorem bodyEq38 : Go.Proofs.Tryz.f38.body = some body38 := rfl
def keep38 (i : Nat) : List Nat := (if i < 1 then [1] else [2])
def draw38 (i : Nat) : DrawInfo := if i = 1 then ⟨[], [0, 1, 4, 5, 9, 10, 14, 15, 2, 3, 6, 7, 8, 11, 12, 13, 16, 17, 18], [[], [0], [0, 1], [0, 1, 2], [], [4], [0, 1, 2, 4, 5], [0, 1, 2, 3, 4, 5, 6], [0, 1, 2, 3, 4, 5, 6, 7], [], [9], [0, 1, 2, 4, 5, 6, 9, 10], [0, 1, 2, 3, 4, 5, 6, 7, 8, 9, 10, 11], [0, 1, 2, 3, 4, 5, 6, 7, 8, 9, 10, 11, 12], [], [14], [0, 1, 2, 4, 5, 6, 9, 10, 11, 14, 15], [0, 1, 2, 3, 4, 5, 6, 7, 8, 9, 10, 11, 12, 13, 14, 15, 16], [0, 1, 2, 3, 4, 5, 6, 7, 8, 9, 10, 11, 12, 13, 14, 15, 16, 17]], []⟩ else ⟨[], [], [], []⟩
def cfg38 : Cfg := ⟨[1], keep38, draw38⟩
theorem ok38 : codeOK PP cfg38 Go.Proofs.Tryz.f38.ntmps body38 = true := by kernel_rfl
/-! ### 43 parterre/token.Next -/
noncomputable def body43 : Code := match Go.Proofs.Tryz.f43.body with | some c => c | none => .skip
theorem fn43 : PP.funcs[43]? = some Go.Proofs.Tryz.f43 := Go.Proofs.Tryz.func43
theorem bodyEq43 : Go.Proofs.Tryz.f43.body = some body43 := rfl
def keep43 (i : Nat) : List Nat := (if i < 13 then (if i < 6 then (if i < 3 then (if i < 1 then [0, 4, 5, 6, 8] else (if i < 2 then [0, 4, 5, 6, 8, 22] else [6, 7, 8, 9])) else (if i < 4 then [0, 4, 5, 6, 8, 10] else (if i < 5 then [0, 4, 5, 6, 8, 10, 11] else [0, 4, 5, 6, 8, 10, 11, 33]))) else (if i < 9 then (if i < 7 then [6, 7, 8, 9] else (if i < 8 then [0, 4, 5, 6, 8, 10, 11, 12] else [0, 4, 5, 6, 8, 10, 11, 12, 13])) else (if i < 11 then (if i < 10 then [0, 4, 5, 6, 8, 10, 11, 12, 13, 50] else [0, 4, 5, 6, 8, 10, 11, 12, 13, 50, 51]) else (if i < 12 then [0, 4, 6, 8, 10, 11, 12, 13, 50, 53] else [0, 4, 6, 8, 10, 11, 12, 13, 50, 55])))) else (if i < 19 then (if i < 16 then (if i < 14 then [0, 4, 6, 8, 10, 11, 12, 13, 57] else (if i < 15 then [5, 6, 8, 10, 12] else [6, 7, 8, 9])) else (if i < 17 then [0, 4, 6, 8, 10, 11, 12] else (if i < 18 then [0, 4, 6, 8, 10, 11, 12, 13] else [0, 4, 6, 8, 10, 11, 12, 13, 14]))) else (if i < 22 then (if i < 20 then [0, 4, 6, 8, 10, 11, 12] else (if i < 21 then [0, 4, 6, 8, 10, 11, 12, 13, 14] else [0, 4, 6, 8, 10, 11, 12, 13, 14])) else (if i < 24 then (if i < 23 then [0, 4, 6, 8, 10, 11, 12, 13, 99] else [6, 7, 8, 9]) else (if i < 25 then [6, 8, 11, 12, 13] else [6, 7, 8, 9])))))
def draw43 (i : Nat) : DrawInfo := if i = 2 then ⟨[], [0, 1, 2, 3, 4, 5, 6], [[], [], [], [0], [0, 1, 3], [0, 1, 2, 3, 4], [0, 1, 2, 3, 4, 5]], []⟩ else if i = 7 then ⟨[7], [0, 1, 2, 3, 4, 5, 6, 8], [[], [0], [], [], [2, 3], [2, 3, 4], [0, 1, 2, 3, 4, 5], [], [0, 1, 2, 3, 4, 5, 6, 7]], []⟩ else if i = 15 then ⟨[], [0, 1, 2, 3, 4, 5, 6, 7, 8, 9, 10], [[], [], [1], [], [3], [3, 4], [3, 4, 5], [0], [0, 1, 2, 7], [0, 1, 2, 3, 4, 5, 6, 7, 8], [0, 1, 2, 3, 4, 5, 6, 7, 8, 9]], []⟩ else if i = 23 then ⟨[], [0, 1, 2, 3, 4, 5, 6, 7, 8], [[], [], [], [], [2, 3], [0, 2, 3, 4], [0, 1, 2, 3, 4, 5], [0, 1, 2, 3, 4, 5, 6], [0, 1, 2, 3, 4, 5, 6, 7]], []⟩ else if i = 25 then ⟨[], [0, 1, 2, 3, 4, 5, 6, 7, 8], [[], [], [], [], [2, 3], [0, 2, 3, 4], [0, 1, 2, 3, 4, 5], [0, 1, 2, 3, 4, 5, 6], [0, 1, 2, 3, 4, 5, 6, 7]], []⟩ else ⟨[], [], [], []⟩
def cfg43 : Cfg := ⟨[6, 8, 12], keep43, draw43⟩
theorem ok43 : codeOK PP cfg43 Go.Proofs.Tryz.f43.ntmps body43 = true := by kernel_rfl
/-! ### 44 parterre/fault.Wrap -/
noncomputable def body44 : Code := match Go.Proofs.Tryz.f44.body with | some c => c | none => .skip
theorem fn44 : PP.funcs[44]? = some Go.Proofs.Tryz.f44 := Go.Proofs.Tryz.func44
theorem bodyEq44 : Go.Proofs.Tryz.f44.body = some body44 := rfl
def keep44 (i : Nat) : List Nat := (if i < 3 then (if i < 1 then [0, 1] else (if i < 2 then [0, 1, 5] else [4])) else (if i < 4 then [0, 1, 9] else (if i < 5 then [4] else [4])))
def draw44 (i : Nat) : DrawInfo := ⟨[], [], [], []⟩
def cfg44 : Cfg := ⟨[], keep44, draw44⟩
theorem ok44 : codeOK PP cfg44 Go.Proofs.Tryz.f44.ntmps body44 = true := by kernel_rfl
/-! ### 45 parterre/token.Line -/
noncomputable def body45 : Code := match Go.Proofs.Tryz.f45.body with | some c => c | none => .skip
theorem fn45 : PP.funcs[45]? = some Go.Proofs.Tryz.f45 := Go.Proofs.Tryz.func45
theorem bodyEq45 : Go.Proofs.Tryz.f45.body = some body45 := rfl
def keep45 (i : Nat) : List Nat := (if i < 4 then (if i < 2 then (if i < 1 then [0, 1] else [0, 1, 14]) else (if i < 3 then [4, 5] else [0, 1, 6])) else (if i < 6 then (if i < 5 then [0, 1, 6, 20] else [0, 1, 6]) else (if i < 7 then [0, 1, 6, 28] else (if i < 8 then [4, 5] else [4, 5]))))
def draw45 (i : Nat) : DrawInfo := ⟨[], [], [], []⟩
def cfg45 : Cfg := ⟨[], keep45, draw45⟩
theorem ok45 : codeOK PP cfg45 Go.Proofs.Tryz.f45.ntmps body45 = true := by kernel_rfl
/-! ### 46 parterre/parse.spot -/
noncomputable def body46 : Code := match Go.Proofs.Tryz.f46.body with | some c => c | none => .skip
theorem fn46 : PP.funcs[46]? = some Go.Proofs.Tryz.f46 := Go.Proofs.Tryz.func46
theorem bodyEq46 : Go.Proofs.Tryz.f46.body = some body46 := rfl
def keep46 (i : Nat) : List Nat := (if i < 1 then [1, 2] else [2])
def draw46 (i : Nat) : DrawInfo := ⟨[], [], [], []⟩
def cfg46 : Cfg := ⟨[1, 2], keep46, draw46⟩
theorem ok46 : codeOK PP cfg46 Go.Proofs.Tryz.f46.ntmps body46 = true := by kernel_rfl
/-! ### 47 parterre/parse.numbers -/
noncomputable def body47 : Code := match Go.Proofs.Tryz.f47.body with | some c => c | none => .skip
theorem fn47 : PP.funcs[47]? = some Go.Proofs.Tryz.f47 := Go.Proofs.Tryz.func47
theorem bodyEq47 : Go.Proofs.Tryz.f47.body = some body47 := rfl
def keep47 (i : Nat) : List Nat := (if i < 11 then (if i < 5 then (if i < 2 then (if i < 1 then [0, 3] else [0, 3, 6, 7]) else (if i < 3 then [0, 3, 6, 28] else (if i < 4 then [4, 5] else [0, 3, 6, 8]))) else (if i < 8 then (if i < 6 then [0, 3, 6, 8, 35, 36] else (if i < 7 then [0, 3, 6, 8, 35, 36, 37] else [0, 3, 6, 8, 9, 35, 36])) else (if i < 9 then [0, 3, 6, 8, 9, 35, 36, 39] else (if i < 10 then [4, 5] else [0, 3, 6, 8, 9, 35, 36, 47])))) else (if i < 17 then (if i < 14 then (if i < 12 then [4, 5] else (if i < 13 then [0, 3, 6, 8, 35, 36] else [0, 3, 6, 8, 35, 36])) else (if i < 15 then [0, 6, 8, 77] else (if i < 16 then [4, 5] else [0, 8, 86, 87, 88]))) else (if i < 20 then (if i < 18 then [0, 8, 86, 87, 88, 89] else (if i < 19 then [0, 8, 10, 11, 86, 87, 88] else [0, 8, 10, 86, 87, 88, 99])) else (if i < 21 then [4, 5] else (if i < 22 then [0, 8, 86, 87, 88] else [4, 5])))))
def draw47 (i : Nat) : DrawInfo := ⟨[], [], [], []⟩
def cfg47 : Cfg := ⟨[3], keep47, draw47⟩
theorem ok47 : codeOK PP cfg47 Go.Proofs.Tryz.f47.ntmps body47 = true := by kernel_rfl
/-! ### 48 (*parterre/parse.reader).add -/
noncomputable def body48 : Code := match Go.Proofs.Tryz.f48.body with | some c => c | none => .skip
theorem fn48 : PP.funcs[48]? = some Go.Proofs.Tryz.f48 := Go.Proofs.Tryz.func48
theorem bodyEq48 : Go.Proofs.Tryz.f48.body = some body48 := rfl
def keep48 (i : Nat) : List Nat := (if i < 12 then (if i < 6 then (if i < 3 then (if i < 1 then [0, 1, 2] else (if i < 2 then [0, 1, 2, 13] else [0, 1, 2, 7])) else (if i < 4 then [0, 1, 2, 7, 9] else (if i < 5 then [0, 1, 2, 7, 30] else [6]))) else (if i < 9 then (if i < 7 then [0, 1, 2] else (if i < 8 then [0] else [6])) else (if i < 10 then [0, 1, 2, 13, 75] else (if i < 11 then [0, 2, 82] else [6])))) else (if i < 18 then (if i < 15 then (if i < 13 then [] else (if i < 14 then [0, 1, 2, 13, 90] else [0, 2, 95])) else (if i < 16 then [6] else (if i < 17 then [] else [0, 1, 2, 13, 106]))) else (if i < 21 then (if i < 19 then [0] else (if i < 20 then [6] else [0, 1, 2, 139])) else (if i < 22 then [0] else (if i < 23 then [6] else [6])))))
def draw48 (i : Nat) : DrawInfo := if i = 18 then ⟨[], [0, 1, 2, 3, 4, 5, 6, 7, 8, 9, 10, 11, 12, 13, 14, 16, 17, 18, 15, 19, 20, 21, 22, 23, 24, 25], [[], [], [1], [1, 2], [1, 2, 3], [], [5], [5, 6], [], [8], [8, 9], [5, 6, 7, 8, 9, 10], [], [12], [12, 13], [12, 13, 14], [], [16], [16, 17], [12, 13, 14, 15, 16, 17, 18], [5, 6, 7, 8, 9, 10, 11, 12, 13, 14, 15, 16, 17, 18, 19], [5, 6, 7, 8, 9, 10, 11, 12, 13, 14, 15, 16, 17, 18, 19, 20], [1, 2, 3, 4, 5, 6, 7, 8, 9, 10, 11, 12, 13, 14, 15, 16, 17, 18, 19, 20, 21], [0, 1, 2, 3, 4, 5, 6, 7, 8, 9, 10, 11, 12, 13, 14, 15, 16, 17, 18, 19, 20, 21, 22], [0, 1, 2, 3, 4, 5, 6, 7, 8, 9, 10, 11, 12, 13, 14, 15, 16, 17, 18, 19, 20, 21, 22, 23], [0, 1, 2, 3, 4, 5, 6, 7, 8, 9, 10, 11, 12, 13, 14, 15, 16, 17, 18, 19, 20, 21, 22, 23, 24]], []⟩ else if i = 21 then ⟨[], [0, 1, 2, 3, 4, 5, 6, 7, 8, 9, 10, 11, 12, 13, 14, 15, 16, 17, 18, 19, 20, 21], [[], [], [1], [1, 2], [1, 2, 3], [1, 2, 3, 4], [], [6], [6, 7], [], [9], [9, 10], [], [12], [12, 13], [6, 7, 8, 9, 10, 11, 12, 13, 14], [6, 7, 8, 9, 10, 11, 12, 13, 14, 15], [1, 2, 3, 4, 5, 6, 7, 8, 9, 10, 11, 12, 13, 14, 15, 16], [0, 1, 2, 3, 4, 5, 6, 7, 8, 9, 10, 11, 12, 13, 14, 15, 16, 17], [0, 1, 2, 3, 4, 5, 6, 7, 8, 9, 10, 11, 12, 13, 14, 15, 16, 17, 18], [0, 1, 2, 3, 4, 5, 6, 7, 8, 9, 10, 11, 12, 13, 14, 15, 16, 17, 18, 19], [0, 1, 2, 3, 4, 5, 6, 7, 8, 9, 10, 11, 12, 13, 14, 15, 16, 17, 18, 19, 20]], []⟩ else if i = 2 then ⟨[7], [0, 1, 2, 3, 4, 5, 6, 8], [[], [0], [0, 1], [], [3], [3, 4], [0, 1, 2, 3, 4, 5], [], [0, 1, 2, 3, 4, 5, 6, 7]], []⟩ else if i = 3 then ⟨[], [0, 1, 2, 3, 4, 5, 6, 7, 8, 9, 10], [[], [0], [0, 1], [0, 1, 2], [], [0, 1, 2, 3, 4], [0, 1, 2, 3, 4, 5], [0, 1, 2, 3, 4, 5, 6], [0, 1, 2, 3, 4, 5, 6], [0, 1, 2, 3, 4, 5, 6, 7], [0, 1, 2, 3, 4, 5, 6, 7, 8, 9]], []⟩ else if i = 6 then ⟨[], [0, 1, 2, 3, 4, 5, 6, 7, 8, 9, 10, 11], [[], [0], [0, 1], [0, 1, 2], [], [], [5], [5, 6], [5, 6, 7], [5, 6, 7, 8], [5, 6, 7, 8, 9], [0, 1, 2, 3, 4, 5, 6, 7, 8, 9, 10]], []⟩ else if i = 7 then ⟨[], [0, 1, 2, 3, 4, 5, 6, 7, 8, 9, 10, 11, 12, 13, 14, 15, 16, 17, 18, 19, 20, 21, 22, 23, 24, 25, 26], [[], [], [1], [1, 2], [1, 2, 3], [1, 2, 3, 4], [], [6], [6, 7], [], [9], [9, 10], [], [12], [12, 13], [], [15], [15, 16], [15, 16, 17], [15, 16, 17, 18], [6, 7, 8, 9, 10, 11, 12, 13, 14, 15, 16, 17, 18, 19], [6, 7, 8, 9, 10, 11, 12, 13, 14, 15, 16, 17, 18, 19, 20], [1, 2, 3, 4, 5, 6, 7, 8, 9, 10, 11, 12, 13, 14, 15, 16, 17, 18, 19, 20, 21], [0, 1, 2, 3, 4, 5, 6, 7, 8, 9, 10, 11, 12, 13, 14, 15, 16, 17, 18, 19, 20, 21, 22], [0, 1, 2, 3, 4, 5, 6, 7, 8, 9, 10, 11, 12, 13, 14, 15, 16, 17, 18, 19, 20, 21, 22, 23], [0, 1, 2, 3, 4, 5, 6, 7, 8, 9, 10, 11, 12, 13, 14, 15, 16, 17, 18, 19, 20, 21, 22, 23, 24], [0, 1, 2, 3, 4, 5, 6, 7, 8, 9, 10, 11, 12, 13, 14, 15, 16, 17, 18, 19, 20, 21, 22, 23, 24, 25]], []⟩ else ⟨[], [], [], []⟩
def cfg48 : Cfg := ⟨[7], keep48, draw48⟩
theorem ok48 : codeOK PP cfg48 Go.Proofs.Tryz.f48.ntmps body48 = true := by kernel_rfl
/-! ### 49 slices.Contains[[]int,int] -/
noncomputable def body49 : Code := match Go.Proofs.Tryz.f49.body with | some c => c | none => .skip
theorem fn49 : PP.funcs[49]? = some Go.Proofs.Tryz.f49 := Go.Proofs.Tryz.func49
theorem bodyEq49 : Go.Proofs.Tryz.f49.body = some body49 := rfl
def keep49 (i : Nat) : List Nat := (if i < 1 then [0, 1] else [4])
def draw49 (i : Nat) : DrawInfo := ⟨[], [], [], []⟩
def cfg49 : Cfg := ⟨[], keep49, draw49⟩
theorem ok49 : codeOK PP cfg49 Go.Proofs.Tryz.f49.ntmps body49 = true := by kernel_rfl
/-! ### 50 slices.Clone[[]parterre/api.Seat,parterre/api.Seat] -/
noncomputable def body50 : Code := match Go.Proofs.Tryz.f50.body with | some c => c | none => .skip
theorem fn50 : PP.funcs[50]? = some Go.Proofs.Tryz.f50 := Go.Proofs.Tryz.func50
theorem bodyEq50 : Go.Proofs.Tryz.f50.body = some body50 := rfl
def keep50 (i : Nat) : List Nat := (if i < 2 then (if i < 1 then [0] else [0, 4]) else (if i < 3 then [2] else [2]))
def draw50 (i : Nat) : DrawInfo := ⟨[], [], [], []⟩
def cfg50 : Cfg := ⟨[], keep50, draw50⟩
theorem ok50 : codeOK PP cfg50 Go.Proofs.Tryz.f50.ntmps body50 = true := by kernel_rfl
/-! ### 51 slices.Clone[[]parterre/api.Pole,parterre/api.Pole] -/
noncomputable def body51 : Code := match Go.Proofs.Tryz.f51.body with | some c => c | none => .skip
theorem fn51 : PP.funcs[51]? = some Go.Proofs.Tryz.f51 := Go.Proofs.Tryz.func51
theorem bodyEq51 : Go.Proofs.Tryz.f51.body = some body51 := rfl
def keep51 (i : Nat) : List Nat := (if i < 2 then (if i < 1 then [0] else [0, 4]) else (if i < 3 then [2] else [2]))
def draw51 (i : Nat) : DrawInfo := ⟨[], [], [], []⟩
def cfg51 : Cfg := ⟨[], keep51, draw51⟩
theorem ok51 : codeOK PP cfg51 Go.Proofs.Tryz.f51.ntmps body51 = true := by kernel_rfl
/-! ### 52 slices.SortFunc[[]parterre/api.Seat,parterre/api.Seat] -/
noncomputable def body52 : Code := match Go.Proofs.Tryz.f52.body with | some c => c | none => .skip
theorem fn52 : PP.funcs[52]? = some Go.Proofs.Tryz.f52 := Go.Proofs.Tryz.func52
theorem bodyEq52 : Go.Proofs.Tryz.f52.body = some body52 := rfl
def keep52 (i : Nat) : List Nat := (if i < 1 then [0, 1, 4] else [])
def draw52 (i : Nat) : DrawInfo := ⟨[], [], [], []⟩
def cfg52 : Cfg := ⟨[], keep52, draw52⟩
theorem ok52 : codeOK PP cfg52 Go.Proofs.Tryz.f52.ntmps body52 = true := by kernel_rfl
/-! ### 53 parterre/venue.Norm$1 -/
noncomputable def body53 : Code := match Go.Proofs.Tryz.f53.body with | some c => c | none => .skip
theorem fn53 : PP.funcs[53]? = some Go.Proofs.Tryz.f53 := Go.Proofs.Tryz.func53
theorem bodyEq53 : Go.Proofs.Tryz.f53.body = some body53 := rfl
def keep53 (i : Nat) : List Nat := (if i < 3 then (if i < 1 then [2, 3] else (if i < 2 then [2, 3, 5] else [4])) else (if i < 4 then [9] else (if i < 5 then [4] else [4])))
def draw53 (i : Nat) : DrawInfo := ⟨[], [], [], []⟩
def cfg53 : Cfg := ⟨[2, 3], keep53, draw53⟩
theorem ok53 : codeOK PP cfg53 Go.Proofs.Tryz.f53.ntmps body53 = true := by kernel_rfl
/-! ### 54 parterre/venue.Less -/
noncomputable def body54 : Code := match Go.Proofs.Tryz.f54.body with | some c => c | none => .skip
theorem fn54 : PP.funcs[54]? = some Go.Proofs.Tryz.f54 := Go.Proofs.Tryz.func54
theorem bodyEq54 : Go.Proofs.Tryz.f54.body = some body54 := rfl
def keep54 (i : Nat) : List Nat := (if i < 1 then [2, 3] else [4])
def draw54 (i : Nat) : DrawInfo := ⟨[], [], [], []⟩
def cfg54 : Cfg := ⟨[2, 3], keep54, draw54⟩
theorem ok54 : codeOK PP cfg54 Go.Proofs.Tryz.f54.ntmps body54 = true := by kernel_rfl
/-! ### 55 slices.IndexFunc[[]parterre/api.Seat,parterre/api.Seat] -/
noncomputable def body55 : Code := match Go.Proofs.Tryz.f55.body with | some c => c | none => .skip
theorem fn55 : PP.funcs[55]? = some Go.Proofs.Tryz.f55 := Go.Proofs.Tryz.func55
theorem bodyEq55 : Go.Proofs.Tryz.f55.body = some body55 := rfl
def keep55 (i : Nat) : List Nat := (if i < 4 then (if i < 2 then (if i < 1 then [0, 1] else [0, 1, 7, 8]) else (if i < 3 then [0, 1, 7, 8, 9] else [0, 1, 5, 7, 8])) else (if i < 6 then (if i < 5 then [0, 1, 5, 7, 8, 16] else [4]) else (if i < 7 then [0, 1, 7, 8] else [4])))
def draw55 (i : Nat) : DrawInfo := ⟨[], [], [], []⟩
def cfg55 : Cfg := ⟨[], keep55, draw55⟩
theorem ok55 : codeOK PP cfg55 Go.Proofs.Tryz.f55.ntmps body55 = true := by kernel_rfl
/-! ### 56 parterre/venue.Norm$2 -/
noncomputable def body56 : Code := match Go.Proofs.Tryz.f56.body with | some c => c | none => .skip
theorem fn56 : PP.funcs[56]? = some Go.Proofs.Tryz.f56 := Go.Proofs.Tryz.func56
theorem bodyEq56 : Go.Proofs.Tryz.f56.body = some body56 := rfl
def keep56 (i : Nat) : List Nat := (if i < 1 then [1, 2] else [3])
def draw56 (i : Nat) : DrawInfo := ⟨[], [], [], []⟩
def cfg56 : Cfg := ⟨[2], keep56, draw56⟩
theorem ok56 : codeOK PP cfg56 Go.Proofs.Tryz.f56.ntmps body56 = true := by kernel_rfl
/-! ### 57 slices.Sort[[]int,int] -/
noncomputable def body57 : Code := match Go.Proofs.Tryz.f57.body with | some c => c | none => .skip
theorem fn57 : PP.funcs[57]? = some Go.Proofs.Tryz.f57 := Go.Proofs.Tryz.func57
theorem bodyEq57 : Go.Proofs.Tryz.f57.body = some body57 := rfl
def keep57 (i : Nat) : List Nat := (if i < 1 then [0, 2] else [])
def draw57 (i : Nat) : DrawInfo := ⟨[], [], [], []⟩
def cfg57 : Cfg := ⟨[], keep57, draw57⟩
theorem ok57 : codeOK PP cfg57 Go.Proofs.Tryz.f57.ntmps body57 = true := by kernel_rfl
/-! ### 58 slices.Compact[[]int,int] -/
noncomputable def body58 : Code := match Go.Proofs.Tryz.f58.body with | some c => c | none => .skip
theorem fn58 : PP.funcs[58]? = some Go.Proofs.Tryz.f58 := Go.Proofs.Tryz.func58
theorem bodyEq58 : Go.Proofs.Tryz.f58.body = some body58 := rfl
def keep58 (i : Nat) : List Nat := (if i < 8 then (if i < 4 then (if i < 2 then (if i < 1 then [0] else [0, 8]) else (if i < 3 then [2] else [0, 3])) else (if i < 6 then (if i < 5 then [0, 3, 13] else [0, 3]) else (if i < 7 then [0, 3, 25] else [0, 3, 4]))) else (if i < 12 then (if i < 10 then (if i < 9 then [0, 3, 4, 5] else [0, 3, 4, 5, 32]) else (if i < 11 then [0, 3, 4, 5] else [0, 3, 4, 5, 44])) else (if i < 14 then (if i < 13 then [0, 3, 4, 5] else [0, 3, 4, 5]) else (if i < 15 then [0, 3] else (if i < 16 then [2] else [2])))))
def draw58 (i : Nat) : DrawInfo := if i = 6 then ⟨[], [0, 1, 2, 3, 4, 5, 6, 7, 8, 9], [[], [], [0, 1], [0, 1, 2], [], [], [5], [4, 5, 6], [4, 5, 6, 7], [0, 1, 2, 3, 4, 5, 6, 7, 8]], []⟩ else if i = 11 then ⟨[], [0, 1, 2, 3, 4, 5, 6, 7, 8, 9], [[], [], [0, 1], [0, 1, 2], [], [], [5], [4, 5, 6], [4, 5, 6, 7], [0, 1, 2, 3, 4, 5, 6, 7, 8]], []⟩ else ⟨[], [], [], []⟩
def cfg58 : Cfg := ⟨[], keep58, draw58⟩
theorem ok58 : codeOK PP cfg58 Go.Proofs.Tryz.f58.ntmps body58 = true := by kernel_rfl
/-! ### 59 parterre/venue.May -/
noncomputable def body59 : Code := match Go.Proofs.Tryz.f59.body with | some c => c | none => .skip
theorem fn59 : PP.funcs[59]? = some Go.Proofs.Tryz.f59 := Go.Proofs.Tryz.func59
theorem bodyEq59 : Go.Proofs.Tryz.f59.body = some body59 := rfl
def keep59 (i : Nat) : List Nat := (if i < 1 then [1] else [2])
def draw59 (i : Nat) : DrawInfo := ⟨[], [], [], []⟩
def cfg59 : Cfg := ⟨[1], keep59, draw59⟩
theorem ok59 : codeOK PP cfg59 Go.Proofs.Tryz.f59.ntmps body59 = true := by kernel_rfl
/-! ### 60 parterre/parterreref2.Next -/
noncomputable def body60 : Code := match Go.Proofs.Tryz.f60.body with | some c => c | none => .skip
theorem fn60 : PP.funcs[60]? = some Go.Proofs.Tryz.f60 := Go.Proofs.Tryz.func60
theorem bodyEq60 : Go.Proofs.Tryz.f60.body = some body60 := rfl
def keep60 (i : Nat) : List Nat := (if i < 15 then (if i < 7 then (if i < 3 then (if i < 1 then [0, 1, 5, 6, 8] else (if i < 2 then [0, 1, 5, 6, 8, 24] else [6, 7, 8, 9])) else (if i < 5 then (if i < 4 then [0, 1, 5, 6, 8, 10] else [0, 1, 6, 8, 10, 11]) else (if i < 6 then [0, 1, 6, 8, 10, 11, 12] else [0, 1, 6, 8, 10, 11, 12, 41]))) else (if i < 11 then (if i < 9 then (if i < 8 then [6, 7, 8, 9] else [0, 1, 6, 8, 10, 11, 12, 49]) else (if i < 10 then [6, 8, 10, 11, 12] else [6, 7, 8, 9])) else (if i < 13 then (if i < 12 then [0, 1, 6, 8, 10, 11, 12, 13] else [0, 1, 6, 8, 10, 11, 12, 13, 66]) else (if i < 14 then [0, 1, 6, 8, 10, 11, 12, 13, 76] else [0, 1, 6, 8, 10, 11, 12, 13])))) else (if i < 23 then (if i < 19 then (if i < 17 then (if i < 16 then [0, 1, 6, 8, 10, 11, 12, 13] else [0, 1, 6, 8, 10, 11, 12, 13, 88]) else (if i < 18 then [0, 1, 6, 8, 10, 11, 12, 13] else [0, 1, 6, 8, 10, 11, 12, 13, 14])) else (if i < 21 then (if i < 20 then [0, 1, 6, 8, 10, 11, 12, 13, 14, 101] else [0, 1, 6, 8, 10, 11, 12, 13, 14]) else (if i < 22 then [0, 1, 6, 8, 10, 11, 12, 13, 106] else [6, 7, 8, 9]))) else (if i < 27 then (if i < 25 then (if i < 24 then [0, 1, 6, 8, 10, 11, 12, 13] else [0, 1, 6, 8, 10, 11, 12, 13, 15, 16]) else (if i < 26 then [0, 1, 6, 8, 10, 11, 12, 13, 15, 123] else [6, 7, 8, 9])) else (if i < 29 then (if i < 28 then [0, 1, 6, 8, 10, 11, 12, 13] else [1, 6, 8, 10, 11, 12, 13, 150]) else (if i < 30 then [6, 7, 8, 9] else [6, 7, 8, 9])))))
def draw60 (i : Nat) : DrawInfo := if i = 2 then ⟨[], [0, 1, 2, 3, 4, 5, 6], [[], [], [], [0], [0, 1, 3], [0, 1, 2, 3, 4], [0, 1, 2, 3, 4, 5]], []⟩ else if i = 7 then ⟨[], [0, 1, 2, 3, 4, 5, 6], [[], [], [], [0], [0, 1, 3], [0, 1, 2, 3, 4], [0, 1, 2, 3, 4, 5]], []⟩ else if i = 10 then ⟨[], [0, 1, 2, 3, 4, 5, 6, 7, 8, 9, 10], [[], [], [1], [], [3], [3, 4], [3, 4, 5], [0], [0, 1, 2, 7], [0, 1, 2, 3, 4, 5, 6, 7, 8], [0, 1, 2, 3, 4, 5, 6, 7, 8, 9]], []⟩ else if i = 15 then ⟨[], [0, 1, 2, 3, 4, 5, 6, 7], [[], [], [], [0, 1, 2], [], [4], [0, 1, 2, 3, 4, 5], [0, 1, 2, 3, 4, 5, 6]], []⟩ else if i = 22 then ⟨[], [0, 1, 2, 3, 4, 5, 6], [[], [], [], [0], [0, 1, 3], [0, 1, 2, 3, 4], [0, 1, 2, 3, 4, 5]], []⟩ else if i = 23 then ⟨[], [0, 1, 2, 3, 4, 5, 6, 7], [[], [], [], [0, 1, 2], [], [4], [0, 1, 2, 3, 4, 5], [0, 1, 2, 3, 4, 5, 6]], []⟩ else if i = 26 then ⟨[], [0, 1, 2, 3, 4, 5, 6], [[], [], [], [0], [0, 1, 3], [0, 1, 2, 3, 4], [0, 1, 2, 3, 4, 5]], []⟩ else if i = 30 then ⟨[], [0, 1, 2, 3, 4, 5, 6, 7, 8, 9, 10], [[], [], [], [], [], [3, 4], [2, 3, 4, 5], [0, 2, 3, 4, 5, 6], [0, 1, 2, 3, 4, 5, 6, 7], [0, 1, 2, 3, 4, 5, 6, 7, 8], [0, 1, 2, 3, 4, 5, 6, 7, 8, 9]], []⟩ else ⟨[], [], [], []⟩
def cfg60 : Cfg := ⟨[5, 6, 8, 11, 12], keep60, draw60⟩
theorem ok60 : codeOK PP cfg60 Go.Proofs.Tryz.f60.ntmps body60 = true := by kernel_rfl
/-! ### 61 parterre/parterreref2.form -/
noncomputable def body61 : Code := match Go.Proofs.Tryz.f61.body with | some c => c | none => .skip
theorem fn61 : PP.funcs[61]? = some Go.Proofs.Tryz.f61 := Go.Proofs.Tryz.func61
theorem bodyEq61 : Go.Proofs.Tryz.f61.body = some body61 := rfl
def keep61 (i : Nat) : List Nat := (if i < 6 then (if i < 3 then (if i < 1 then [0] else (if i < 2 then [3] else [3, 4])) else (if i < 4 then [3, 4] else (if i < 5 then [3, 4] else [3, 4]))) else (if i < 9 then (if i < 7 then [2] else (if i < 8 then [3, 9] else [3, 9])) else (if i < 11 then (if i < 10 then [2] else [12]) else (if i < 12 then [2] else [2]))))
def draw61 (i : Nat) : DrawInfo := ⟨[], [], [], []⟩
def cfg61 : Cfg := ⟨[], keep61, draw61⟩
theorem ok61 : codeOK PP cfg61 Go.Proofs.Tryz.f61.ntmps body61 = true := by kernel_rfl
/-! ### 62 parterre/parterreref2.lets -/
noncomputable def body62 : Code := match Go.Proofs.Tryz.f62.body with | some c => c | none => .skip
theorem fn62 : PP.funcs[62]? = some Go.Proofs.Tryz.f62 := Go.Proofs.Tryz.func62
theorem bodyEq62 : Go.Proofs.Tryz.f62.body = some body62 := rfl
def keep62 (i : Nat) : List Nat := (if i < 5 then (if i < 2 then (if i < 1 then [0, 1, 2] else [0, 1, 2, 7]) else (if i < 3 then [6] else (if i < 4 then [0, 1, 2, 12] else [6]))) else (if i < 7 then (if i < 6 then [0, 1, 2, 17] else [6]) else (if i < 8 then [2, 26] else (if i < 9 then [6] else [6]))))
def draw62 (i : Nat) : DrawInfo := ⟨[], [], [], []⟩
def cfg62 : Cfg := ⟨[], keep62, draw62⟩
theorem ok62 : codeOK PP cfg62 Go.Proofs.Tryz.f62.ntmps body62 = true := by kernel_rfl
/-! ### 63 (*parterre/parterreref2.Parser).add -/
noncomputable def body63 : Code := match Go.Proofs.Tryz.f63.body with | some c => c | none => .skip
theorem fn63 : PP.funcs[63]? = some Go.Proofs.Tryz.f63 := Go.Proofs.Tryz.func63
theorem bodyEq63 : Go.Proofs.Tryz.f63.body = some body63 := rfl
def keep63 (i : Nat) : List Nat := (if i < 13 then (if i < 6 then (if i < 3 then (if i < 1 then [0, 1, 2] else (if i < 2 then [0, 1, 2, 8] else [0, 1, 2, 8, 9])) else (if i < 4 then [0] else (if i < 5 then [0] else [6]))) else (if i < 9 then (if i < 7 then [0, 1, 2, 8, 31] else (if i < 8 then [0] else [0])) else (if i < 11 then (if i < 10 then [6] else [0, 1, 2, 8, 53]) else (if i < 12 then [0, 2] else [0])))) else (if i < 20 then (if i < 16 then (if i < 14 then [6] else (if i < 15 then [0, 1, 2, 113] else [0])) else (if i < 18 then (if i < 17 then [6] else [0, 1, 7]) else (if i < 19 then [0, 7, 159] else [0, 7, 159, 160]))) else (if i < 23 then (if i < 21 then [0, 7] else (if i < 22 then [0, 7, 163] else [0, 7])) else (if i < 25 then (if i < 24 then [0, 7, 172] else [6]) else (if i < 26 then [0] else [6])))))
def draw63 (i : Nat) : DrawInfo := if i = 11 then ⟨[], [0, 1, 2, 3, 4, 5, 6, 7, 8, 9, 12, 13, 14, 15, 16, 17, 18, 19, 10, 11, 20, 21, 22, 23, 24, 25, 26, 27], [[], [], [], [2], [2, 3], [2, 3, 4], [], [6], [6, 7], [6, 7, 8], [6, 7, 8, 9], [2, 3, 4, 5, 6, 7, 8, 9, 10], [], [12], [12, 13], [12, 13, 14], [], [16], [16, 17], [16, 17, 18], [16, 17, 18, 19], [2, 3, 4, 5, 6, 7, 8, 9, 10, 11, 12, 13, 14, 15, 16, 17, 18, 19, 20], [0, 2, 3, 4, 5, 6, 7, 8, 9, 10, 11, 12, 13, 14, 15, 16, 17, 18, 19, 20, 21], [0, 2, 3, 4, 5, 6, 7, 8, 9, 10, 11, 12, 13, 14, 15, 16, 17, 18, 19, 20, 21, 22], [0, 2, 3, 4, 5, 6, 7, 8, 9, 10, 11, 12, 13, 14, 15, 16, 17, 18, 19, 20, 21, 22, 23], [0, 1, 2, 3, 4, 5, 6, 7, 8, 9, 10, 11, 12, 13, 14, 15, 16, 17, 18, 19, 20, 21, 22, 23, 24], [0, 1, 2, 3, 4, 5, 6, 7, 8, 9, 10, 11, 12, 13, 14, 15, 16, 17, 18, 19, 20, 21, 22, 23, 24, 25], [0, 1, 2, 3, 4, 5, 6, 7, 8, 9, 10, 11, 12, 13, 14, 15, 16, 17, 18, 19, 20, 21, 22, 23, 24, 25, 26]], [[0, 1, 2, 3, 4, 5, 6, 7, 8, 9, 12, 13, 14, 15, 16, 17, 18, 19, 10, 20, 11, 21, 22, 23, 24, 25, 26, 27], [0, 1, 2, 3, 4, 5, 6, 7, 8, 9, 12, 13, 14, 15, 16, 17, 18, 19, 20, 10, 11, 21, 22, 23, 24, 25, 26, 27]]⟩ else if i = 12 then ⟨[], [0, 1, 2, 3, 4, 5, 6, 7, 8, 12, 13, 14, 15, 16, 17, 18, 9, 10, 11, 19, 20, 21, 22, 23, 24, 25, 26, 27], [[], [], [], [2], [2, 3], [2, 3, 4], [], [6], [6, 7], [6, 7, 8], [6, 7, 8, 9], [2, 3, 4, 5, 6, 7, 8, 9, 10], [], [12], [12, 13], [12, 13, 14], [], [16], [16, 17], [2, 3, 4, 5, 6, 7, 8, 9, 10, 11, 16, 17, 18], [2, 3, 4, 5, 6, 7, 8, 9, 10, 11, 16, 17, 18, 19], [2, 3, 4, 5, 6, 7, 8, 9, 10, 11, 12, 13, 14, 15, 16, 17, 18, 19, 20], [0, 2, 3, 4, 5, 6, 7, 8, 9, 10, 11, 12, 13, 14, 15, 16, 17, 18, 19, 20, 21], [0, 2, 3, 4, 5, 6, 7, 8, 9, 10, 11, 12, 13, 14, 15, 16, 17, 18, 19, 20, 21, 22], [0, 2, 3, 4, 5, 6, 7, 8, 9, 10, 11, 12, 13, 14, 15, 16, 17, 18, 19, 20, 21, 22, 23], [0, 1, 2, 3, 4, 5, 6, 7, 8, 9, 10, 11, 12, 13, 14, 15, 16, 17, 18, 19, 20, 21, 22, 23, 24], [0, 1, 2, 3, 4, 5, 6, 7, 8, 9, 10, 11, 12, 13, 14, 15, 16, 17, 18, 19, 20, 21, 22, 23, 24, 25], [0, 1, 2, 3, 4, 5, 6, 7, 8, 9, 10, 11, 12, 13, 14, 15, 16, 17, 18, 19, 20, 21, 22, 23, 24, 25, 26]], []⟩ else if i = 15 then ⟨[], [0, 1, 2, 3, 4, 5, 6, 7, 8, 9, 10, 11, 12, 13, 14, 15, 16, 17, 18, 19, 20, 21, 22, 23, 24], [[], [], [1], [1, 2], [1, 2, 3], [1, 2, 3, 4], [], [6], [6, 7], [6, 7, 8], [], [10], [10, 11], [10, 11, 12], [], [14], [14, 15], [14, 15, 16], [6, 7, 8, 9, 10, 11, 12, 13, 14, 15, 16, 17], [6, 7, 8, 9, 10, 11, 12, 13, 14, 15, 16, 17, 18], [1, 2, 3, 4, 5, 6, 7, 8, 9, 10, 11, 12, 13, 14, 15, 16, 17, 18, 19], [0, 1, 2, 3, 4, 5, 6, 7, 8, 9, 10, 11, 12, 13, 14, 15, 16, 17, 18, 19, 20], [0, 1, 2, 3, 4, 5, 6, 7, 8, 9, 10, 11, 12, 13, 14, 15, 16, 17, 18, 19, 20, 21], [0, 1, 2, 3, 4, 5, 6, 7, 8, 9, 10, 11, 12, 13, 14, 15, 16, 17, 18, 19, 20, 21, 22], [0, 1, 2, 3, 4, 5, 6, 7, 8, 9, 10, 11, 12, 13, 14, 15, 16, 17, 18, 19, 20, 21, 22, 23]], []⟩ else if i = 17 then ⟨[13], [0, 1, 2, 3, 4, 5, 6, 7, 8, 9, 10, 11, 12, 14], [[], [0], [0, 1], [0, 1, 2], [], [4], [4, 5], [4, 5, 6], [], [8], [8, 9], [8, 9, 10], [0, 1, 2, 3, 4, 5, 6, 7, 8, 9, 10, 11], [], [0, 1, 2, 3, 4, 5, 6, 7, 8, 9, 10, 11, 12, 13]], []⟩ else if i = 25 then ⟨[], [0, 1, 2, 3, 4, 5, 6, 7, 8, 9, 10, 11, 12], [[], [], [1], [1, 2], [1, 2, 3], [1, 2, 3, 4], [], [6], [1, 2, 3, 4, 5, 6, 7], [0, 1, 2, 3, 4, 5, 6, 7, 8], [0, 1, 2, 3, 4, 5, 6, 7, 8, 9], [0, 1, 2, 3, 4, 5, 6, 7, 8, 9, 10], [0, 1, 2, 3, 4, 5, 6, 7, 8, 9, 10, 11]], []⟩ else ⟨[], [], [], []⟩
def cfg63 : Cfg := ⟨[7], keep63, draw63⟩
theorem ok63 : codeOK PP cfg63 Go.Proofs.Tryz.f63.ntmps body63 = true := by kernel_rfl
/-! ### 64 parterre/parterreref2.Less -/
noncomputable def body64 : Code := match Go.Proofs.Tryz.f64.body with | some c => c | none => .skip
theorem fn64 : PP.funcs[64]? = some Go.Proofs.Tryz.f64 := Go.Proofs.Tryz.func64
theorem bodyEq64 : Go.Proofs.Tryz.f64.body = some body64 := rfl
def keep64 (i : Nat) : List Nat := (if i < 1 then [2, 3] else [4])
def draw64 (i : Nat) : DrawInfo := ⟨[], [], [], []⟩
def cfg64 : Cfg := ⟨[2, 3], keep64, draw64⟩
theorem ok64 : codeOK PP cfg64 Go.Proofs.Tryz.f64.ntmps body64 = true := by kernel_rfl
/-! ### 65 parterre/parterreref2.in -/
noncomputable def body65 : Code := match Go.Proofs.Tryz.f65.body with | some c => c | none => .skip
theorem fn65 : PP.funcs[65]? = some Go.Proofs.Tryz.f65 := Go.Proofs.Tryz.func65
theorem bodyEq65 : Go.Proofs.Tryz.f65.body = some body65 := rfl
def keep65 (i : Nat) : List Nat := (if i < 1 then [0, 1, 2] else [6])
def draw65 (i : Nat) : DrawInfo := ⟨[], [], [], []⟩
def cfg65 : Cfg := ⟨[], keep65, draw65⟩
theorem ok65 : codeOK PP cfg65 Go.Proofs.Tryz.f65.ntmps body65 = true := by kernel_rfl
/-! ### 66 parterre/parterreref2.put -/
noncomputable def body66 : Code := match Go.Proofs.Tryz.f66.body with | some c => c | none => .skip
theorem fn66 : PP.funcs[66]? = some Go.Proofs.Tryz.f66 := Go.Proofs.Tryz.func66
theorem bodyEq66 : Go.Proofs.Tryz.f66.body = some body66 := rfl
def keep66 (i : Nat) : List Nat := (if i < 3 then (if i < 1 then [0, 1] else (if i < 2 then [0, 1, 5] else [0, 1, 5, 18])) else (if i < 5 then (if i < 4 then [0, 1, 5] else [0, 1, 5, 31]) else (if i < 6 then [4] else [4])))
def draw66 (i : Nat) : DrawInfo := if i = 6 then ⟨[], [1, 2, 3, 5, 8, 9, 10, 0, 4, 6, 7, 11, 12], [[], [], [], [1, 2], [0, 1, 2, 3], [], [5], [0, 1, 2, 3, 4, 5, 6], [], [], [8, 9], [0, 1, 2, 3, 4, 5, 6, 7, 8, 9, 10], [0, 1, 2, 3, 4, 5, 6, 7, 8, 9, 10, 11]], [[1, 2, 3, 5, 8, 9, 10, 0, 6, 4, 7, 11, 12], [1, 2, 3, 5, 8, 9, 10, 6, 0, 4, 7, 11, 12]]⟩ else ⟨[], [], [], []⟩
def cfg66 : Cfg := ⟨[], keep66, draw66⟩
theorem ok66 : codeOK PP cfg66 Go.Proofs.Tryz.f66.ntmps body66 = true := by kernel_rfl
/-! ### 67 parterre/parterreref2.seats -/
noncomputable def body67 : Code := match Go.Proofs.Tryz.f67.body with | some c => c | none => .skip
theorem fn67 : PP.funcs[67]? = some Go.Proofs.Tryz.f67 := Go.Proofs.Tryz.func67
theorem bodyEq67 : Go.Proofs.Tryz.f67.body = some body67 := rfl
def keep67 (i : Nat) : List Nat := (if i < 4 then (if i < 2 then (if i < 1 then [0] else [0, 3]) else (if i < 3 then [0, 3, 8] else [0, 3])) else (if i < 6 then (if i < 5 then [0, 3, 4] else [0, 3, 50]) else (if i < 7 then [2] else [2])))
def draw67 (i : Nat) : DrawInfo := if i = 5 then ⟨[], [0, 1, 2, 3, 4, 5, 6, 7, 8, 9, 10, 11, 12, 13, 14, 15, 16, 17, 18, 19, 20, 21, 22, 23, 24, 25, 26, 27, 28, 29, 30, 31, 32, 33, 34, 35], [[], [0], [0, 1], [0, 1, 2], [0, 1, 2, 3], [0, 1, 2, 3, 4], [0, 1, 2, 3, 4, 5], [0, 1, 2, 3, 4, 5, 6], [0, 1, 2, 3, 4, 5, 6, 7], [0, 1, 2, 3, 4, 5, 6, 7, 8], [0, 1, 2, 3, 4, 5, 6, 7, 8, 9], [0, 1, 2, 3, 4, 5, 6, 7, 8, 9, 10], [0, 1, 2, 3, 4, 5, 6, 7, 8, 9, 10, 11], [0, 1, 2, 3, 4, 5, 6, 7, 8, 9, 10, 11, 12], [0, 1, 2, 3, 4, 5, 6, 7, 8, 9, 10, 11, 12, 13], [0, 1, 2, 3, 4, 5, 6, 7, 8, 9, 10, 11, 12, 13, 14], [0, 1, 2, 3, 4, 5, 6, 7, 8, 9, 10, 11, 12, 13, 14, 15], [0, 1, 2, 3, 4, 5, 6, 7, 8, 9, 10, 11, 12, 13, 14, 15, 16], [0, 1, 2, 3, 4, 5, 6, 7, 8, 9, 10, 11, 12, 13, 14, 15, 16, 17], [0, 1, 2, 3, 4, 5, 6, 7, 8, 9, 10, 11, 12, 13, 14, 15, 16, 17, 18], [0, 1, 2, 3, 4, 5, 6, 7, 8, 9, 10, 11, 12, 13, 14, 15, 16, 17, 18, 19], [0, 1, 2, 3, 4, 5, 6, 7, 8, 9, 10, 11, 12, 13, 14, 15, 16, 17, 18, 19, 20], [0, 1, 2, 3, 4, 5, 6, 7, 8, 9, 10, 11, 12, 13, 14, 15, 16, 17, 18, 19, 20, 21], [0, 1, 2, 3, 4, 5, 6, 7, 8, 9, 10, 11, 12, 13, 14, 15, 16, 17, 18, 19, 20, 21, 22], [0, 1, 2, 3, 4, 5, 6, 7, 8, 9, 10, 11, 12, 13, 14, 15, 16, 17, 18, 19, 20, 21, 22, 23], [0, 1, 2, 3, 4, 5, 6, 7, 8, 9, 10, 11, 12, 13, 14, 15, 16, 17, 18, 19, 20, 21, 22, 23, 24], [0, 1, 2, 3, 4, 5, 6, 7, 8, 9, 10, 11, 12, 13, 14, 15, 16, 17, 18, 19, 20, 21, 22, 23, 24, 25], [0, 1, 2, 3, 4, 5, 6, 7, 8, 9, 10, 11, 12, 13, 14, 15, 16, 17, 18, 19, 20, 21, 22, 23, 24, 25], [0, 1, 2, 3, 4, 5, 6, 7, 8, 9, 10, 11, 12, 13, 14, 15, 16, 17, 18, 19, 20, 21, 22, 23, 24, 25, 27], [0, 1, 2, 3, 4, 5, 6, 7, 8, 9, 10, 11, 12, 13, 14, 15, 16, 17, 18, 19, 20, 21, 22, 23, 24, 25, 26, 27, 28], [0, 1, 2, 3, 4, 5, 6, 7, 8, 9, 10, 11, 12, 13, 14, 15, 16, 17, 18, 19, 20, 21, 22, 23, 24, 25, 26, 27, 28, 29], [0, 1, 2, 3, 4, 5, 6, 7, 8, 9, 10, 11, 12, 13, 14, 15, 16, 17, 18, 19, 20, 21, 22, 23, 24, 25], [0, 1, 2, 3, 4, 5, 6, 7, 8, 9, 10, 11, 12, 13, 14, 15, 16, 17, 18, 19, 20, 21, 22, 23, 24, 25, 26, 27, 28, 29, 30, 31], [0, 1, 2, 3, 4, 5, 6, 7, 8, 9, 10, 11, 12, 13, 14, 15, 16, 17, 18, 19, 20, 21, 22, 23, 24, 25, 26, 27, 28, 29, 30, 31, 32], [0, 1, 2, 3, 4, 5, 6, 7, 8, 9, 10, 11, 12, 13, 14, 15, 16, 17, 18, 19, 20, 21, 22, 23, 24, 25, 26, 27, 28, 29, 30, 31, 32, 33], [0, 1, 2, 3, 4, 5, 6, 7, 8, 9, 10, 11, 12, 13, 14, 15, 16, 17, 18, 19, 20, 21, 22, 23, 24, 25, 26, 27, 28, 29, 30, 31, 32, 33, 34]], []⟩ else ⟨[], [], [], []⟩
def cfg67 : Cfg := ⟨[4], keep67, draw67⟩
theorem ok67 : codeOK PP cfg67 Go.Proofs.Tryz.f67.ntmps body67 = true := by kernel_rfl
/-! ### 68 parterre/parterreref2.kills -/
noncomputable def body68 : Code := match Go.Proofs.Tryz.f68.body with | some c => c | none => .skip
theorem fn68 : PP.funcs[68]? = some Go.Proofs.Tryz.f68 := Go.Proofs.Tryz.func68
theorem bodyEq68 : Go.Proofs.Tryz.f68.body = some body68 := rfl
def keep68 (i : Nat) : List Nat := (if i < 3 then (if i < 1 then [0, 1] else (if i < 2 then [0, 1, 5] else [0, 1, 5, 9])) else (if i < 5 then (if i < 4 then [0, 1, 5] else [0, 1, 5, 35]) else (if i < 6 then [4] else [4])))
def draw68 (i : Nat) : DrawInfo := if i = 4 then ⟨[], [0, 1, 2, 3, 4, 5, 6, 7, 8, 9, 10, 11, 12, 13, 14, 15, 16, 17, 18, 19, 20, 21, 22, 23], [[], [], [0, 1], [0, 1, 2], [], [4], [0, 1, 2, 3, 4, 5], [0, 1, 2, 3, 4, 5, 6], [0, 1, 2, 3, 4, 5, 6, 7], [0, 1, 2, 3, 4, 5, 6, 7, 8], [0, 1, 2, 3, 4, 5, 6, 7, 8, 9], [0, 1, 2, 3, 4, 5, 6, 7, 8, 9, 10], [0, 1, 2, 3, 4, 5, 6, 7, 8, 9, 10, 11], [0, 1, 2, 3, 4, 5, 6, 7, 8, 9, 10, 11], [0, 1, 2, 3, 4, 5, 6, 7, 8, 9, 10, 11, 12, 13], [0, 1, 2, 3, 4, 5, 6, 7, 8, 9, 10, 11, 12, 13, 14], [0, 1, 2, 3, 4, 5, 6, 7, 8, 9, 10, 11], [0, 1, 2, 3, 4, 5, 6, 7, 8, 9, 10, 11], [0, 1, 2, 3, 4, 5, 6, 7, 8, 9, 10, 11, 17], [0, 1, 2, 3, 4, 5, 6, 7, 8, 9, 10, 11, 16, 17, 18], [0, 1, 2, 3, 4, 5, 6, 7, 8, 9, 10, 11, 16, 17, 18, 19], [0, 1, 2, 3, 4, 5, 6, 7, 8, 9, 10, 11, 12, 13, 14, 15, 16, 17, 18, 19, 20], [0, 1, 2, 3, 4, 5, 6, 7, 8, 9, 10, 11, 12, 13, 14, 15, 16, 17, 18, 19, 20, 21], [0, 1, 2, 3, 4, 5, 6, 7, 8, 9, 10, 11, 12, 13, 14, 15, 16, 17, 18, 19, 20, 21, 22]], []⟩ else ⟨[], [], [], []⟩
def cfg68 : Cfg := ⟨[], keep68, draw68⟩
theorem ok68 : codeOK PP cfg68 Go.Proofs.Tryz.f68.ntmps body68 = true := by kernel_rfl
/-! ### 69 parterre/parterreref2.poles -/
noncomputable def body69 : Code := match Go.Proofs.Tryz.f69.body with | some c => c | none => .skip
theorem fn69 : PP.funcs[69]? = some Go.Proofs.Tryz.f69 := Go.Proofs.Tryz.func69
theorem bodyEq69 : Go.Proofs.Tryz.f69.body = some body69 := rfl
def keep69 (i : Nat) : List Nat := (if i < 3 then (if i < 1 then [0] else (if i < 2 then [0, 3] else [0, 3, 7])) else (if i < 5 then (if i < 4 then [0, 3] else [0, 3, 34]) else (if i < 6 then [2] else [2])))
def draw69 (i : Nat) : DrawInfo := ⟨[], [], [], []⟩
def cfg69 : Cfg := ⟨[], keep69, draw69⟩
theorem ok69 : codeOK PP cfg69 Go.Proofs.Tryz.f69.ntmps body69 = true := by kernel_rfl
/-! ### 70 parterre/parterreref2.digits -/
noncomputable def body70 : Code := match Go.Proofs.Tryz.f70.body with | some c => c | none => .skip
theorem fn70 : PP.funcs[70]? = some Go.Proofs.Tryz.f70 := Go.Proofs.Tryz.func70
theorem bodyEq70 : Go.Proofs.Tryz.f70.body = some body70 := rfl
def keep70 (i : Nat) : List Nat := (if i < 3 then (if i < 1 then [0] else (if i < 2 then [0, 3] else [0, 3, 5])) else (if i < 4 then [0, 3] else (if i < 5 then [0, 3] else [2])))
def draw70 (i : Nat) : DrawInfo := ⟨[], [], [], []⟩
def cfg70 : Cfg := ⟨[], keep70, draw70⟩
theorem ok70 : codeOK PP cfg70 Go.Proofs.Tryz.f70.ntmps body70 = true := by kernel_rfl
/-! ### 71 parterre/parterreref2.word -/
noncomputable def body71 : Code := match Go.Proofs.Tryz.f71.body with | some c => c | none => .skip
theorem fn71 : PP.funcs[71]? = some Go.Proofs.Tryz.f71 := Go.Proofs.Tryz.func71
theorem bodyEq71 : Go.Proofs.Tryz.f71.body = some body71 := rfl
def keep71 (i : Nat) : List Nat := (if i < 4 then (if i < 2 then (if i < 1 then [0] else [3]) else (if i < 3 then [3, 4] else [2])) else (if i < 6 then (if i < 5 then [3, 6] else [2]) else (if i < 7 then [8] else (if i < 8 then [2] else [2]))))
def draw71 (i : Nat) : DrawInfo := ⟨[], [], [], []⟩
def cfg71 : Cfg := ⟨[], keep71, draw71⟩
theorem ok71 : codeOK PP cfg71 Go.Proofs.Tryz.f71.ntmps body71 = true := by kernel_rfl
/-! ### 75 parterre/token.skip -/
noncomputable def body75 : Code := match Go.Proofs.Tryz.f75.body with | some c => c | none => .skip
theorem fn75 : PP.funcs[75]? = some Go.Proofs.Tryz.f75 := Go.Proofs.Tryz.func75
theorem bodyEq75 : Go.Proofs.Tryz.f75.body = some body75 := rfl
def keep75 (i : Nat) : List Nat := (if i < 5 then (if i < 2 then (if i < 1 then [0, 1] else [0, 1, 8]) else (if i < 3 then [0, 1, 12] else (if i < 4 then [4] else [0, 1, 12, 14]))) else (if i < 7 then (if i < 6 then [0, 1] else [0, 1, 18]) else (if i < 8 then [0, 1, 29] else (if i < 9 then [0, 1] else [4]))))
def draw75 (i : Nat) : DrawInfo := ⟨[], [], [], []⟩
def cfg75 : Cfg := ⟨[], keep75, draw75⟩
theorem ok75 : codeOK PP cfg75 Go.Proofs.Tryz.f75.ntmps body75 = true := by kernel_rfl
/-! ### 76 parterre/token.Next$1 -/
noncomputable def body76 : Code := match Go.Proofs.Tryz.f76.body with | some c => c | none => .skip
theorem fn76 : PP.funcs[76]? = some Go.Proofs.Tryz.f76 := Go.Proofs.Tryz.func76
theorem bodyEq76 : Go.Proofs.Tryz.f76.body = some body76 := rfl
def keep76 (i : Nat) : List Nat := (if i < 1 then [0, 1, 2, 4] else [4])
def draw76 (i : Nat) : DrawInfo := ⟨[], [], [], []⟩
def cfg76 : Cfg := ⟨[4], keep76, draw76⟩
theorem ok76 : codeOK PP cfg76 Go.Proofs.Tryz.f76.ntmps body76 = true := by kernel_rfl
/-! ### 77 parterre/token.kind -/
noncomputable def body77 : Code := match Go.Proofs.Tryz.f77.body with | some c => c | none => .skip
theorem fn77 : PP.funcs[77]? = some Go.Proofs.Tryz.f77 := Go.Proofs.Tryz.func77
theorem bodyEq77 : Go.Proofs.Tryz.f77.body = some body77 := rfl
def keep77 (i : Nat) : List Nat := (if i < 8 then (if i < 4 then (if i < 2 then (if i < 1 then [0] else [0, 3]) else (if i < 3 then [0, 3, 4] else [0, 3, 6])) else (if i < 6 then (if i < 5 then [0, 3, 8] else [0, 3, 10]) else (if i < 7 then [0, 3, 12] else [0, 14]))) else (if i < 12 then (if i < 10 then (if i < 9 then [2] else [2]) else (if i < 11 then [2] else [2])) else (if i < 14 then (if i < 13 then [0, 16] else [2]) else (if i < 15 then [23] else (if i < 16 then [2] else [2])))))
def draw77 (i : Nat) : DrawInfo := ⟨[], [], [], []⟩
def cfg77 : Cfg := ⟨[], keep77, draw77⟩
theorem ok77 : codeOK PP cfg77 Go.Proofs.Tryz.f77.ntmps body77 = true := by kernel_rfl
/-! ### 78 parterre/token.run -/
noncomputable def body78 : Code := match Go.Proofs.Tryz.f78.body with | some c => c | none => .skip
theorem fn78 : PP.funcs[78]? = some Go.Proofs.Tryz.f78 := Go.Proofs.Tryz.func78
theorem bodyEq78 : Go.Proofs.Tryz.f78.body = some body78 := rfl
def keep78 (i : Nat) : List Nat := (if i < 2 then (if i < 1 then [0, 1, 2] else [0, 1, 2, 18]) else (if i < 3 then [0, 1, 2] else [6]))
def draw78 (i : Nat) : DrawInfo := ⟨[], [], [], []⟩
def cfg78 : Cfg := ⟨[], keep78, draw78⟩
theorem ok78 : codeOK PP cfg78 Go.Proofs.Tryz.f78.ntmps body78 = true := by kernel_rfl
/-! ### 79 parterre/token.number -/
noncomputable def body79 : Code := match Go.Proofs.Tryz.f79.body with | some c => c | none => .skip
theorem fn79 : PP.funcs[79]? = some Go.Proofs.Tryz.f79 := Go.Proofs.Tryz.func79
theorem bodyEq79 : Go.Proofs.Tryz.f79.body = some body79 := rfl
def keep79 (i : Nat) : List Nat := (if i < 7 then (if i < 3 then (if i < 1 then [0, 1] else (if i < 2 then [0, 1, 7] else [0, 1, 7, 16])) else (if i < 5 then (if i < 4 then [0, 1, 7] else [0, 1, 7, 8]) else (if i < 6 then [0, 1, 7, 8, 9] else [0, 1, 7, 8, 9, 26]))) else (if i < 11 then (if i < 9 then (if i < 8 then [0, 1, 7, 8, 9, 26, 27, 28] else [0, 1, 7, 8, 9, 11, 26]) else (if i < 10 then [0, 1, 7, 8, 9, 26] else [0, 1, 7, 8, 9, 39])) else (if i < 13 then (if i < 12 then [0, 1, 7, 8, 9] else [0, 1, 8, 9, 52]) else (if i < 14 then [4, 5, 6] else [4, 5, 6]))))
def draw79 (i : Nat) : DrawInfo := ⟨[], [], [], []⟩
def cfg79 : Cfg := ⟨[], keep79, draw79⟩
theorem ok79 : codeOK PP cfg79 Go.Proofs.Tryz.f79.ntmps body79 = true := by kernel_rfl
/-! ### 80 parterre/parse.bounds -/
noncomputable def body80 : Code := match Go.Proofs.Tryz.f80.body with | some c => c | none => .skip
theorem fn80 : PP.funcs[80]? = some Go.Proofs.Tryz.f80 := Go.Proofs.Tryz.func80
theorem bodyEq80 : Go.Proofs.Tryz.f80.body = some body80 := rfl
def keep80 (i : Nat) : List Nat := (if i < 8 then (if i < 4 then (if i < 2 then (if i < 1 then [0] else [0, 4]) else (if i < 3 then [4, 5] else [4, 5, 6])) else (if i < 6 then (if i < 5 then [4, 5, 6] else [4, 5, 6]) else (if i < 7 then [2, 3] else [4, 5, 11]))) else (if i < 12 then (if i < 10 then (if i < 9 then [2, 3] else [4, 5, 14]) else (if i < 11 then [2, 3] else [5, 18])) else (if i < 14 then (if i < 13 then [2, 3] else [21]) else (if i < 15 then [2, 3] else [2, 3]))))
def draw80 (i : Nat) : DrawInfo := ⟨[], [], [], []⟩
def cfg80 : Cfg := ⟨[], keep80, draw80⟩
theorem ok80 : codeOK PP cfg80 Go.Proofs.Tryz.f80.ntmps body80 = true := by kernel_rfl
/-! ### 81 parterre/parse.kind -/
noncomputable def body81 : Code := match Go.Proofs.Tryz.f81.body with | some c => c | none => .skip
theorem fn81 : PP.funcs[81]? = some Go.Proofs.Tryz.f81 := Go.Proofs.Tryz.func81
theorem bodyEq81 : Go.Proofs.Tryz.f81.body = some body81 := rfl
def keep81 (i : Nat) : List Nat := (if i < 3 then (if i < 1 then [0] else (if i < 2 then [3] else [3, 4])) else (if i < 5 then (if i < 4 then [2] else [6]) else (if i < 6 then [2] else [2])))
def draw81 (i : Nat) : DrawInfo := ⟨[], [], [], []⟩
def cfg81 : Cfg := ⟨[], keep81, draw81⟩
theorem ok81 : codeOK PP cfg81 Go.Proofs.Tryz.f81.ntmps body81 = true := by kernel_rfl
/-! ### 82 slices.Index[[]int,int] -/
noncomputable def body82 : Code := match Go.Proofs.Tryz.f82.body with | some c => c | none => .skip
theorem fn82 : PP.funcs[82]? = some Go.Proofs.Tryz.f82 := Go.Proofs.Tryz.func82
theorem bodyEq82 : Go.Proofs.Tryz.f82.body = some body82 := rfl
def keep82 (i : Nat) : List Nat := (if i < 4 then (if i < 2 then (if i < 1 then [0, 1] else [0, 1, 7, 8]) else (if i < 3 then [0, 1, 7, 8, 9] else [0, 1, 5, 7, 8])) else (if i < 6 then (if i < 5 then [0, 1, 5, 7, 8, 16] else [4]) else (if i < 7 then [0, 1, 7, 8] else [4])))
def draw82 (i : Nat) : DrawInfo := ⟨[], [], [], []⟩
def cfg82 : Cfg := ⟨[], keep82, draw82⟩
theorem ok82 : codeOK PP cfg82 Go.Proofs.Tryz.f82.ntmps body82 = true := by kernel_rfl
/-! ### 83 slices.pdqsortCmpFunc[parterre/api.Seat] -/
noncomputable def body83 : Code := match Go.Proofs.Tryz.f83.body with | some c => c | none => .skip
theorem fn83 : PP.funcs[83]? = some Go.Proofs.Tryz.f83 := Go.Proofs.Tryz.func83
theorem bodyEq83 : Go.Proofs.Tryz.f83.body = some body83 := rfl
def keep83 (i : Nat) : List Nat := (if i < 15 then (if i < 7 then (if i < 3 then (if i < 1 then [0, 1, 2, 3, 4, 10] else (if i < 2 then [0, 1, 2, 3, 4, 10, 11] else [0, 1, 2, 3, 4, 10, 11, 12])) else (if i < 5 then (if i < 4 then [0, 1, 2, 3, 4, 10, 11, 12, 25] else []) else (if i < 6 then [0, 1, 2, 3, 4, 10, 11, 12, 32] else []))) else (if i < 11 then (if i < 9 then (if i < 8 then [0, 1, 2, 3, 4, 10, 11, 12, 39] else [0, 1, 2, 3, 4, 10, 11, 12]) else (if i < 10 then [0, 1, 2, 3, 4, 10, 11, 12] else [0, 1, 2, 3, 4, 10, 11, 12, 13, 14])) else (if i < 13 then (if i < 12 then [0, 1, 2, 3, 4, 10, 11, 12, 13, 14, 56] else [0, 1, 2, 3, 4, 10, 11, 12, 13]) else (if i < 14 then [0, 1, 2, 3, 4, 10, 11, 12, 13] else [0, 1, 2, 3, 4, 10, 11, 12, 13, 14])))) else (if i < 23 then (if i < 19 then (if i < 17 then (if i < 16 then [0, 1, 2, 3, 4, 10, 11, 12, 13, 75] else [0, 1, 2, 3, 4, 10, 11, 12, 13, 80]) else (if i < 18 then [0, 1, 2, 3, 4, 10, 11, 12, 13, 97] else [0, 2, 3, 4, 10, 11, 15])) else (if i < 21 then (if i < 20 then [0, 1, 2, 3, 4, 10, 11] else [0, 1, 2, 3, 4, 12, 16, 17]) else (if i < 22 then [0, 1, 2, 3, 4, 11, 12, 16] else [0, 1, 2, 3, 4, 11, 12, 16, 18, 19]))) else (if i < 27 then (if i < 25 then (if i < 24 then [0, 1, 2, 3, 4, 11, 16, 18, 19, 20] else [0, 1, 2, 3, 4, 11, 16, 18, 19, 20, 125]) else (if i < 26 then [0, 1, 2, 3, 4, 10, 11, 16] else [0, 2, 3, 4, 10, 11, 16])) else (if i < 29 then (if i < 28 then [0, 1, 2, 3, 4, 10, 11] else [0, 1, 2, 3, 4, 10, 11, 16]) else (if i < 30 then [0, 1, 3, 4, 10, 11, 16] else [0, 1, 2, 3, 4, 10, 11])))))
def draw83 (i : Nat) : DrawInfo := if i = 17 then ⟨[], [0, 1, 2, 3, 4, 5, 6, 7, 8, 9, 10, 11, 12, 13, 14, 15, 16], [[], [0], [0, 1], [0, 1, 2], [0, 1, 2], [0, 1, 2], [0, 1, 2, 5], [0, 1, 2, 4, 5, 6], [0, 1, 2, 4, 5, 6, 7], [0, 1, 2], [0, 1, 2], [0, 1, 2, 9, 10], [0, 1, 2, 9, 10, 11], [0, 1, 2, 3, 4, 5, 6, 7, 8, 9, 10, 11, 12], [0, 1, 2, 3, 4, 5, 6, 7, 8, 9, 10, 11, 12, 13], [0, 1, 2, 3, 4, 5, 6, 7, 8, 9, 10, 11, 12, 13, 14], [0, 1, 2, 3, 4, 5, 6, 7, 8, 9, 10, 11, 12, 13, 14, 15]], []⟩ else ⟨[], [], [], []⟩
def cfg83 : Cfg := ⟨[], keep83, draw83⟩
theorem ok83 : codeOK PP cfg83 Go.Proofs.Tryz.f83.ntmps body83 = true := by kernel_rfl
/-! ### 84 math/bits.Len -/
noncomputable def body84 : Code := match Go.Proofs.Tryz.f84.body with | some c => c | none => .skip
theorem fn84 : PP.funcs[84]? = some Go.Proofs.Tryz.f84 := Go.Proofs.Tryz.func84
theorem bodyEq84 : Go.Proofs.Tryz.f84.body = some body84 := rfl
def keep84 (i : Nat) : List Nat := (if i < 1 then [0] else (if i < 2 then [2] else [2]))
def draw84 (i : Nat) : DrawInfo := ⟨[], [], [], []⟩
def cfg84 : Cfg := ⟨[], keep84, draw84⟩
theorem ok84 : codeOK PP cfg84 Go.Proofs.Tryz.f84.ntmps body84 = true := by kernel_rfl
/-! ### 85 slices.pdqsortOrdered[int] -/
noncomputable def body85 : Code := match Go.Proofs.Tryz.f85.body with | some c => c | none => .skip
theorem fn85 : PP.funcs[85]? = some Go.Proofs.Tryz.f85 := Go.Proofs.Tryz.func85
theorem bodyEq85 : Go.Proofs.Tryz.f85.body = some body85 := rfl
def keep85 (i : Nat) : List Nat := (if i < 15 then (if i < 7 then (if i < 3 then (if i < 1 then [0, 1, 2, 3, 8] else (if i < 2 then [0, 1, 2, 3, 8, 9] else [0, 1, 2, 3, 8, 9, 10])) else (if i < 5 then (if i < 4 then [0, 1, 2, 3, 8, 9, 10, 23] else []) else (if i < 6 then [0, 1, 2, 3, 8, 9, 10, 29] else []))) else (if i < 11 then (if i < 9 then (if i < 8 then [0, 1, 2, 3, 8, 9, 10, 35] else [0, 1, 2, 3, 8, 9, 10]) else (if i < 10 then [0, 1, 2, 3, 8, 9, 10] else [0, 1, 2, 3, 8, 9, 10, 11, 12])) else (if i < 13 then (if i < 12 then [0, 1, 2, 3, 8, 9, 10, 11, 12, 50] else [0, 1, 2, 3, 8, 9, 10, 11]) else (if i < 14 then [0, 1, 2, 3, 8, 9, 10, 11] else [0, 1, 2, 3, 8, 9, 10, 11, 12])))) else (if i < 23 then (if i < 19 then (if i < 17 then (if i < 16 then [0, 1, 2, 3, 8, 9, 10, 11, 68] else [0, 1, 2, 3, 8, 9, 10, 11, 72]) else (if i < 18 then [0, 1, 2, 3, 8, 9, 10, 11, 87] else [0, 2, 3, 8, 9, 13])) else (if i < 21 then (if i < 20 then [0, 1, 2, 3, 8, 9] else [0, 1, 2, 3, 10, 14, 15]) else (if i < 22 then [0, 1, 2, 3, 9, 10, 14] else [0, 1, 2, 3, 9, 10, 14, 16, 17]))) else (if i < 27 then (if i < 25 then (if i < 24 then [0, 1, 2, 3, 9, 14, 16, 17, 18] else [0, 1, 2, 3, 9, 14, 16, 17, 18, 113]) else (if i < 26 then [0, 1, 2, 3, 8, 9, 14] else [0, 2, 3, 8, 9, 14])) else (if i < 29 then (if i < 28 then [0, 1, 2, 3, 8, 9] else [0, 1, 2, 3, 8, 9, 14]) else (if i < 30 then [0, 1, 3, 8, 9, 14] else [0, 1, 2, 3, 8, 9])))))
def draw85 (i : Nat) : DrawInfo := if i = 17 then ⟨[], [0, 1, 2, 3, 4, 5, 6, 7, 8, 9, 10, 11, 12, 13, 14], [[], [0], [0, 1], [0, 1, 2], [0, 1, 2], [0, 1, 2, 4], [0, 1, 2, 3, 4, 5], [0, 1, 2, 3, 4, 5, 6], [0, 1, 2], [0, 1, 2], [0, 1, 2, 8, 9], [0, 1, 2, 8, 9, 10], [0, 1, 2, 3, 4, 5, 6, 7, 8, 9, 10, 11], [0, 1, 2, 3, 4, 5, 6, 7, 8, 9, 10, 11, 12], [0, 1, 2, 3, 4, 5, 6, 7, 8, 9, 10, 11, 12, 13]], []⟩ else ⟨[], [], [], []⟩
def cfg85 : Cfg := ⟨[], keep85, draw85⟩
theorem ok85 : codeOK PP cfg85 Go.Proofs.Tryz.f85.ntmps body85 = true := by kernel_rfl
/-! ### 86 parterre/venue.Wrong -/
noncomputable def body86 : Code := match Go.Proofs.Tryz.f86.body with | some c => c | none => .skip
theorem fn86 : PP.funcs[86]? = some Go.Proofs.Tryz.f86 := Go.Proofs.Tryz.func86
theorem bodyEq86 : Go.Proofs.Tryz.f86.body = some body86 := rfl
def keep86 (i : Nat) : List Nat := (if i < 6 then (if i < 3 then (if i < 1 then [1] else (if i < 2 then [1, 3] else [2])) else (if i < 4 then [1, 8] else (if i < 5 then [2] else [1, 13]))) else (if i < 9 then (if i < 7 then [2] else (if i < 8 then [1, 18] else [2])) else (if i < 10 then [26] else (if i < 11 then [2] else [2]))))
def draw86 (i : Nat) : DrawInfo := ⟨[], [], [], []⟩
def cfg86 : Cfg := ⟨[1], keep86, draw86⟩
theorem ok86 : codeOK PP cfg86 Go.Proofs.Tryz.f86.ntmps body86 = true := by kernel_rfl
/-! ### 87 parterre/parterreref2.skip -/
noncomputable def body87 : Code := match Go.Proofs.Tryz.f87.body with | some c => c | none => .skip
theorem fn87 : PP.funcs[87]? = some Go.Proofs.Tryz.f87 := Go.Proofs.Tryz.func87
theorem bodyEq87 : Go.Proofs.Tryz.f87.body = some body87 := rfl
def keep87 (i : Nat) : List Nat := (if i < 3 then (if i < 1 then [0, 1] else (if i < 2 then [0, 1, 14] else [0, 1])) else (if i < 5 then (if i < 4 then [0, 1, 26] else [0, 1, 36]) else (if i < 6 then [0, 1] else [4])))
def draw87 (i : Nat) : DrawInfo := ⟨[], [], [], []⟩
def cfg87 : Cfg := ⟨[], keep87, draw87⟩
theorem ok87 : codeOK PP cfg87 Go.Proofs.Tryz.f87.ntmps body87 = true := by kernel_rfl
/-! ### 88 parterre/parterreref2.move -/
noncomputable def body88 : Code := match Go.Proofs.Tryz.f88.body with | some c => c | none => .skip
theorem fn88 : PP.funcs[88]? = some Go.Proofs.Tryz.f88 := Go.Proofs.Tryz.func88
theorem bodyEq88 : Go.Proofs.Tryz.f88.body = some body88 := rfl
def keep88 (i : Nat) : List Nat := (if i < 1 then [1, 2, 4] else [4])
def draw88 (i : Nat) : DrawInfo := ⟨[], [], [], []⟩
def cfg88 : Cfg := ⟨[2, 4], keep88, draw88⟩
theorem ok88 : codeOK PP cfg88 Go.Proofs.Tryz.f88.ntmps body88 = true := by kernel_rfl
/-! ### 89 parterre/parterreref2.letter -/
noncomputable def body89 : Code := match Go.Proofs.Tryz.f89.body with | some c => c | none => .skip
theorem fn89 : PP.funcs[89]? = some Go.Proofs.Tryz.f89 := Go.Proofs.Tryz.func89
theorem bodyEq89 : Go.Proofs.Tryz.f89.body = some body89 := rfl
def keep89 (i : Nat) : List Nat := (if i < 1 then [0] else [2])
def draw89 (i : Nat) : DrawInfo := ⟨[], [], [], []⟩
def cfg89 : Cfg := ⟨[], keep89, draw89⟩
theorem ok89 : codeOK PP cfg89 Go.Proofs.Tryz.f89.ntmps body89 = true := by kernel_rfl
/-! ### 90 parterre/parterreref2.digit -/
noncomputable def body90 : Code := match Go.Proofs.Tryz.f90.body with | some c => c | none => .skip
theorem fn90 : PP.funcs[90]? = some Go.Proofs.Tryz.f90 := Go.Proofs.Tryz.func90
theorem bodyEq90 : Go.Proofs.Tryz.f90.body = some body90 := rfl
def keep90 (i : Nat) : List Nat := (if i < 1 then [0] else [2])
def draw90 (i : Nat) : DrawInfo := ⟨[], [], [], []⟩
def cfg90 : Cfg := ⟨[], keep90, draw90⟩
theorem ok90 : codeOK PP cfg90 Go.Proofs.Tryz.f90.ntmps body90 = true := by kernel_rfl
/-! ### 91 parterre/parterreref2.number -/
noncomputable def body91 : Code := match Go.Proofs.Tryz.f91.body with | some c => c | none => .skip
theorem fn91 : PP.funcs[91]? = some Go.Proofs.Tryz.f91 := Go.Proofs.Tryz.func91
theorem bodyEq91 : Go.Proofs.Tryz.f91.body = some body91 := rfl
def keep91 (i : Nat) : List Nat := (if i < 5 then (if i < 2 then (if i < 1 then [0] else [0, 4]) else (if i < 3 then [0, 4, 5] else (if i < 4 then [0, 4, 5, 6] else [0, 4, 5, 6, 13]))) else (if i < 8 then (if i < 6 then [0, 4, 5, 6] else (if i < 7 then [0, 4, 5, 6, 19] else [0, 4, 5, 6])) else (if i < 9 then [4, 29] else (if i < 10 then [4] else [2, 3]))))
def draw91 (i : Nat) : DrawInfo := ⟨[], [], [], []⟩
def cfg91 : Cfg := ⟨[], keep91, draw91⟩
theorem ok91 : codeOK PP cfg91 Go.Proofs.Tryz.f91.ntmps body91 = true := by kernel_rfl
/-! ### 92 parterre/parterreref2.coord -/
noncomputable def body92 : Code := match Go.Proofs.Tryz.f92.body with | some c => c | none => .skip
theorem fn92 : PP.funcs[92]? = some Go.Proofs.Tryz.f92 := Go.Proofs.Tryz.func92
theorem bodyEq92 : Go.Proofs.Tryz.f92.body = some body92 := rfl
def keep92 (i : Nat) : List Nat := (if i < 1 then [0] else [2])
def draw92 (i : Nat) : DrawInfo := ⟨[], [], [], []⟩
def cfg92 : Cfg := ⟨[], keep92, draw92⟩
theorem ok92 : codeOK PP cfg92 Go.Proofs.Tryz.f92.ntmps body92 = true := by kernel_rfl
/-! ### 93 parterre/parse.bounds$1 -/
noncomputable def body93 : Code := match Go.Proofs.Tryz.f93.body with | some c => c | none => .skip
theorem fn93 : PP.funcs[93]? = some Go.Proofs.Tryz.f93 := Go.Proofs.Tryz.func93
theorem bodyEq93 : Go.Proofs.Tryz.f93.body = some body93 := rfl
def keep93 (i : Nat) : List Nat := (if i < 1 then [0] else [2])
def draw93 (i : Nat) : DrawInfo := ⟨[], [], [], []⟩
def cfg93 : Cfg := ⟨[], keep93, draw93⟩
theorem ok93 : codeOK PP cfg93 Go.Proofs.Tryz.f93.ntmps body93 = true := by kernel_rfl
/-! ### 94 parterre/venue.Reach -/
noncomputable def body94 : Code := match Go.Proofs.Tryz.f94.body with | some c => c | none => .skip
theorem fn94 : PP.funcs[94]? = some Go.Proofs.Tryz.f94 := Go.Proofs.Tryz.func94
theorem bodyEq94 : Go.Proofs.Tryz.f94.body = some body94 := rfl
def keep94 (i : Nat) : List Nat := (if i < 1 then [0] else [2])
def draw94 (i : Nat) : DrawInfo := ⟨[], [], [], []⟩
def cfg94 : Cfg := ⟨[], keep94, draw94⟩
theorem ok94 : codeOK PP cfg94 Go.Proofs.Tryz.f94.ntmps body94 = true := by kernel_rfl
/-! ### 95 parterre/venue.Row -/
noncomputable def body95 : Code := match Go.Proofs.Tryz.f95.body with | some c => c | none => .skip
theorem fn95 : PP.funcs[95]? = some Go.Proofs.Tryz.f95 := Go.Proofs.Tryz.func95
theorem bodyEq95 : Go.Proofs.Tryz.f95.body = some body95 := rfl
def keep95 (i : Nat) : List Nat := (if i < 1 then [0] else [2])
def draw95 (i : Nat) : DrawInfo := ⟨[], [], [], []⟩
def cfg95 : Cfg := ⟨[], keep95, draw95⟩
theorem ok95 : codeOK PP cfg95 Go.Proofs.Tryz.f95.ntmps body95 = true := by kernel_rfl
/-! ### 96 parterre/venue.Coord -/
noncomputable def body96 : Code := match Go.Proofs.Tryz.f96.body with | some c => c | none => .skip
theorem fn96 : PP.funcs[96]? = some Go.Proofs.Tryz.f96 := Go.Proofs.Tryz.func96
theorem bodyEq96 : Go.Proofs.Tryz.f96.body = some body96 := rfl
def keep96 (i : Nat) : List Nat := (if i < 1 then [0] else [2])
def draw96 (i : Nat) : DrawInfo := ⟨[], [], [], []⟩
def cfg96 : Cfg := ⟨[], keep96, draw96⟩
theorem ok96 : codeOK PP cfg96 Go.Proofs.Tryz.f96.ntmps body96 = true := by kernel_rfl
/-! ### 97 slices.insertionSortCmpFunc[parterre/api.Seat] -/
noncomputable def body97 : Code := match Go.Proofs.Tryz.f97.body with | some c => c | none => .skip
theorem fn97 : PP.funcs[97]? = some Go.Proofs.Tryz.f97 := Go.Proofs.Tryz.func97
theorem bodyEq97 : Go.Proofs.Tryz.f97.body = some body97 := rfl
def keep97 (i : Nat) : List Nat := (if i < 3 then (if i < 1 then [0, 1, 2, 3, 8] else (if i < 2 then [0, 1, 2, 3, 8, 14] else [0, 1, 2, 3, 8])) else (if i < 5 then (if i < 4 then [0, 1, 2, 3, 8, 9] else [0, 1, 2, 3, 8, 9, 34]) else (if i < 6 then [0, 1, 2, 3, 8, 9] else [0, 1, 2, 3, 8, 9])))
def draw97 (i : Nat) : DrawInfo := if i = 4 then ⟨[], [0, 1, 2, 3, 4, 5, 6, 7, 8, 9, 10, 11, 12, 13, 14, 15, 16], [[], [], [0, 1], [0, 1, 2], [0, 1, 2, 3], [0, 1, 2, 3], [0, 1, 2, 3], [0, 1, 2, 3, 5, 6], [0, 1, 2, 3, 5, 6, 7], [0, 1, 2, 3], [0, 1, 2, 3], [0, 1, 2, 3, 10], [0, 1, 2, 3, 9, 10, 11], [0, 1, 2, 3, 9, 10, 11, 12], [0, 1, 2, 3, 4, 5, 6, 7, 8, 9, 10, 11, 12, 13], [0, 1, 2, 3, 4, 5, 6, 7, 8, 9, 10, 11, 12, 13, 14], [0, 1, 2, 3, 4, 5, 6, 7, 8, 9, 10, 11, 12, 13, 14, 15]], []⟩ else if i = 6 then ⟨[], [0, 1, 2, 3, 4, 5, 6, 7, 8, 9, 10, 11, 12, 13, 14, 15, 16, 17], [[], [], [], [], [3], [], [], [6], [5, 6, 7], [5, 6, 7, 8], [], [], [10, 11], [10, 11, 12], [0, 1, 5, 6, 7, 8, 9, 10, 11, 12, 13], [0, 1, 5, 6, 7, 8, 9, 10, 11, 12, 13, 14], [0, 1, 2, 3, 4, 5, 6, 7, 8, 9, 10, 11, 12, 13, 14, 15], [0, 1, 2, 3, 4, 5, 6, 7, 8, 9, 10, 11, 12, 13, 14, 15, 16]], []⟩ else ⟨[], [], [], []⟩
def cfg97 : Cfg := ⟨[], keep97, draw97⟩
theorem ok97 : codeOK PP cfg97 Go.Proofs.Tryz.f97.ntmps body97 = true := by kernel_rfl
/-! ### 105 math/bits.Len32 -/
noncomputable def body105 : Code := match Go.Proofs.Tryz.f105.body with | some c => c | none => .skip
theorem fn105 : PP.funcs[105]? = some Go.Proofs.Tryz.f105 := Go.Proofs.Tryz.func105
theorem bodyEq105 : Go.Proofs.Tryz.f105.body = some body105 := rfl
def keep105 (i : Nat) : List Nat := (if i < 4 then (if i < 2 then (if i < 1 then [0, 2] else [0, 2, 4]) else (if i < 3 then [0] else [0, 2])) else (if i < 6 then (if i < 5 then [0, 2, 8] else [0, 2]) else (if i < 7 then [0, 2] else [2])))
def draw105 (i : Nat) : DrawInfo := ⟨[], [], [], []⟩
def cfg105 : Cfg := ⟨[], keep105, draw105⟩
theorem ok105 : codeOK PP cfg105 Go.Proofs.Tryz.f105.ntmps body105 = true := by kernel_rfl
/-! ### 106 math/bits.Len64 -/
noncomputable def body106 : Code := match Go.Proofs.Tryz.f106.body with | some c => c | none => .skip
theorem fn106 : PP.funcs[106]? = some Go.Proofs.Tryz.f106 := Go.Proofs.Tryz.func106
theorem bodyEq106 : Go.Proofs.Tryz.f106.body = some body106 := rfl
def keep106 (i : Nat) : List Nat := (if i < 5 then (if i < 2 then (if i < 1 then [0, 2] else [0, 2, 4]) else (if i < 3 then [0] else (if i < 4 then [0, 2] else [0, 2, 8]))) else (if i < 8 then (if i < 6 then [0, 2] else (if i < 7 then [0, 2] else [0, 2, 14])) else (if i < 9 then [0, 2] else (if i < 10 then [0, 2] else [2]))))
def draw106 (i : Nat) : DrawInfo := ⟨[], [], [], []⟩
def cfg106 : Cfg := ⟨[], keep106, draw106⟩
theorem ok106 : codeOK PP cfg106 Go.Proofs.Tryz.f106.ntmps body106 = true := by kernel_rfl
/-! ### 107 slices.insertionSortOrdered[int] -/
noncomputable def body107 : Code := match Go.Proofs.Tryz.f107.body with | some c => c | none => .skip
theorem fn107 : PP.funcs[107]? = some Go.Proofs.Tryz.f107 := Go.Proofs.Tryz.func107
theorem bodyEq107 : Go.Proofs.Tryz.f107.body = some body107 := rfl
def keep107 (i : Nat) : List Nat := (if i < 3 then (if i < 1 then [0, 1, 2, 6] else (if i < 2 then [0, 1, 2, 6, 12] else [0, 1, 2, 6])) else (if i < 5 then (if i < 4 then [0, 1, 2, 6, 7] else [0, 1, 2, 6, 7, 30]) else (if i < 6 then [0, 1, 2, 6, 7] else [0, 1, 2, 6, 7])))
def draw107 (i : Nat) : DrawInfo := if i = 4 then ⟨[], [0, 1, 2, 3, 4, 5, 6, 7, 8, 9, 10, 11, 12, 13, 14], [[], [], [0, 1], [0, 1, 2], [0, 1, 2, 3], [0, 1, 2, 3], [0, 1, 2, 3, 4, 5], [0, 1, 2, 3, 4, 5, 6], [0, 1, 2, 3], [0, 1, 2, 3], [0, 1, 2, 3, 9], [0, 1, 2, 3, 8, 9, 10], [0, 1, 2, 3, 8, 9, 10, 11], [0, 1, 2, 3, 4, 5, 6, 7, 8, 9, 10, 11, 12], [0, 1, 2, 3, 4, 5, 6, 7, 8, 9, 10, 11, 12, 13]], []⟩ else if i = 6 then ⟨[], [0, 1, 2, 3, 4, 5, 6, 7, 8, 9, 10, 11, 12, 13, 14, 15, 16, 17], [[], [], [], [], [3], [], [], [6], [5, 6, 7], [5, 6, 7, 8], [], [], [10, 11], [10, 11, 12], [0, 1, 5, 6, 7, 8, 9, 10, 11, 12, 13], [0, 1, 5, 6, 7, 8, 9, 10, 11, 12, 13, 14], [0, 1, 2, 3, 4, 5, 6, 7, 8, 9, 10, 11, 12, 13, 14, 15], [0, 1, 2, 3, 4, 5, 6, 7, 8, 9, 10, 11, 12, 13, 14, 15, 16]], []⟩ else ⟨[], [], [], []⟩
def cfg107 : Cfg := ⟨[], keep107, draw107⟩
theorem ok107 : codeOK PP cfg107 Go.Proofs.Tryz.f107.ntmps body107 = true := by kernel_rfl
/-! ### 116 parterre/venue.seats -/
noncomputable def body116 : Code := match Go.Proofs.Tryz.f116.body with | some c => c | none => .skip
theorem fn116 : PP.funcs[116]? = some Go.Proofs.Tryz.f116 := Go.Proofs.Tryz.func116
theorem bodyEq116 : Go.Proofs.Tryz.f116.body = some body116 := rfl
def keep116 (i : Nat) : List Nat := (if i < 4 then (if i < 2 then (if i < 1 then [0] else [0, 5, 6, 7]) else (if i < 3 then [0, 5, 6, 7, 8] else [0, 3, 4, 5, 6, 7])) else (if i < 6 then (if i < 5 then [0, 5, 6, 7, 28] else [2]) else (if i < 7 then [0, 5, 6, 7] else [2])))
def draw116 (i : Nat) : DrawInfo := if i = 4 then ⟨[], [0, 1, 2, 3, 4, 5, 6, 7, 8, 9, 10, 11, 12, 13, 14, 15, 16], [[], [0], [0, 1], [0, 1, 2], [0, 1, 2, 3], [0, 1, 2, 3, 4], [0, 1, 2, 3, 4, 5], [0, 1, 2, 3, 4, 5, 6], [0, 1, 2, 3, 4, 5, 6], [0, 1, 2, 3, 4, 5, 6, 8], [0, 1, 2, 3, 4, 5, 6, 7, 8, 9], [0, 1, 2, 3, 4, 5, 6, 7, 8, 9, 10], [0, 1, 2, 3, 4, 5, 6], [0, 1, 2, 3, 4, 5, 6, 7, 8, 9, 10, 11, 12], [0, 1, 2, 3, 4, 5, 6, 7, 8, 9, 10, 11, 12, 13], [0, 1, 2, 3, 4, 5, 6, 7, 8, 9, 10, 11, 12, 13, 14], [0, 1, 2, 3, 4, 5, 6, 7, 8, 9, 10, 11, 12, 13, 14, 15]], []⟩ else ⟨[], [], [], []⟩
def cfg116 : Cfg := ⟨[4], keep116, draw116⟩
theorem ok116 : codeOK PP cfg116 Go.Proofs.Tryz.f116.ntmps body116 = true := by kernel_rfl
/-! ### 117 parterre/venue.in -/
noncomputable def body117 : Code := match Go.Proofs.Tryz.f117.body with | some c => c | none => .skip
theorem fn117 : PP.funcs[117]? = some Go.Proofs.Tryz.f117 := Go.Proofs.Tryz.func117
theorem bodyEq117 : Go.Proofs.Tryz.f117.body = some body117 := rfl
def keep117 (i : Nat) : List Nat := (if i < 1 then [0, 1, 2] else [6])
def draw117 (i : Nat) : DrawInfo := ⟨[], [], [], []⟩
def cfg117 : Cfg := ⟨[], keep117, draw117⟩
theorem ok117 : codeOK PP cfg117 Go.Proofs.Tryz.f117.ntmps body117 = true := by kernel_rfl
/-! ### 118 parterre/venue.kills -/
noncomputable def body118 : Code := match Go.Proofs.Tryz.f118.body with | some c => c | none => .skip
theorem fn118 : PP.funcs[118]? = some Go.Proofs.Tryz.f118 := Go.Proofs.Tryz.func118
theorem bodyEq118 : Go.Proofs.Tryz.f118.body = some body118 := rfl
def keep118 (i : Nat) : List Nat := (if i < 4 then (if i < 2 then (if i < 1 then [0, 1] else [0, 1, 7, 8, 9]) else (if i < 3 then [0, 1, 7, 8, 9, 10] else [0, 1, 5, 6, 7, 8, 9])) else (if i < 6 then (if i < 5 then [0, 1, 7, 8, 9, 33] else [4]) else (if i < 7 then [0, 1, 7, 8, 9] else [4])))
def draw118 (i : Nat) : DrawInfo := ⟨[], [], [], []⟩
def cfg118 : Cfg := ⟨[], keep118, draw118⟩
theorem ok118 : codeOK PP cfg118 Go.Proofs.Tryz.f118.ntmps body118 = true := by kernel_rfl
/-! ### 119 parterre/venue.poles -/
noncomputable def body119 : Code := match Go.Proofs.Tryz.f119.body with | some c => c | none => .skip
theorem fn119 : PP.funcs[119]? = some Go.Proofs.Tryz.f119 := Go.Proofs.Tryz.func119
theorem bodyEq119 : Go.Proofs.Tryz.f119.body = some body119 := rfl
def keep119 (i : Nat) : List Nat := (if i < 4 then (if i < 2 then (if i < 1 then [0] else [0, 5, 6, 7]) else (if i < 3 then [0, 5, 6, 7, 8] else [0, 4, 5, 6, 7])) else (if i < 6 then (if i < 5 then [0, 5, 6, 7, 26] else [2]) else (if i < 7 then [0, 5, 6, 7] else [2])))
def draw119 (i : Nat) : DrawInfo := ⟨[], [], [], []⟩
def cfg119 : Cfg := ⟨[4], keep119, draw119⟩
theorem ok119 : codeOK PP cfg119 Go.Proofs.Tryz.f119.ntmps body119 = true := by kernel_rfl
/-! ### 120 parterre/parterreref2.blank -/
noncomputable def body120 : Code := match Go.Proofs.Tryz.f120.body with | some c => c | none => .skip
theorem fn120 : PP.funcs[120]? = some Go.Proofs.Tryz.f120 := Go.Proofs.Tryz.func120
theorem bodyEq120 : Go.Proofs.Tryz.f120.body = some body120 := rfl
def keep120 (i : Nat) : List Nat := (if i < 1 then [0] else [2])
def draw120 (i : Nat) : DrawInfo := ⟨[], [], [], []⟩
def cfg120 : Cfg := ⟨[], keep120, draw120⟩
theorem ok120 : codeOK PP cfg120 Go.Proofs.Tryz.f120.ntmps body120 = true := by kernel_rfl
/-! ### 130 parterre/venue.seat -/
noncomputable def body130 : Code := match Go.Proofs.Tryz.f130.body with | some c => c | none => .skip
theorem fn130 : PP.funcs[130]? = some Go.Proofs.Tryz.f130 := Go.Proofs.Tryz.func130
theorem bodyEq130 : Go.Proofs.Tryz.f130.body = some body130 := rfl
def keep130 (i : Nat) : List Nat := (if i < 3 then (if i < 1 then [1] else (if i < 2 then [1, 4] else [1, 4, 5])) else (if i < 5 then (if i < 4 then [1, 4, 7] else [1, 9]) else (if i < 6 then [2] else [2])))
def draw130 (i : Nat) : DrawInfo := ⟨[], [], [], []⟩
def cfg130 : Cfg := ⟨[1], keep130, draw130⟩
theorem ok130 : codeOK PP cfg130 Go.Proofs.Tryz.f130.ntmps body130 = true := by kernel_rfl
/-! ### types -/
theorem un3 : PP.underlying 3 = some (Go.TypeDesc.int Go.IntKind.i64) := by kernel_rfl
theorem sz3 : szT PP 3 = some 1 := by kernel_rfl
theorem co3 : PP.cellsOf 3 = 1 := by kernel_rfl
theorem by3 : bytesT PP 3 = some 8 := by kernel_rfl
theorem ag3 : aggT PP 3 = some false := by kernel_rfl
theorem ze3 : zeroT PP 3 = some [(Go.Value.int Go.IntKind.i64 0)] := by kernel_rfl
theorem un4 : PP.underlying 4 = some Go.TypeDesc.bool := by kernel_rfl
theorem sz4 : szT PP 4 = some 1 := by kernel_rfl
theorem co4 : PP.cellsOf 4 = 1 := by kernel_rfl
theorem by4 : bytesT PP 4 = some 1 := by kernel_rfl
theorem ag4 : aggT PP 4 = some false := by kernel_rfl
theorem ze4 : zeroT PP 4 = some [(Go.Value.bool false)] := by kernel_rfl
theorem un5 : PP.underlying 5 = some (Go.TypeDesc.int Go.IntKind.u8) := by kernel_rfl
theorem sz5 : szT PP 5 = some 1 := by kernel_rfl
theorem co5 : PP.cellsOf 5 = 1 := by kernel_rfl
theorem by5 : bytesT PP 5 = some 1 := by kernel_rfl
theorem ag5 : aggT PP 5 = some false := by kernel_rfl
theorem ze5 : zeroT PP 5 = some [(Go.Value.int Go.IntKind.u8 0)] := by kernel_rfl
theorem un9 : PP.underlying 9 = some Go.TypeDesc.string := by kernel_rfl
theorem sz9 : szT PP 9 = some 1 := by kernel_rfl
theorem co9 : PP.cellsOf 9 = 1 := by kernel_rfl
theorem by9 : bytesT PP 9 = some 16 := by kernel_rfl
theorem ag9 : aggT PP 9 = some false := by kernel_rfl
theorem ze9 : zeroT PP 9 = some [(Go.Value.string { data := #[] })] := by kernel_rfl
theorem un20 : PP.underlying 20 = some (Go.TypeDesc.interface #[]) := by kernel_rfl
theorem sz20 : szT PP 20 = some 1 := by kernel_rfl
theorem co20 : PP.cellsOf 20 = 1 := by kernel_rfl
theorem by20 : bytesT PP 20 = some 16 := by kernel_rfl
theorem ag20 : aggT PP 20 = some false := by kernel_rfl
theorem ze20 : zeroT PP 20 = some [Go.Value.nilIface] := by kernel_rfl
theorem un21 : PP.underlying 21 = some (Go.TypeDesc.int Go.IntKind.i32) := by kernel_rfl
theorem sz21 : szT PP 21 = some 1 := by kernel_rfl
theorem co21 : PP.cellsOf 21 = 1 := by kernel_rfl
theorem by21 : bytesT PP 21 = some 4 := by kernel_rfl
theorem ag21 : aggT PP 21 = some false := by kernel_rfl
theorem ze21 : zeroT PP 21 = some [(Go.Value.int Go.IntKind.i32 0)] := by kernel_rfl
theorem un22 : PP.underlying 22 = some (Go.TypeDesc.slice 3) := by kernel_rfl
theorem sz22 : szT PP 22 = some 1 := by kernel_rfl
theorem co22 : PP.cellsOf 22 = 1 := by kernel_rfl
theorem by22 : bytesT PP 22 = some 24 := by kernel_rfl
theorem ag22 : aggT PP 22 = some false := by kernel_rfl
theorem ze22 : zeroT PP 22 = some [(Go.Value.slice none 0 0)] := by kernel_rfl
theorem el22 : elemT PP 22 = some (3, 1) := by kernel_rfl
theorem un25 : PP.underlying 25 = some (Go.TypeDesc.slice 9) := by kernel_rfl
theorem sz25 : szT PP 25 = some 1 := by kernel_rfl
theorem co25 : PP.cellsOf 25 = 1 := by kernel_rfl
theorem by25 : bytesT PP 25 = some 24 := by kernel_rfl
theorem ag25 : aggT PP 25 = some false := by kernel_rfl
theorem ze25 : zeroT PP 25 = some [(Go.Value.slice none 0 0)] := by kernel_rfl
theorem el25 : elemT PP 25 = some (9, 1) := by kernel_rfl
theorem un27 : PP.underlying 27 = some (Go.TypeDesc.struct #[{ name := "Line", type := 3, offset := 0, embedded := false, tag := "", pkgPath := "", byteOffset := 0 }, { name := "Col", type := 3, offset := 1, embedded := false, tag := "", pkgPath := "", byteOffset := 8 }]) := by kernel_rfl
theorem sz27 : szT PP 27 = some 2 := by kernel_rfl
theorem co27 : PP.cellsOf 27 = 2 := by kernel_rfl
theorem by27 : bytesT PP 27 = some 16 := by kernel_rfl
theorem ag27 : aggT PP 27 = some true := by kernel_rfl
theorem ze27 : zeroT PP 27 = some [(Go.Value.int Go.IntKind.i64 0), (Go.Value.int Go.IntKind.i64 0)] := by kernel_rfl
theorem gt27 : PP.eqGuardType PP.depth 27 = false := by kernel_rfl
theorem st27 : PP.stoodInHeld 27 = false := by kernel_rfl
theorem of27x0 : offT PP 27 0 = some (0, 3, 1) := by kernel_rfl
theorem of27x1 : offT PP 27 1 = some (1, 3, 1) := by kernel_rfl
theorem pl27 : placesT PP #[{ name := "Line", type := 3, offset := 0, embedded := false, tag := "", pkgPath := "", byteOffset := 0 }, { name := "Col", type := 3, offset := 1, embedded := false, tag := "", pkgPath := "", byteOffset := 8 }].toList = some [(0, 1), (1, 1)] := by kernel_rfl
theorem bu27 (σ : St) (parts : Array (Nat × Operand)) : opBuild PP σ 27 parts = (match partsA σ parts.toList with | some ps => (match fillL (fun i => ([(0, 1), (1, 1)] : List (Nat × Nat))[i]?) [(Go.Value.int Go.IntKind.i64 0), (Go.Value.int Go.IntKind.i64 0)] ps with | some out => some (.agg ⟨out⟩, σ) | none => none) | none => none) := by
  unfold opBuild; rw [un27]; simp only []; rw [pl27, ze27]; cases partsA σ parts.toList <;> rfl
theorem un30 : PP.underlying 30 = some (Go.TypeDesc.slice 57) := by kernel_rfl
theorem sz30 : szT PP 30 = some 1 := by kernel_rfl
theorem co30 : PP.cellsOf 30 = 1 := by kernel_rfl
theorem by30 : bytesT PP 30 = some 24 := by kernel_rfl
theorem ag30 : aggT PP 30 = some false := by kernel_rfl
theorem ze30 : zeroT PP 30 = some [(Go.Value.slice none 0 0)] := by kernel_rfl
theorem el30 : elemT PP 30 = some (57, 4) := by kernel_rfl
theorem un31 : PP.underlying 31 = some (Go.TypeDesc.slice 93) := by kernel_rfl
theorem sz31 : szT PP 31 = some 1 := by kernel_rfl
theorem co31 : PP.cellsOf 31 = 1 := by kernel_rfl
theorem by31 : bytesT PP 31 = some 24 := by kernel_rfl
theorem ag31 : aggT PP 31 = some false := by kernel_rfl
theorem ze31 : zeroT PP 31 = some [(Go.Value.slice none 0 0)] := by kernel_rfl
theorem el31 : elemT PP 31 = some (93, 3) := by kernel_rfl
theorem un33 : PP.underlying 33 = some (Go.TypeDesc.struct #[{ name := "Seats", type := 30, offset := 0, embedded := false, tag := "", pkgPath := "", byteOffset := 0 }, { name := "Gap", type := 3, offset := 1, embedded := false, tag := "", pkgPath := "", byteOffset := 24 }, { name := "Radius", type := 3, offset := 2, embedded := false, tag := "", pkgPath := "", byteOffset := 32 }, { name := "Kills", type := 22, offset := 3, embedded := false, tag := "", pkgPath := "", byteOffset := 40 }, { name := "Poles", type := 31, offset := 4, embedded := false, tag := "", pkgPath := "", byteOffset := 64 }]) := by kernel_rfl
theorem sz33 : szT PP 33 = some 5 := by kernel_rfl
theorem co33 : PP.cellsOf 33 = 5 := by kernel_rfl
theorem by33 : bytesT PP 33 = some 88 := by kernel_rfl
theorem ag33 : aggT PP 33 = some true := by kernel_rfl
theorem ze33 : zeroT PP 33 = some [(Go.Value.slice none 0 0), (Go.Value.int Go.IntKind.i64 0), (Go.Value.int Go.IntKind.i64 0), (Go.Value.slice none 0 0), (Go.Value.slice none 0 0)] := by kernel_rfl
theorem of33x0 : offT PP 33 0 = some (0, 30, 1) := by kernel_rfl
theorem of33x1 : offT PP 33 1 = some (1, 3, 1) := by kernel_rfl
theorem of33x2 : offT PP 33 2 = some (2, 3, 1) := by kernel_rfl
theorem of33x3 : offT PP 33 3 = some (3, 22, 1) := by kernel_rfl
theorem of33x4 : offT PP 33 4 = some (4, 31, 1) := by kernel_rfl
theorem pl33 : placesT PP #[{ name := "Seats", type := 30, offset := 0, embedded := false, tag := "", pkgPath := "", byteOffset := 0 }, { name := "Gap", type := 3, offset := 1, embedded := false, tag := "", pkgPath := "", byteOffset := 24 }, { name := "Radius", type := 3, offset := 2, embedded := false, tag := "", pkgPath := "", byteOffset := 32 }, { name := "Kills", type := 22, offset := 3, embedded := false, tag := "", pkgPath := "", byteOffset := 40 }, { name := "Poles", type := 31, offset := 4, embedded := false, tag := "", pkgPath := "", byteOffset := 64 }].toList = some [(0, 1), (1, 1), (2, 1), (3, 1), (4, 1)] := by kernel_rfl
theorem bu33 (σ : St) (parts : Array (Nat × Operand)) : opBuild PP σ 33 parts = (match partsA σ parts.toList with | some ps => (match fillL (fun i => ([(0, 1), (1, 1), (2, 1), (3, 1), (4, 1)] : List (Nat × Nat))[i]?) [(Go.Value.slice none 0 0), (Go.Value.int Go.IntKind.i64 0), (Go.Value.int Go.IntKind.i64 0), (Go.Value.slice none 0 0), (Go.Value.slice none 0 0)] ps with | some out => some (.agg ⟨out⟩, σ) | none => none) | none => none) := by
  unfold opBuild; rw [un33]; simp only []; rw [pl33, ze33]; cases partsA σ parts.toList <;> rfl
theorem un35 : PP.underlying 35 = some (Go.TypeDesc.interface #[("Error", 194)]) := by kernel_rfl
theorem sz35 : szT PP 35 = some 1 := by kernel_rfl
theorem co35 : PP.cellsOf 35 = 1 := by kernel_rfl
theorem by35 : bytesT PP 35 = some 16 := by kernel_rfl
theorem ag35 : aggT PP 35 = some false := by kernel_rfl
theorem ze35 : zeroT PP 35 = some [Go.Value.nilIface] := by kernel_rfl
theorem un49 : PP.underlying 49 = some (Go.TypeDesc.int Go.IntKind.u64) := by kernel_rfl
theorem sz49 : szT PP 49 = some 1 := by kernel_rfl
theorem co49 : PP.cellsOf 49 = 1 := by kernel_rfl
theorem by49 : bytesT PP 49 = some 8 := by kernel_rfl
theorem ag49 : aggT PP 49 = some false := by kernel_rfl
theorem ze49 : zeroT PP 49 = some [(Go.Value.int Go.IntKind.u64 0)] := by kernel_rfl
theorem un51 : PP.underlying 51 = some (Go.TypeDesc.slice 5) := by kernel_rfl
theorem sz51 : szT PP 51 = some 1 := by kernel_rfl
theorem co51 : PP.cellsOf 51 = 1 := by kernel_rfl
theorem by51 : bytesT PP 51 = some 24 := by kernel_rfl
theorem ag51 : aggT PP 51 = some false := by kernel_rfl
theorem ze51 : zeroT PP 51 = some [(Go.Value.slice none 0 0)] := by kernel_rfl
theorem el51 : elemT PP 51 = some (5, 1) := by kernel_rfl
theorem un52 : PP.underlying 52 = some (Go.TypeDesc.func #[3] #[4] false) := by kernel_rfl
theorem sz52 : szT PP 52 = some 1 := by kernel_rfl
theorem co52 : PP.cellsOf 52 = 1 := by kernel_rfl
theorem by52 : bytesT PP 52 = some 8 := by kernel_rfl
theorem ag52 : aggT PP 52 = some false := by kernel_rfl
theorem ze52 : zeroT PP 52 = some [Go.Value.nilFunc] := by kernel_rfl
theorem un54 : PP.underlying 54 = some (Go.TypeDesc.array 4 4) := by kernel_rfl
theorem sz54 : szT PP 54 = some 4 := by kernel_rfl
theorem co54 : PP.cellsOf 54 = 4 := by kernel_rfl
theorem by54 : bytesT PP 54 = some 4 := by kernel_rfl
theorem ag54 : aggT PP 54 = some true := by kernel_rfl
theorem ze54 : zeroT PP 54 = some [(Go.Value.bool false), (Go.Value.bool false), (Go.Value.bool false), (Go.Value.bool false)] := by kernel_rfl
theorem un57 : PP.underlying 57 = some (Go.TypeDesc.struct #[{ name := "Row", type := 3, offset := 0, embedded := false, tag := "", pkgPath := "", byteOffset := 0 }, { name := "X", type := 3, offset := 1, embedded := false, tag := "", pkgPath := "", byteOffset := 8 }, { name := "Y", type := 3, offset := 2, embedded := false, tag := "", pkgPath := "", byteOffset := 16 }, { name := "Kind", type := 3, offset := 3, embedded := false, tag := "", pkgPath := "", byteOffset := 24 }]) := by kernel_rfl
theorem sz57 : szT PP 57 = some 4 := by kernel_rfl
theorem co57 : PP.cellsOf 57 = 4 := by kernel_rfl
theorem by57 : bytesT PP 57 = some 32 := by kernel_rfl
theorem ag57 : aggT PP 57 = some true := by kernel_rfl
theorem ze57 : zeroT PP 57 = some [(Go.Value.int Go.IntKind.i64 0), (Go.Value.int Go.IntKind.i64 0), (Go.Value.int Go.IntKind.i64 0), (Go.Value.int Go.IntKind.i64 0)] := by kernel_rfl
theorem gt57 : PP.eqGuardType PP.depth 57 = false := by kernel_rfl
theorem st57 : PP.stoodInHeld 57 = false := by kernel_rfl
theorem of57x0 : offT PP 57 0 = some (0, 3, 1) := by kernel_rfl
theorem of57x1 : offT PP 57 1 = some (1, 3, 1) := by kernel_rfl
theorem of57x2 : offT PP 57 2 = some (2, 3, 1) := by kernel_rfl
theorem of57x3 : offT PP 57 3 = some (3, 3, 1) := by kernel_rfl
theorem pl57 : placesT PP #[{ name := "Row", type := 3, offset := 0, embedded := false, tag := "", pkgPath := "", byteOffset := 0 }, { name := "X", type := 3, offset := 1, embedded := false, tag := "", pkgPath := "", byteOffset := 8 }, { name := "Y", type := 3, offset := 2, embedded := false, tag := "", pkgPath := "", byteOffset := 16 }, { name := "Kind", type := 3, offset := 3, embedded := false, tag := "", pkgPath := "", byteOffset := 24 }].toList = some [(0, 1), (1, 1), (2, 1), (3, 1)] := by kernel_rfl
theorem bu57 (σ : St) (parts : Array (Nat × Operand)) : opBuild PP σ 57 parts = (match partsA σ parts.toList with | some ps => (match fillL (fun i => ([(0, 1), (1, 1), (2, 1), (3, 1)] : List (Nat × Nat))[i]?) [(Go.Value.int Go.IntKind.i64 0), (Go.Value.int Go.IntKind.i64 0), (Go.Value.int Go.IntKind.i64 0), (Go.Value.int Go.IntKind.i64 0)] ps with | some out => some (.agg ⟨out⟩, σ) | none => none) | none => none) := by
  unfold opBuild; rw [un57]; simp only []; rw [pl57, ze57]; cases partsA σ parts.toList <;> rfl
theorem un58 : PP.underlying 58 = some (Go.TypeDesc.pointer 89) := by kernel_rfl
theorem sz58 : szT PP 58 = some 1 := by kernel_rfl
theorem co58 : PP.cellsOf 58 = 1 := by kernel_rfl
theorem by58 : bytesT PP 58 = some 8 := by kernel_rfl
theorem ag58 : aggT PP 58 = some false := by kernel_rfl
theorem ze58 : zeroT PP 58 = some [(Go.Value.pointer none)] := by kernel_rfl
theorem un60 : PP.underlying 60 = some (Go.TypeDesc.pointer 58) := by kernel_rfl
theorem sz60 : szT PP 60 = some 1 := by kernel_rfl
theorem co60 : PP.cellsOf 60 = 1 := by kernel_rfl
theorem by60 : bytesT PP 60 = some 8 := by kernel_rfl
theorem ag60 : aggT PP 60 = some false := by kernel_rfl
theorem ze60 : zeroT PP 60 = some [(Go.Value.pointer none)] := by kernel_rfl
theorem un62 : PP.underlying 62 = some (Go.TypeDesc.slice 84) := by kernel_rfl
theorem sz62 : szT PP 62 = some 1 := by kernel_rfl
theorem co62 : PP.cellsOf 62 = 1 := by kernel_rfl
theorem by62 : bytesT PP 62 = some 24 := by kernel_rfl
theorem ag62 : aggT PP 62 = some false := by kernel_rfl
theorem ze62 : zeroT PP 62 = some [(Go.Value.slice none 0 0)] := by kernel_rfl
theorem el62 : elemT PP 62 = some (84, 5) := by kernel_rfl
theorem un67 : PP.underlying 67 = some (Go.TypeDesc.pointer 71) := by kernel_rfl
theorem sz67 : szT PP 67 = some 1 := by kernel_rfl
theorem co67 : PP.cellsOf 67 = 1 := by kernel_rfl
theorem by67 : bytesT PP 67 = some 8 := by kernel_rfl
theorem ag67 : aggT PP 67 = some false := by kernel_rfl
theorem ze67 : zeroT PP 67 = some [(Go.Value.pointer none)] := by kernel_rfl
theorem un68 : PP.underlying 68 = some (Go.TypeDesc.map 116 3) := by kernel_rfl
theorem sz68 : szT PP 68 = some 1 := by kernel_rfl
theorem co68 : PP.cellsOf 68 = 1 := by kernel_rfl
theorem by68 : bytesT PP 68 = some 8 := by kernel_rfl
theorem ag68 : aggT PP 68 = some false := by kernel_rfl
theorem ze68 : zeroT PP 68 = some [(Go.Value.map none)] := by kernel_rfl
theorem un69 : PP.underlying 69 = some (Go.TypeDesc.slice 118) := by kernel_rfl
theorem sz69 : szT PP 69 = some 1 := by kernel_rfl
theorem co69 : PP.cellsOf 69 = 1 := by kernel_rfl
theorem by69 : bytesT PP 69 = some 24 := by kernel_rfl
theorem ag69 : aggT PP 69 = some false := by kernel_rfl
theorem ze69 : zeroT PP 69 = some [(Go.Value.slice none 0 0)] := by kernel_rfl
theorem el69 : elemT PP 69 = some (118, 6) := by kernel_rfl
theorem un71 : PP.underlying 71 = some (Go.TypeDesc.struct #[{ name := "v", type := 33, offset := 0, embedded := false, tag := "", pkgPath := "parterre/parse", byteOffset := 0 }, { name := "end", type := 27, offset := 5, embedded := false, tag := "", pkgPath := "parterre/parse", byteOffset := 88 }, { name := "at", type := 68, offset := 7, embedded := false, tag := "", pkgPath := "parterre/parse", byteOffset := 104 }, { name := "kills", type := 69, offset := 8, embedded := false, tag := "", pkgPath := "parterre/parse", byteOffset := 112 }, { name := "radius", type := 4, offset := 9, embedded := false, tag := "", pkgPath := "parterre/parse", byteOffset := 136 }]) := by kernel_rfl
theorem sz71 : szT PP 71 = some 10 := by kernel_rfl
theorem co71 : PP.cellsOf 71 = 10 := by kernel_rfl
theorem by71 : bytesT PP 71 = some 144 := by kernel_rfl
theorem ag71 : aggT PP 71 = some true := by kernel_rfl
theorem ze71 : zeroT PP 71 = some [(Go.Value.slice none 0 0), (Go.Value.int Go.IntKind.i64 0), (Go.Value.int Go.IntKind.i64 0), (Go.Value.slice none 0 0), (Go.Value.slice none 0 0), (Go.Value.int Go.IntKind.i64 0), (Go.Value.int Go.IntKind.i64 0), (Go.Value.map none), (Go.Value.slice none 0 0), (Go.Value.bool false)] := by kernel_rfl
theorem of71x0 : offT PP 71 0 = some (0, 33, 5) := by kernel_rfl
theorem of71x1 : offT PP 71 1 = some (5, 27, 2) := by kernel_rfl
theorem of71x2 : offT PP 71 2 = some (7, 68, 1) := by kernel_rfl
theorem of71x3 : offT PP 71 3 = some (8, 69, 1) := by kernel_rfl
theorem of71x4 : offT PP 71 4 = some (9, 4, 1) := by kernel_rfl
theorem pl71 : placesT PP #[{ name := "v", type := 33, offset := 0, embedded := false, tag := "", pkgPath := "parterre/parse", byteOffset := 0 }, { name := "end", type := 27, offset := 5, embedded := false, tag := "", pkgPath := "parterre/parse", byteOffset := 88 }, { name := "at", type := 68, offset := 7, embedded := false, tag := "", pkgPath := "parterre/parse", byteOffset := 104 }, { name := "kills", type := 69, offset := 8, embedded := false, tag := "", pkgPath := "parterre/parse", byteOffset := 112 }, { name := "radius", type := 4, offset := 9, embedded := false, tag := "", pkgPath := "parterre/parse", byteOffset := 136 }].toList = some [(0, 5), (5, 2), (7, 1), (8, 1), (9, 1)] := by kernel_rfl
theorem bu71 (σ : St) (parts : Array (Nat × Operand)) : opBuild PP σ 71 parts = (match partsA σ parts.toList with | some ps => (match fillL (fun i => ([(0, 5), (5, 2), (7, 1), (8, 1), (9, 1)] : List (Nat × Nat))[i]?) [(Go.Value.slice none 0 0), (Go.Value.int Go.IntKind.i64 0), (Go.Value.int Go.IntKind.i64 0), (Go.Value.slice none 0 0), (Go.Value.slice none 0 0), (Go.Value.int Go.IntKind.i64 0), (Go.Value.int Go.IntKind.i64 0), (Go.Value.map none), (Go.Value.slice none 0 0), (Go.Value.bool false)] ps with | some out => some (.agg ⟨out⟩, σ) | none => none) | none => none) := by
  unfold opBuild; rw [un71]; simp only []; rw [pl71, ze71]; cases partsA σ parts.toList <;> rfl
theorem un76 : PP.underlying 76 = some (Go.TypeDesc.pointer 79) := by kernel_rfl
theorem sz76 : szT PP 76 = some 1 := by kernel_rfl
theorem co76 : PP.cellsOf 76 = 1 := by kernel_rfl
theorem by76 : bytesT PP 76 = some 8 := by kernel_rfl
theorem ag76 : aggT PP 76 = some false := by kernel_rfl
theorem ze76 : zeroT PP 76 = some [(Go.Value.pointer none)] := by kernel_rfl
theorem un77 : PP.underlying 77 = some (Go.TypeDesc.slice 27) := by kernel_rfl
theorem sz77 : szT PP 77 = some 1 := by kernel_rfl
theorem co77 : PP.cellsOf 77 = 1 := by kernel_rfl
theorem by77 : bytesT PP 77 = some 24 := by kernel_rfl
theorem ag77 : aggT PP 77 = some false := by kernel_rfl
theorem ze77 : zeroT PP 77 = some [(Go.Value.slice none 0 0)] := by kernel_rfl
theorem el77 : elemT PP 77 = some (27, 2) := by kernel_rfl
theorem un79 : PP.underlying 79 = some (Go.TypeDesc.struct #[{ name := "V", type := 33, offset := 0, embedded := false, tag := "", pkgPath := "", byteOffset := 0 }, { name := "Gaps", type := 3, offset := 5, embedded := false, tag := "", pkgPath := "", byteOffset := 88 }, { name := "Radii", type := 3, offset := 6, embedded := false, tag := "", pkgPath := "", byteOffset := 96 }, { name := "Row", type := 22, offset := 7, embedded := false, tag := "", pkgPath := "", byteOffset := 104 }, { name := "X", type := 22, offset := 8, embedded := false, tag := "", pkgPath := "", byteOffset := 128 }, { name := "Word", type := 77, offset := 9, embedded := false, tag := "", pkgPath := "", byteOffset := 152 }, { name := "First", type := 77, offset := 10, embedded := false, tag := "", pkgPath := "", byteOffset := 176 }]) := by kernel_rfl
theorem sz79 : szT PP 79 = some 11 := by kernel_rfl
theorem co79 : PP.cellsOf 79 = 11 := by kernel_rfl
theorem by79 : bytesT PP 79 = some 200 := by kernel_rfl
theorem ag79 : aggT PP 79 = some true := by kernel_rfl
theorem ze79 : zeroT PP 79 = some [(Go.Value.slice none 0 0), (Go.Value.int Go.IntKind.i64 0), (Go.Value.int Go.IntKind.i64 0), (Go.Value.slice none 0 0), (Go.Value.slice none 0 0), (Go.Value.int Go.IntKind.i64 0), (Go.Value.int Go.IntKind.i64 0), (Go.Value.slice none 0 0), (Go.Value.slice none 0 0), (Go.Value.slice none 0 0), (Go.Value.slice none 0 0)] := by kernel_rfl
theorem gt79 : PP.eqGuardType PP.depth 79 = false := by kernel_rfl
theorem st79 : PP.stoodInHeld 79 = false := by kernel_rfl
theorem of79x0 : offT PP 79 0 = some (0, 33, 5) := by kernel_rfl
theorem of79x1 : offT PP 79 1 = some (5, 3, 1) := by kernel_rfl
theorem of79x2 : offT PP 79 2 = some (6, 3, 1) := by kernel_rfl
theorem of79x3 : offT PP 79 3 = some (7, 22, 1) := by kernel_rfl
theorem of79x4 : offT PP 79 4 = some (8, 22, 1) := by kernel_rfl
theorem of79x5 : offT PP 79 5 = some (9, 77, 1) := by kernel_rfl
theorem of79x6 : offT PP 79 6 = some (10, 77, 1) := by kernel_rfl
theorem pl79 : placesT PP #[{ name := "V", type := 33, offset := 0, embedded := false, tag := "", pkgPath := "", byteOffset := 0 }, { name := "Gaps", type := 3, offset := 5, embedded := false, tag := "", pkgPath := "", byteOffset := 88 }, { name := "Radii", type := 3, offset := 6, embedded := false, tag := "", pkgPath := "", byteOffset := 96 }, { name := "Row", type := 22, offset := 7, embedded := false, tag := "", pkgPath := "", byteOffset := 104 }, { name := "X", type := 22, offset := 8, embedded := false, tag := "", pkgPath := "", byteOffset := 128 }, { name := "Word", type := 77, offset := 9, embedded := false, tag := "", pkgPath := "", byteOffset := 152 }, { name := "First", type := 77, offset := 10, embedded := false, tag := "", pkgPath := "", byteOffset := 176 }].toList = some [(0, 5), (5, 1), (6, 1), (7, 1), (8, 1), (9, 1), (10, 1)] := by kernel_rfl
theorem bu79 (σ : St) (parts : Array (Nat × Operand)) : opBuild PP σ 79 parts = (match partsA σ parts.toList with | some ps => (match fillL (fun i => ([(0, 5), (5, 1), (6, 1), (7, 1), (8, 1), (9, 1), (10, 1)] : List (Nat × Nat))[i]?) [(Go.Value.slice none 0 0), (Go.Value.int Go.IntKind.i64 0), (Go.Value.int Go.IntKind.i64 0), (Go.Value.slice none 0 0), (Go.Value.slice none 0 0), (Go.Value.int Go.IntKind.i64 0), (Go.Value.int Go.IntKind.i64 0), (Go.Value.slice none 0 0), (Go.Value.slice none 0 0), (Go.Value.slice none 0 0), (Go.Value.slice none 0 0)] ps with | some out => some (.agg ⟨out⟩, σ) | none => none) | none => none) := by
  unfold opBuild; rw [un79]; simp only []; rw [pl79, ze79]; cases partsA σ parts.toList <;> rfl
theorem un84 : PP.underlying 84 = some (Go.TypeDesc.struct #[{ name := "Kind", type := 3, offset := 0, embedded := false, tag := "", pkgPath := "", byteOffset := 0 }, { name := "N", type := 3, offset := 1, embedded := false, tag := "", pkgPath := "", byteOffset := 8 }, { name := "Line", type := 3, offset := 2, embedded := false, tag := "", pkgPath := "", byteOffset := 16 }, { name := "Col", type := 3, offset := 3, embedded := false, tag := "", pkgPath := "", byteOffset := 24 }, { name := "Text", type := 9, offset := 4, embedded := false, tag := "", pkgPath := "", byteOffset := 32 }]) := by kernel_rfl
theorem sz84 : szT PP 84 = some 5 := by kernel_rfl
theorem co84 : PP.cellsOf 84 = 5 := by kernel_rfl
theorem by84 : bytesT PP 84 = some 48 := by kernel_rfl
theorem ag84 : aggT PP 84 = some true := by kernel_rfl
theorem ze84 : zeroT PP 84 = some [(Go.Value.int Go.IntKind.i64 0), (Go.Value.int Go.IntKind.i64 0), (Go.Value.int Go.IntKind.i64 0), (Go.Value.int Go.IntKind.i64 0), (Go.Value.string { data := #[] })] := by kernel_rfl
theorem gt84 : PP.eqGuardType PP.depth 84 = false := by kernel_rfl
theorem st84 : PP.stoodInHeld 84 = false := by kernel_rfl
theorem of84x0 : offT PP 84 0 = some (0, 3, 1) := by kernel_rfl
theorem of84x1 : offT PP 84 1 = some (1, 3, 1) := by kernel_rfl
theorem of84x2 : offT PP 84 2 = some (2, 3, 1) := by kernel_rfl
theorem of84x3 : offT PP 84 3 = some (3, 3, 1) := by kernel_rfl
theorem of84x4 : offT PP 84 4 = some (4, 9, 1) := by kernel_rfl
theorem pl84 : placesT PP #[{ name := "Kind", type := 3, offset := 0, embedded := false, tag := "", pkgPath := "", byteOffset := 0 }, { name := "N", type := 3, offset := 1, embedded := false, tag := "", pkgPath := "", byteOffset := 8 }, { name := "Line", type := 3, offset := 2, embedded := false, tag := "", pkgPath := "", byteOffset := 16 }, { name := "Col", type := 3, offset := 3, embedded := false, tag := "", pkgPath := "", byteOffset := 24 }, { name := "Text", type := 9, offset := 4, embedded := false, tag := "", pkgPath := "", byteOffset := 32 }].toList = some [(0, 1), (1, 1), (2, 1), (3, 1), (4, 1)] := by kernel_rfl
theorem bu84 (σ : St) (parts : Array (Nat × Operand)) : opBuild PP σ 84 parts = (match partsA σ parts.toList with | some ps => (match fillL (fun i => ([(0, 1), (1, 1), (2, 1), (3, 1), (4, 1)] : List (Nat × Nat))[i]?) [(Go.Value.int Go.IntKind.i64 0), (Go.Value.int Go.IntKind.i64 0), (Go.Value.int Go.IntKind.i64 0), (Go.Value.int Go.IntKind.i64 0), (Go.Value.string { data := #[] })] ps with | some out => some (.agg ⟨out⟩, σ) | none => none) | none => none) := by
  unfold opBuild; rw [un84]; simp only []; rw [pl84, ze84]; cases partsA σ parts.toList <;> rfl
theorem un89 : PP.underlying 89 = some (Go.TypeDesc.struct #[{ name := "code", type := 3, offset := 0, embedded := false, tag := "", pkgPath := "parterre/fault", byteOffset := 0 }, { name := "spot", type := 27, offset := 1, embedded := false, tag := "", pkgPath := "parterre/fault", byteOffset := 8 }, { name := "inner", type := 35, offset := 3, embedded := false, tag := "", pkgPath := "parterre/fault", byteOffset := 24 }]) := by kernel_rfl
theorem sz89 : szT PP 89 = some 4 := by kernel_rfl
theorem co89 : PP.cellsOf 89 = 4 := by kernel_rfl
theorem by89 : bytesT PP 89 = some 40 := by kernel_rfl
theorem ag89 : aggT PP 89 = some true := by kernel_rfl
theorem ze89 : zeroT PP 89 = some [(Go.Value.int Go.IntKind.i64 0), (Go.Value.int Go.IntKind.i64 0), (Go.Value.int Go.IntKind.i64 0), Go.Value.nilIface] := by kernel_rfl
theorem of89x0 : offT PP 89 0 = some (0, 3, 1) := by kernel_rfl
theorem of89x1 : offT PP 89 1 = some (1, 27, 2) := by kernel_rfl
theorem of89x2 : offT PP 89 2 = some (3, 35, 1) := by kernel_rfl
theorem pl89 : placesT PP #[{ name := "code", type := 3, offset := 0, embedded := false, tag := "", pkgPath := "parterre/fault", byteOffset := 0 }, { name := "spot", type := 27, offset := 1, embedded := false, tag := "", pkgPath := "parterre/fault", byteOffset := 8 }, { name := "inner", type := 35, offset := 3, embedded := false, tag := "", pkgPath := "parterre/fault", byteOffset := 24 }].toList = some [(0, 1), (1, 2), (3, 1)] := by kernel_rfl
theorem bu89 (σ : St) (parts : Array (Nat × Operand)) : opBuild PP σ 89 parts = (match partsA σ parts.toList with | some ps => (match fillL (fun i => ([(0, 1), (1, 2), (3, 1)] : List (Nat × Nat))[i]?) [(Go.Value.int Go.IntKind.i64 0), (Go.Value.int Go.IntKind.i64 0), (Go.Value.int Go.IntKind.i64 0), Go.Value.nilIface] ps with | some out => some (.agg ⟨out⟩, σ) | none => none) | none => none) := by
  unfold opBuild; rw [un89]; simp only []; rw [pl89, ze89]; cases partsA σ parts.toList <;> rfl
theorem un90 : PP.underlying 90 = some (Go.TypeDesc.slice 58) := by kernel_rfl
theorem sz90 : szT PP 90 = some 1 := by kernel_rfl
theorem co90 : PP.cellsOf 90 = 1 := by kernel_rfl
theorem by90 : bytesT PP 90 = some 24 := by kernel_rfl
theorem ag90 : aggT PP 90 = some false := by kernel_rfl
theorem ze90 : zeroT PP 90 = some [(Go.Value.slice none 0 0)] := by kernel_rfl
theorem el90 : elemT PP 90 = some (58, 1) := by kernel_rfl
theorem un93 : PP.underlying 93 = some (Go.TypeDesc.struct #[{ name := "X", type := 3, offset := 0, embedded := false, tag := "", pkgPath := "", byteOffset := 0 }, { name := "Y", type := 3, offset := 1, embedded := false, tag := "", pkgPath := "", byteOffset := 8 }, { name := "R", type := 3, offset := 2, embedded := false, tag := "", pkgPath := "", byteOffset := 16 }]) := by kernel_rfl
theorem sz93 : szT PP 93 = some 3 := by kernel_rfl
theorem co93 : PP.cellsOf 93 = 3 := by kernel_rfl
theorem by93 : bytesT PP 93 = some 24 := by kernel_rfl
theorem ag93 : aggT PP 93 = some true := by kernel_rfl
theorem ze93 : zeroT PP 93 = some [(Go.Value.int Go.IntKind.i64 0), (Go.Value.int Go.IntKind.i64 0), (Go.Value.int Go.IntKind.i64 0)] := by kernel_rfl
theorem gt93 : PP.eqGuardType PP.depth 93 = false := by kernel_rfl
theorem st93 : PP.stoodInHeld 93 = false := by kernel_rfl
theorem of93x0 : offT PP 93 0 = some (0, 3, 1) := by kernel_rfl
theorem of93x1 : offT PP 93 1 = some (1, 3, 1) := by kernel_rfl
theorem of93x2 : offT PP 93 2 = some (2, 3, 1) := by kernel_rfl
theorem pl93 : placesT PP #[{ name := "X", type := 3, offset := 0, embedded := false, tag := "", pkgPath := "", byteOffset := 0 }, { name := "Y", type := 3, offset := 1, embedded := false, tag := "", pkgPath := "", byteOffset := 8 }, { name := "R", type := 3, offset := 2, embedded := false, tag := "", pkgPath := "", byteOffset := 16 }].toList = some [(0, 1), (1, 1), (2, 1)] := by kernel_rfl
theorem bu93 (σ : St) (parts : Array (Nat × Operand)) : opBuild PP σ 93 parts = (match partsA σ parts.toList with | some ps => (match fillL (fun i => ([(0, 1), (1, 1), (2, 1)] : List (Nat × Nat))[i]?) [(Go.Value.int Go.IntKind.i64 0), (Go.Value.int Go.IntKind.i64 0), (Go.Value.int Go.IntKind.i64 0)] ps with | some out => some (.agg ⟨out⟩, σ) | none => none) | none => none) := by
  unfold opBuild; rw [un93]; simp only []; rw [pl93, ze93]; cases partsA σ parts.toList <;> rfl
theorem un116 : PP.underlying 116 = some (Go.TypeDesc.struct #[{ name := "row", type := 3, offset := 0, embedded := false, tag := "", pkgPath := "parterre/parse", byteOffset := 0 }, { name := "x", type := 3, offset := 1, embedded := false, tag := "", pkgPath := "parterre/parse", byteOffset := 8 }]) := by kernel_rfl
theorem sz116 : szT PP 116 = some 2 := by kernel_rfl
theorem co116 : PP.cellsOf 116 = 2 := by kernel_rfl
theorem by116 : bytesT PP 116 = some 16 := by kernel_rfl
theorem ag116 : aggT PP 116 = some true := by kernel_rfl
theorem ze116 : zeroT PP 116 = some [(Go.Value.int Go.IntKind.i64 0), (Go.Value.int Go.IntKind.i64 0)] := by kernel_rfl
theorem gt116 : PP.eqGuardType PP.depth 116 = false := by kernel_rfl
theorem st116 : PP.stoodInHeld 116 = false := by kernel_rfl
theorem of116x0 : offT PP 116 0 = some (0, 3, 1) := by kernel_rfl
theorem of116x1 : offT PP 116 1 = some (1, 3, 1) := by kernel_rfl
theorem pl116 : placesT PP #[{ name := "row", type := 3, offset := 0, embedded := false, tag := "", pkgPath := "parterre/parse", byteOffset := 0 }, { name := "x", type := 3, offset := 1, embedded := false, tag := "", pkgPath := "parterre/parse", byteOffset := 8 }].toList = some [(0, 1), (1, 1)] := by kernel_rfl
theorem bu116 (σ : St) (parts : Array (Nat × Operand)) : opBuild PP σ 116 parts = (match partsA σ parts.toList with | some ps => (match fillL (fun i => ([(0, 1), (1, 1)] : List (Nat × Nat))[i]?) [(Go.Value.int Go.IntKind.i64 0), (Go.Value.int Go.IntKind.i64 0)] ps with | some out => some (.agg ⟨out⟩, σ) | none => none) | none => none) := by
  unfold opBuild; rw [un116]; simp only []; rw [pl116, ze116]; cases partsA σ parts.toList <;> rfl
theorem un118 : PP.underlying 118 = some (Go.TypeDesc.struct #[{ name := "place", type := 116, offset := 0, embedded := true, tag := "", pkgPath := "parterre/parse", byteOffset := 0 }, { name := "line", type := 27, offset := 2, embedded := false, tag := "", pkgPath := "parterre/parse", byteOffset := 16 }, { name := "row", type := 27, offset := 4, embedded := false, tag := "", pkgPath := "parterre/parse", byteOffset := 32 }]) := by kernel_rfl
theorem sz118 : szT PP 118 = some 6 := by kernel_rfl
theorem co118 : PP.cellsOf 118 = 6 := by kernel_rfl
theorem by118 : bytesT PP 118 = some 48 := by kernel_rfl
theorem ag118 : aggT PP 118 = some true := by kernel_rfl
theorem ze118 : zeroT PP 118 = some [(Go.Value.int Go.IntKind.i64 0), (Go.Value.int Go.IntKind.i64 0), (Go.Value.int Go.IntKind.i64 0), (Go.Value.int Go.IntKind.i64 0), (Go.Value.int Go.IntKind.i64 0), (Go.Value.int Go.IntKind.i64 0)] := by kernel_rfl
theorem of118x0 : offT PP 118 0 = some (0, 116, 2) := by kernel_rfl
theorem of118x1 : offT PP 118 1 = some (2, 27, 2) := by kernel_rfl
theorem of118x2 : offT PP 118 2 = some (4, 27, 2) := by kernel_rfl
theorem pl118 : placesT PP #[{ name := "place", type := 116, offset := 0, embedded := true, tag := "", pkgPath := "parterre/parse", byteOffset := 0 }, { name := "line", type := 27, offset := 2, embedded := false, tag := "", pkgPath := "parterre/parse", byteOffset := 16 }, { name := "row", type := 27, offset := 4, embedded := false, tag := "", pkgPath := "parterre/parse", byteOffset := 32 }].toList = some [(0, 2), (2, 2), (4, 2)] := by kernel_rfl
theorem bu118 (σ : St) (parts : Array (Nat × Operand)) : opBuild PP σ 118 parts = (match partsA σ parts.toList with | some ps => (match fillL (fun i => ([(0, 2), (2, 2), (4, 2)] : List (Nat × Nat))[i]?) [(Go.Value.int Go.IntKind.i64 0), (Go.Value.int Go.IntKind.i64 0), (Go.Value.int Go.IntKind.i64 0), (Go.Value.int Go.IntKind.i64 0), (Go.Value.int Go.IntKind.i64 0), (Go.Value.int Go.IntKind.i64 0)] ps with | some out => some (.agg ⟨out⟩, σ) | none => none) | none => none) := by
  unfold opBuild; rw [un118]; simp only []; rw [pl118, ze118]; cases partsA σ parts.toList <;> rfl
theorem un124 : PP.underlying 124 = some (Go.TypeDesc.func #[57, 57] #[3] false) := by kernel_rfl
theorem sz124 : szT PP 124 = some 1 := by kernel_rfl
theorem co124 : PP.cellsOf 124 = 1 := by kernel_rfl
theorem by124 : bytesT PP 124 = some 8 := by kernel_rfl
theorem ag124 : aggT PP 124 = some false := by kernel_rfl
theorem ze124 : zeroT PP 124 = some [Go.Value.nilFunc] := by kernel_rfl
theorem un126 : PP.underlying 126 = some (Go.TypeDesc.func #[57] #[4] false) := by kernel_rfl
theorem sz126 : szT PP 126 = some 1 := by kernel_rfl
theorem co126 : PP.cellsOf 126 = 1 := by kernel_rfl
theorem by126 : bytesT PP 126 = some 8 := by kernel_rfl
theorem ag126 : aggT PP 126 = some false := by kernel_rfl
theorem ze126 : zeroT PP 126 = some [Go.Value.nilFunc] := by kernel_rfl
theorem un136 : PP.underlying 136 = some (Go.TypeDesc.int Go.IntKind.u64) := by kernel_rfl
theorem sz136 : szT PP 136 = some 1 := by kernel_rfl
theorem co136 : PP.cellsOf 136 = 1 := by kernel_rfl
theorem by136 : bytesT PP 136 = some 8 := by kernel_rfl
theorem ag136 : aggT PP 136 = some false := by kernel_rfl
theorem ze136 : zeroT PP 136 = some [(Go.Value.int Go.IntKind.u64 0)] := by kernel_rfl
theorem un156 : PP.underlying 156 = some (Go.TypeDesc.slice 52) := by kernel_rfl
theorem sz156 : szT PP 156 = some 1 := by kernel_rfl
theorem co156 : PP.cellsOf 156 = 1 := by kernel_rfl
theorem by156 : bytesT PP 156 = some 24 := by kernel_rfl
theorem ag156 : aggT PP 156 = some false := by kernel_rfl
theorem ze156 : zeroT PP 156 = some [(Go.Value.slice none 0 0)] := by kernel_rfl
theorem el156 : elemT PP 156 = some (52, 1) := by kernel_rfl
theorem un167 : PP.underlying 167 = some (Go.TypeDesc.int Go.IntKind.i64) := by kernel_rfl
theorem sz167 : szT PP 167 = some 1 := by kernel_rfl
theorem co167 : PP.cellsOf 167 = 1 := by kernel_rfl
theorem by167 : bytesT PP 167 = some 8 := by kernel_rfl
theorem ag167 : aggT PP 167 = some false := by kernel_rfl
theorem ze167 : zeroT PP 167 = some [(Go.Value.int Go.IntKind.i64 0)] := by kernel_rfl
theorem un174 : PP.underlying 174 = some (Go.TypeDesc.int Go.IntKind.u32) := by kernel_rfl
theorem sz174 : szT PP 174 = some 1 := by kernel_rfl
theorem co174 : PP.cellsOf 174 = 1 := by kernel_rfl
theorem by174 : bytesT PP 174 = some 4 := by kernel_rfl
theorem ag174 : aggT PP 174 = some false := by kernel_rfl
theorem ze174 : zeroT PP 174 = some [(Go.Value.int Go.IntKind.u32 0)] := by kernel_rfl
attribute [irreducible] PP
attribute [simp] un3 sz3 co3 by3 ag3 ze3 un4 sz4 co4 by4 ag4 ze4 un5 sz5 co5 by5 ag5 ze5 un9 sz9 co9 by9 ag9 ze9 un20 sz20 co20 by20 ag20 ze20 un21 sz21 co21 by21 ag21 ze21 un22 sz22 co22 by22 ag22 ze22 el22 un25 sz25 co25 by25 ag25 ze25 el25 un27 sz27 co27 by27 ag27 ze27 gt27 st27 of27x0 of27x1 bu27 un30 sz30 co30 by30 ag30 ze30 el30 un31 sz31 co31 by31 ag31 ze31 el31 un33 sz33 co33 by33 ag33 ze33 of33x0 of33x1 of33x2 of33x3 of33x4 bu33 un35 sz35 co35 by35 ag35 ze35 un49 sz49 co49 by49 ag49 ze49 un51 sz51 co51 by51 ag51 ze51 el51 un52 sz52 co52 by52 ag52 ze52 un54 sz54 co54 by54 ag54 ze54 un57 sz57 co57 by57 ag57 ze57 gt57 st57 of57x0 of57x1 of57x2 of57x3 bu57 un58 sz58 co58 by58 ag58 ze58 un60 sz60 co60 by60 ag60 ze60 un62 sz62 co62 by62 ag62 ze62 el62 un67 sz67 co67 by67 ag67 ze67 un68 sz68 co68 by68 ag68 ze68 un69 sz69 co69 by69 ag69 ze69 el69 un71 sz71 co71 by71 ag71 ze71 of71x0 of71x1 of71x2 of71x3 of71x4 bu71 un76 sz76 co76 by76 ag76 ze76 un77 sz77 co77 by77 ag77 ze77 el77 un79 sz79 co79 by79 ag79 ze79 gt79 st79 of79x0 of79x1 of79x2 of79x3 of79x4 of79x5 of79x6 bu79 un84 sz84 co84 by84 ag84 ze84 gt84 st84 of84x0 of84x1 of84x2 of84x3 of84x4 bu84 un89 sz89 co89 by89 ag89 ze89 of89x0 of89x1 of89x2 bu89 un90 sz90 co90 by90 ag90 ze90 el90 un93 sz93 co93 by93 ag93 ze93 gt93 st93 of93x0 of93x1 of93x2 bu93 un116 sz116 co116 by116 ag116 ze116 gt116 st116 of116x0 of116x1 bu116 un118 sz118 co118 by118 ag118 ze118 of118x0 of118x1 of118x2 bu118 un124 sz124 co124 by124 ag124 ze124 un126 sz126 co126 by126 ag126 ze126 un136 sz136 co136 by136 ag136 ze136 un156 sz156 co156 by156 ag156 ze156 el156 un167 sz167 co167 by167 ag167 ze167 un174 sz174 co174 by174 ag174 ze174 keep3 cfg3 draw3 keep4 cfg4 draw4 keep5 cfg5 draw5 keep6 cfg6 draw6 keep7 cfg7 draw7 keep8 cfg8 draw8 keep9 cfg9 draw9 keep10 cfg10 draw10 keep11 cfg11 draw11 keep12 cfg12 draw12 keep13 cfg13 draw13 keep14 cfg14 draw14 keep15 cfg15 draw15 keep16 cfg16 draw16 keep17 cfg17 draw17 keep18 cfg18 draw18 keep19 cfg19 draw19 keep20 cfg20 draw20 keep22 cfg22 draw22 keep23 cfg23 draw23 keep24 cfg24 draw24 keep25 cfg25 draw25 keep26 cfg26 draw26 keep27 cfg27 draw27 keep28 cfg28 draw28 keep29 cfg29 draw29 keep30 cfg30 draw30 keep31 cfg31 draw31 keep32 cfg32 draw32 keep33 cfg33 draw33 keep34 cfg34 draw34 keep35 cfg35 draw35 keep36 cfg36 draw36 keep37 cfg37 draw37 keep38 cfg38 draw38 keep43 cfg43 draw43 keep44 cfg44 draw44 keep45 cfg45 draw45 keep46 cfg46 draw46 keep47 cfg47 draw47 keep48 cfg48 draw48 keep49 cfg49 draw49 keep50 cfg50 draw50 keep51 cfg51 draw51 keep52 cfg52 draw52 keep53 cfg53 draw53 keep54 cfg54 draw54 keep55 cfg55 draw55 keep56 cfg56 draw56 keep57 cfg57 draw57 keep58 cfg58 draw58 keep59 cfg59 draw59 keep60 cfg60 draw60 keep61 cfg61 draw61 keep62 cfg62 draw62 keep63 cfg63 draw63 keep64 cfg64 draw64 keep65 cfg65 draw65 keep66 cfg66 draw66 keep67 cfg67 draw67 keep68 cfg68 draw68 keep69 cfg69 draw69 keep70 cfg70 draw70 keep71 cfg71 draw71 keep75 cfg75 draw75 keep76 cfg76 draw76 keep77 cfg77 draw77 keep78 cfg78 draw78 keep79 cfg79 draw79 keep80 cfg80 draw80 keep81 cfg81 draw81 keep82 cfg82 draw82 keep83 cfg83 draw83 keep84 cfg84 draw84 keep85 cfg85 draw85 keep86 cfg86 draw86 keep87 cfg87 draw87 keep88 cfg88 draw88 keep89 cfg89 draw89 keep90 cfg90 draw90 keep91 cfg91 draw91 keep92 cfg92 draw92 keep93 cfg93 draw93 keep94 cfg94 draw94 keep95 cfg95 draw95 keep96 cfg96 draw96 keep97 cfg97 draw97 keep105 cfg105 draw105 keep106 cfg106 draw106 keep107 cfg107 draw107 keep116 cfg116 draw116 keep117 cfg117 draw117 keep118 cfg118 draw118 keep119 cfg119 draw119 keep120 cfg120 draw120 keep130 cfg130 draw130
end Go.Proofs.Yph
/- errors.As at an error of the program's own make: turned from the kit's worked example ToyasAs. -/
namespace Go.Proofs.Yph.F
open Go.RowKit Go.Extern.Stop Go.Stop Go.Extern

/-- errors.As(nil, target). -/
theorem as_nil (t : Value) (w : World) :
    Calls Tryz.prog 21 #[.nilIface, t] w fun e w' => e = .returned (.bool false) ∧ w' = w := by
  go_enter Tryz.func21, Tryz.ntmps21
  go_wp2
  go_ret
  exact ⟨rfl, rfl⟩

/-! ### CLOSED FACTS ON THE MODEL's ENTRIES FOR internal/reflectlite, at this program's types: 25: *p.E · 27: **p.E · 23: error · 45: reflectlite's rtype · 1: how many package-level variables the dump has -/
theorem Fa.valueOf27 (t : Addr) (w : World) : (ReflectliteValue.unpack (.iface 60 (.pointer (some t)))).run Tryz.prog w
    = .ok (.agg #[.pointer (some ⟨1, 60, none⟩), .pointer (some ⟨w.heap.size, 0, none⟩), .int .u64 150]) (w.alloc (.cells #[.pointer (some t)] 60)) := by kernel_rfl
theorem Fa.type27 (a : Addr) (w : World) : (ReflectliteValue.methodAny (ReflectliteValue.valueError "reflectlite.Value.Type" 0) (fun t _ _ _ => ReflectliteType.toType t) #[.agg #[.pointer (some ⟨1, 60, none⟩), .pointer (some a), .int .u64 150]]).run Tryz.prog w
    = .ok (.iface 138 (.agg #[.pointer (some ⟨1, 60, none⟩)])) w := by kernel_rfl
theorem Fa.methodKind (h : Value) (w : World) : (Go.method 322 138 (.agg #[h]) "Kind").run Tryz.prog w = .ok (147, h) w := by kernel_rfl
theorem Fa.kind27 (w : World) : ((ReflectliteType.abiMethod fun t => (fun a : Nat => Value.int IntKind.u8 (a : Int)) <$> Rtype.kind t) #[.pointer (some ⟨1, 60, none⟩)]).run Tryz.prog w = .ok (.int .u8 22) w := by kernel_rfl
theorem Fa.kind25 (w : World) : ((ReflectliteType.abiMethod fun t => (fun a : Nat => Value.int IntKind.u8 (a : Int)) <$> Rtype.kind t) #[.pointer (some ⟨1, 58, none⟩)]).run Tryz.prog w = .ok (.int .u8 22) w := by kernel_rfl

/-! ### THE ENTRIES THAT READ OR WRITE MEMORY: laws with a premise on the cell (after Derived/Lib/ReflectliteSlice.lean's manner: each unfolding a lemma of its own, by rfl) -/
theorem rlm (z : Sem Value) (f : TypeId → Addr → Nat → Nat → Sem Value) (v : Value) :
    ReflectliteValue.method z f #[v] = (do match ← ReflectliteValue.parts v with | none => z | some (t, a, fl) => f t a fl (fl % 32)) := rfl
theorem Fa.parts27 (a : Addr) (w : World) : (ReflectliteValue.parts (.agg #[.pointer (some ⟨1, 60, none⟩), .pointer (some a), .int .u64 150])).run Tryz.prog w = .ok (some (60, a, 150)) w := by kernel_rfl
/-- (Value).IsNil at the Value of a **p.E that is not nil. -/
theorem Fa.isNil27 (a p : Addr) (W : World) (ha : W.cell? a = some (.pointer (some p))) :
    (ReflectliteValue.method (ReflectliteValue.valueError "reflectlite.Value.IsNil" 0) ReflectliteValue.isNil #[.agg #[.pointer (some ⟨1, 60, none⟩), .pointer (some a), .int .u64 150]]).run Tryz.prog W = .ok (.bool false) W := by
  rw [rlm]
  simp only [Sem.run_bind, Fa.parts27, Result.andThen]
  simp [ReflectliteValue.isNil, loadVar, isAgg, underlying, Tryz.underlying60, ha, Result.andThen]

theorem Fa.methodElem (h : Value) (w : World) : (Go.method 322 138 (.agg #[h]) "Elem").run Tryz.prog w = .ok (158, .agg #[h]) w := by kernel_rfl
theorem Fa.methodImplements (h : Value) (w : World) : (Go.method 322 138 (.agg #[h]) "Implements").run Tryz.prog w = .ok (159, .agg #[h]) w := by kernel_rfl
theorem Fa.methodAssignableTo (h : Value) (w : World) : (Go.method 322 138 (.agg #[h]) "AssignableTo").run Tryz.prog w = .ok (156, .agg #[h]) w := by kernel_rfl
theorem Fa.elem27 (w : World) : (ReflectliteType.method ReflectliteType.elem #[.agg #[.pointer (some ⟨1, 60, none⟩)]]).run Tryz.prog w = .ok (.iface 138 (.agg #[.pointer (some ⟨1, 58, none⟩)])) w := by kernel_rfl
theorem Fa.implements25 (w : World) : (ReflectliteType.relation "Implements" ReflectliteType.implements_ #[.agg #[.pointer (some ⟨1, 58, none⟩)], .iface 138 (.agg #[.pointer (some ⟨1, 35, none⟩)])]).run Tryz.prog w = .ok (.bool true) w := by kernel_rfl
theorem Fa.typeOf25 (v : Value) (w : World) : (ReflectliteType.typeOf #[.iface 58 v]).run Tryz.prog w = .ok (.iface 138 (.agg #[.pointer (some ⟨1, 58, none⟩)])) w := by kernel_rfl
theorem Fa.assignable25 (w : World) : (ReflectliteType.relation "AssignableTo" ReflectliteType.assignableTo #[.agg #[.pointer (some ⟨1, 58, none⟩)], .iface 138 (.agg #[.pointer (some ⟨1, 58, none⟩)])]).run Tryz.prog w = .ok (.bool true) w := by kernel_rfl
theorem Fa.valueOf25 (e : Addr) (w : World) : (ReflectliteValue.unpack (.iface 58 (.pointer (some e)))).run Tryz.prog w
    = .ok (.agg #[.pointer (some ⟨1, 58, none⟩), .pointer (some ⟨w.heap.size, 0, none⟩), .int .u64 150]) (w.alloc (.cells #[.pointer (some e)] 58)) := by kernel_rfl

theorem Fa.elemOf27 (w : World) : (Rtype.elem? 60).run Tryz.prog w = .ok (some 58) w := by kernel_rfl
theorem Fa.mk25 (p : Addr) (w : World) : (ReflectliteValue.mk 58 p ReflectliteValue.flagAddr).run Tryz.prog w = .ok (.agg #[.pointer (some ⟨1, 58, none⟩), .pointer (some p), .int .u64 406]) w := by kernel_rfl
/-- (Value).Elem at the Value of a **p.E that is not nil: the Value of the *p.E variable that it points to, addressable. -/
theorem Fa.elemV27 (a p : Addr) (W : World) (ha : W.cell? a = some (.pointer (some p))) :
    (ReflectliteValue.method (ReflectliteValue.valueError "reflectlite.Value.Elem" 0) ReflectliteValue.elem #[.agg #[.pointer (some ⟨1, 60, none⟩), .pointer (some a), .int .u64 150]]).run Tryz.prog W
      = .ok (.agg #[.pointer (some ⟨1, 58, none⟩), .pointer (some p), .int .u64 406]) W := by
  rw [rlm]
  simp only [Sem.run_bind, Fa.parts27, Result.andThen]
  simp [ReflectliteValue.elem, loadVar, isAgg, underlying, Tryz.underlying60, ha, Result.andThen, Fa.elemOf27, Fa.mk25]
theorem rls (v x : Value) : ReflectliteValue.set #[v, x] = (do
    let (some (dst, a, fl), some (src, b, _)) := (← ReflectliteValue.parts v, ← ReflectliteValue.parts x)
      | unsupported (.noEntry "extern/(internal/reflectlite.Value).Set.zeroValue")
    if fl / ReflectliteValue.flagAddr % 2 == 0 then unsupported (.noEntry "extern/(internal/reflectlite.Value).Set.unaddressable")
    let val ← loadVar src b
    if ← Rtype.directlyAssignable dst src then storeVar dst a val
    else if ← Rtype.implements dst src then
      if (← Rtype.kind src) == 20 then
        match val with
        | .nilIface => unsupported (.noEntry "extern/reflectlite: a nil value of one interface type handed on as a value of another")
        | _ => storeVar dst a val
      else storeVar dst a (.iface src val)
    else panicString ("reflectlite.Set: value of type " ++ (← Rtype.spelt src) ++ " is not assignable to type " ++ (← Rtype.spelt dst))
    pure (.tuple #[])) := rfl
theorem Fa.parts25a (a : Addr) (w : World) : (ReflectliteValue.parts (.agg #[.pointer (some ⟨1, 58, none⟩), .pointer (some a), .int .u64 406])).run Tryz.prog w = .ok (some (58, a, 406)) w := by kernel_rfl
theorem Fa.parts25 (a : Addr) (w : World) : (ReflectliteValue.parts (.agg #[.pointer (some ⟨1, 58, none⟩), .pointer (some a), .int .u64 150])).run Tryz.prog w = .ok (some (58, a, 150)) w := by kernel_rfl
theorem Fa.direct25 (w : World) : (Rtype.directlyAssignable 58 58).run Tryz.prog w = .ok true w := by kernel_rfl
theorem Fa.size25 (w : World) : (sizeOf 58).run Tryz.prog w = .ok 1 w := by kernel_rfl
/-- (Value).Set: the *p.E variable at 'ta' gets what the Value's own variable 'b' holds. -/
theorem Fa.set25 (ta b e : Addr) (old : Value) (W : World) (hb : W.cell? b = some (.pointer (some e))) (ht : W.cell? ta = some old) (hf : W.frozen? ta = false) :
    (ReflectliteValue.set #[.agg #[.pointer (some ⟨1, 58, none⟩), .pointer (some ta), .int .u64 406], .agg #[.pointer (some ⟨1, 58, none⟩), .pointer (some b), .int .u64 150]]).run Tryz.prog W
      = .ok (.tuple #[]) (W.setCell ta (.pointer (some e))) := by
  rw [rls]
  simp only [Sem.run_bind, Fa.parts25a, Fa.parts25, Result.andThen]
  simp [ReflectliteValue.flagAddr, loadVar, isAgg, underlying, Tryz.underlying58, hb, Result.andThen, Fa.direct25, storeVar, Value.cells, storeCells, Addr.add]
  rw [run_store Tryz.prog W ta _ _ (by rfl)]
  simp [ht, hf]

set_option maxHeartbeats 4000000 in
theorem as_hit (e t : Addr) (old : Value) (w : World) (hg : w.cell? ⟨0, 0, none⟩ = some (.iface 138 (.agg #[.pointer (some ⟨1, 35, none⟩)]))) (ht0 : w.cell? t = some old) (hf0 : w.frozen? t = false) :
    Calls Tryz.prog 21 #[.iface 58 (.pointer (some e)), .iface 60 (.pointer (some t))] w fun ev w' => ev = .returned (.bool true) ∧ w' = ((((w.alloc (.cells #[.pointer (some t)] 60)).alloc (.cells #[.pointer (some ⟨1, 60, none⟩), .pointer (some ⟨w.heap.size, 0, none⟩), .int .u64 150] 100)).alloc (.cells #[.pointer (some ⟨1, 60, none⟩), .pointer (some ⟨w.heap.size, 0, none⟩), .int .u64 150] 100)).alloc (.cells #[.pointer (some e)] 58)).setCell t (.pointer (some e)) := by
  have h6 := @run_callFunc_extern Tryz.prog 39 _ (fun args => ReflectliteValue.unpack (args.getD 0 (.tuple #[]))) Tryz.func39 (by kernel_rfl) (by kernel_rfl) (by kernel_rfl) (by kernel_rfl)
  have h7 := @run_callFunc_extern Tryz.prog 40 _ (ReflectliteValue.methodAny (ReflectliteValue.valueError "reflectlite.Value.Type" 0) (fun t _ _ _ => ReflectliteType.toType t)) Tryz.func40 (by kernel_rfl) (by kernel_rfl) (by kernel_rfl) (by kernel_rfl)
  have h8 := @run_callFunc_extern Tryz.prog 41 _ (ReflectliteValue.method (ReflectliteValue.valueError "reflectlite.Value.IsNil" 0) ReflectliteValue.isNil) Tryz.func41 (by kernel_rfl) (by kernel_rfl) (by kernel_rfl) (by kernel_rfl)
  have h27 := @run_callFunc_extern Tryz.prog 147 _ (ReflectliteType.abiMethod fun t => do pure (.int .u8 (← Rtype.kind t))) Tryz.func147 (by kernel_rfl) (by kernel_rfl) (by kernel_rfl) (by kernel_rfl)
  have h37 := @run_callFunc_extern Tryz.prog 158 _ (ReflectliteType.method ReflectliteType.elem) Tryz.func158 (by kernel_rfl) (by kernel_rfl) (by kernel_rfl) (by kernel_rfl)
  have h38 := @run_callFunc_extern Tryz.prog 159 _ (ReflectliteType.relation "Implements" ReflectliteType.implements_) Tryz.func159 (by kernel_rfl) (by kernel_rfl) (by kernel_rfl) (by kernel_rfl)
  have h10 := @run_callFunc_extern Tryz.prog 72 _ ReflectliteType.typeOf Tryz.func72 (by kernel_rfl) (by kernel_rfl) (by kernel_rfl) (by kernel_rfl)
  have h35 := @run_callFunc_extern Tryz.prog 156 _ (ReflectliteType.relation "AssignableTo" ReflectliteType.assignableTo) Tryz.func156 (by kernel_rfl) (by kernel_rfl) (by kernel_rfl) (by kernel_rfl)
  have h11 := @run_callFunc_extern Tryz.prog 73 _ (ReflectliteValue.method (ReflectliteValue.valueError "reflectlite.Value.Elem" 0) ReflectliteValue.elem) Tryz.func73 (by kernel_rfl) (by kernel_rfl) (by kernel_rfl) (by kernel_rfl)
  have h12 := @run_callFunc_extern Tryz.prog 74 _ ReflectliteValue.set Tryz.func74 (by kernel_rfl) (by kernel_rfl) (by kernel_rfl) (by kernel_rfl)
  have tO := Fa.typeOf25
  have mA := Fa.methodAssignableTo
  have a25 := Fa.assignable25
  have v25 := Fa.valueOf25
  have f6 := Fa.valueOf27
  have f7 := Fa.type27
  have mK := Fa.methodKind
  have mE := Fa.methodElem
  have mI := Fa.methodImplements
  have k27 := Fa.kind27
  have k25 := Fa.kind25
  have e27 := Fa.elem27
  have i25 := Fa.implements25
  have n8 := Fa.isNil27 ⟨w.heap.size, 0, none⟩ t ((w.alloc (.cells #[.pointer (some t)] 60)).alloc (.cells #[.pointer (some ⟨1, 60, none⟩), .pointer (some ⟨w.heap.size, 0, none⟩), .int .u64 150] 100)) (by simp)
  have hlt : 0 < w.heap.size := by
    rcases Nat.eq_zero_or_pos w.heap.size with h0 | h
    · simp [World.cell?, h0] at hg
    · exact h
  have hg2 : ((w.alloc (.cells #[.pointer (some t)] 60)).alloc (.cells #[.pointer (some ⟨1, 60, none⟩), .pointer (some ⟨w.heap.size, 0, none⟩), .int .u64 150] 100)).cell? ⟨0, 0, none⟩ = some (.iface 138 (.agg #[.pointer (some ⟨1, 35, none⟩)])) := by
    rw [World.cell?_alloc_lt _ _ ⟨0, 0, none⟩ (by simp), World.cell?_alloc_lt _ _ ⟨0, 0, none⟩ hlt]; exact hg
  have htl : t.block < w.heap.size := by
    rcases Nat.lt_or_ge t.block w.heap.size with h | h
    · exact h
    · simp [World.cell?, Array.getElem?_eq_none h] at ht0
  have el := Fa.elemV27 ⟨w.heap.size, 0, none⟩ t (((w.alloc (.cells #[.pointer (some t)] 60)).alloc (.cells #[.pointer (some ⟨1, 60, none⟩), .pointer (some ⟨w.heap.size, 0, none⟩), .int .u64 150] 100)).alloc (.cells #[.pointer (some ⟨1, 60, none⟩), .pointer (some ⟨w.heap.size, 0, none⟩), .int .u64 150] 100)) (by rw [World.cell?_alloc_lt _ _ ⟨w.heap.size, 0, none⟩ (by simp; omega)]; simp)
  have st := Fa.set25 t ⟨w.heap.size + 1 + 1 + 1, 0, none⟩ e old ((((w.alloc (.cells #[.pointer (some t)] 60)).alloc (.cells #[.pointer (some ⟨1, 60, none⟩), .pointer (some ⟨w.heap.size, 0, none⟩), .int .u64 150] 100)).alloc (.cells #[.pointer (some ⟨1, 60, none⟩), .pointer (some ⟨w.heap.size, 0, none⟩), .int .u64 150] 100)).alloc (.cells #[.pointer (some e)] 58))
    (by rw [World.cell?_alloc_at _ _ _ _ (by simp)]; rfl)
    (by rw [World.cell?_alloc_lt _ _ t (by simp; omega), World.cell?_alloc_lt _ _ t (by simp; omega), World.cell?_alloc_lt _ _ t (by simp; omega), World.cell?_alloc_lt _ _ t htl]; exact ht0)
    (by rw [World.frozen?_alloc_old _ _ t (by simp; omega), World.frozen?_alloc_old _ _ t (by simp; omega), World.frozen?_alloc_old _ _ t (by simp; omega), World.frozen?_alloc_old _ _ t (Nat.ne_of_lt htl)]; exact hf0)
  go_enter Tryz.func21, Tryz.ntmps21
  go_wp2
  refine wp_loop_rounds 1 ?_
  rw [rounds_succ]
  go_wp2
  go_ret
  exact ⟨rfl, rfl⟩
end Go.Proofs.Yph.F
/- The abstract machine, part W: to and from the kit's contracts of the library. -/
namespace Go.Am
open Go Go.RowKit
theorem array_prefix {α : Type} {a b : Array α} (hs : a.size ≤ b.size) (h : ∀ i, i < a.size → b[i]? = a[i]?) : b = a ++ b.extract a.size b.size := by
  apply Array.ext'
  rw [Array.toList_append, Array.toList_extract]
  apply List.ext_getElem?
  intro i
  by_cases hi : i < a.size
  · rw [List.getElem?_append_left (by simpa using hi)]
    have := h i hi
    simpa using this
  · rw [List.getElem?_append_right (by simpa using Nat.le_of_not_lt hi)]
    simp only [List.extract, Array.length_toList, List.getElem?_take, List.getElem?_drop]
    rw [show a.size + (i - a.size) = i by omega]
    split
    · rfl
    · rw [List.getElem?_eq_none]; simp; omega
/-- a call without memory of its own: what is there stays, more may be laid behind it -/
theorem ACalls.grown {P : Program} {f : FuncId} {args : List Value} {post : Value → Heap → Prop} {r : Value} (H : ACalls P f args h0 post) (hp : ∀ v h', post v h' → v = r) (hr : flat2 r = true) (ha : ∀ v ∈ args, flat2 v = true) (W : World) :
    Calls P f ⟨args⟩ W fun e w' => e = .returned r ∧ ∃ q os', w' = Sort.grow (W.drewN q) os' := by
  refine (H.2 rho0 W args (fun _ => rfl) (mrel0 P W h0 rfl) ⟨rfl, fun i v hi => ⟨v, hi, .of_flat2 (ha v (List.mem_of_getElem? hi))⟩⟩).mono ?_
  rintro e w' ⟨v, v', h', ρ', rfl, q, _, _, T, hv⟩
  obtain rfl := hp _ _ q
  have hv := hv.flat2 hr
  subst hv
  refine ⟨rfl, w'.drawn - W.drawn, w'.heap.extract W.heap.size w'.heap.size, ?_⟩
  have hh := array_prefix T.size (fun i hi => T.frame i hi (fun ⟨b, pl, q, _⟩ => by simp [rho0] at q))
  obtain ⟨heap, tape, drawn, os, output⟩ := w'
  have h1 := T.os; have h2 := T.tape; have h3 := T.output; have h4 := T.drawn rfl
  simp only at h1 h2 h3 h4 hh
  subst h1; subst h2; subst h3
  simp only [Sort.grow, World.drewN]
  congr 1
  omega
/-- a row of one's own, turned by a call of the library -/
theorem turned {P : Program} {ρ : Rho} {h : Heap} {w w' : World} {b : Nat} {pl : Pl} {e : TypeId} {cs cs' : List Value} (R : MRel P ρ ⟨Boxes.nil, h⟩ w) (hk : ρ (false, b) = some pl) (hrow : h.f b = .row true e cs) (hl : cs'.length = cs.length)
    (os : w'.os = w.os) (tape : w'.tape = w.tape) (output : w'.output = w.output) (drawn : w.drawn ≤ w'.drawn) (size : w.heap.size ≤ w'.heap.size)
    (hother : ∀ B, B < w.heap.size → B ≠ pl.B → w'.heap[B]? = w.heap[B]?)
    (hcells : ∀ C e' fz, w.heap[pl.B]? = some (.cells C e' fz) → ∃ C', w'.heap[pl.B]? = some (.cells C' e' fz) ∧ C'.size = C.size ∧ ∀ (i : Nat) (v : Value), cs'[i]? = some v → ∃ v', C'[pl.o + i]? = some v' ∧ VR ρ v v') :
    MRel P ρ ⟨Boxes.nil, h.set b (.row true e cs')⟩ w' ∧ Tr ρ h w ρ (h.set b (.row true e cs')) w' := by
  have hbn := R.dom b pl hk
  have hbound := R.bound _ _ hk
  have hf : ∀ b', b' ≠ b → (h.set b (.row true e cs')).f b' = h.f b' := fun b' hb' => by rw [f_set, if_neg hb']
  have hfb : (h.set b (.row true e cs')).f b = .row true e cs' := by rw [f_set, if_pos rfl]
  have hwr : Mem.wr ⟨Boxes.nil, h⟩ (false, b) := by simp [Mem.wr, Heap.wr, hrow]
  have hlive : ∀ k, Mem.live ⟨Boxes.nil, h.set b (.row true e cs')⟩ k → Mem.live ⟨Boxes.nil, h⟩ k := by
    rintro ⟨t, b'⟩ hl
    cases t with
    | true => exact hl
    | false =>
      by_cases hb' : b' = b
      · subst hb'; simp [Mem.live, hrow]
      · simp only [Mem.live, hf b' hb'] at hl; exact hl
  have hwr' : ∀ k, Mem.wr ⟨Boxes.nil, h.set b (.row true e cs')⟩ k → Mem.wr ⟨Boxes.nil, h⟩ k := by
    rintro ⟨t, b'⟩ hl
    cases t with
    | true => exact hl
    | false =>
      by_cases hb' : b' = b
      · subst hb'; exact hwr
      · simp only [Mem.wr, Heap.wr, hf b' hb'] at hl; exact hl
  have hsame : ∀ k pl', k ≠ (false, b) → ρ k = some pl' → Mem.live ⟨Boxes.nil, h⟩ k → w'.heap[pl'.B]? = w.heap[pl'.B]? := fun k pl' hne q hlv =>
    hother _ (R.bound _ _ q) (fun e => R.sep (false, b) k pl pl' (Ne.symm hne) hk q hwr hlv e.symm)
  refine ⟨⟨fun k pl' q => Nat.lt_of_lt_of_le (R.bound k pl' q) size, fun b' pl' q => by rw [n_set]; exact R.dom b' pl' q, ?_, ?_, fun k k' p p' hne q q' hw hlv => R.sep k k' p p' hne q q' (hwr' k hw) (hlive k' hlv), fun i hi => R.glob i hi⟩, ?_⟩
  · intro k pl' wr e1 cs1 q hr
    by_cases hkb : k = (false, b)
    · subst hkb
      rw [hk] at q
      obtain rfl := Option.some.inj q
      simp only [Mem.row?, hfb, Option.some.injEq, Prod.mk.injEq] at hr
      obtain ⟨rfl, rfl, rfl⟩ := hr
      obtain ⟨C, e', fz, c1, c2, c3, c4, c5, c6⟩ := R.row (false, b) pl true e cs hk (by simp [Mem.row?, hrow])
      obtain ⟨C', d1, d2, d3⟩ := hcells C e' fz c1
      exact ⟨C', e', fz, d1, c2, by omega, by omega, c5, d3⟩
    · have hr' : Mem.row? ⟨Boxes.nil, h⟩ k = some (wr, e1, cs1) := by
        obtain ⟨t, b'⟩ := k
        cases t with
        | true => exact hr
        | false =>
          have : b' ≠ b := fun e => hkb (by rw [e])
          simp only [Mem.row?, hf b' this] at hr; exact hr
      obtain ⟨C, e', fz, c1, c2⟩ := R.row k pl' wr e1 cs1 q hr'
      have hlv : Mem.live ⟨Boxes.nil, h⟩ k := by
        obtain ⟨t, b'⟩ := k
        cases t with
        | true => simp [Mem.row?, Boxes.nil, Boxes.look] at hr'
        | false =>
          simp only [Mem.row?] at hr'
          simp only [Mem.live]
          split at hr'
          · rename_i hx; simp [hx]
          · simp at hr'
      exact ⟨C, e', fz, by rw [hsame k pl' hkb q hlv]; exact c1, c2⟩
  · intro b' pl' o q ho
    by_cases hb' : b' = b
    · subst hb'; rw [hfb] at ho; cases ho
    · rw [hf b' hb'] at ho
      obtain ⟨c1, c2⟩ := R.obj b' pl' o q ho
      exact ⟨by rw [hsame (false, b') pl' (by simpa using hb') q (by simp [Mem.live, ho])]; exact c1, c2⟩
  · refine ⟨os, tape, output, fun _ => drawn, size, fun _ _ q => q, Nat.le_refl _, rfl, fun b' pl' q q' => (by rw [q] at q'; cases q'), fun b' hb' hd => ?_, fun b' hb' hw => ?_, fun B hB hO => hother B hB (fun e => hO ⟨b, pl, hk, e.symm, by simp [Heap.wr, hrow]⟩)⟩
    · by_cases e : b' = b
      · subst e; rw [hrow]; simp
      · rwa [hf b' e] at hd
    · by_cases e : b' = b
      · subst e; simp [Heap.wr, hrow]
      · simp only [Heap.wr, hf b' e] at hw; exact hw
end Go.Am

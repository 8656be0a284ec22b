/- Facts of the functions and types, printed by gen.py. -/
import Derived.Test.YtmmbndbpjanfhaaDoorProg
import Derived.Test.YtmmbndbpjanfhaaDoorAmX
import Derived.KernelRfl
set_option linter.unusedVariables false
set_option linter.unusedSimpArgs false
set_option linter.unusedSectionVars false
namespace Go.Proofs.Flt
open Go Go.Am
set_option maxRecDepth 20000
noncomputable def PP : Program := Go.Proofs.Tryd.prog
theorem mix : PP.follows .mixedOrders = true := by kernel_rfl
theorem gsize : True := trivial
/-! ### 3 parterre/parterrelaw1.FaultNew -/
noncomputable def body3 : Code := match Go.Proofs.Tryd.f3.body with | some c => c | none => .skip
theorem fn3 : PP.funcs[3]? = some Go.Proofs.Tryd.f3 := Go.Proofs.Tryd.func3
theorem bodyEq3 : Go.Proofs.Tryd.f3.body = some body3 := rfl
def keep3 (i : Nat) : List Nat := (if i < 5 then (if i < 2 then (if i < 1 then [0, 1, 2] else [0, 1, 2, 7]) else (if i < 3 then [0, 1, 2, 7, 16] else (if i < 4 then [6] else [0, 1, 2, 7, 39]))) else (if i < 8 then (if i < 6 then [6] else (if i < 7 then [0, 7, 8, 9] else [0, 7, 8, 9, 10])) else (if i < 9 then [0, 7, 8, 9, 10, 52] else (if i < 10 then [0, 7, 8, 9, 10] else [6]))))
def draw3 (i : Nat) : DrawInfo := ⟨[], [], [], []⟩
def cfg3 : Cfg := ⟨[], keep3, draw3⟩
theorem ok3 : codeOK PP cfg3 Go.Proofs.Tryd.f3.ntmps body3 = true := by kernel_rfl
/-! ### 4 parterre/parterrelaw1.FaultWraps -/
noncomputable def body4 : Code := match Go.Proofs.Tryd.f4.body with | some c => c | none => .skip
theorem fn4 : PP.funcs[4]? = some Go.Proofs.Tryd.f4 := Go.Proofs.Tryd.func4
theorem bodyEq4 : Go.Proofs.Tryd.f4.body = some body4 := rfl
def keep4 (i : Nat) : List Nat := (if i < 11 then (if i < 5 then (if i < 2 then (if i < 1 then [0, 1, 2, 3] else [1, 2, 3, 9]) else (if i < 3 then [1, 2, 3, 9, 10] else (if i < 4 then [1, 2, 3, 9, 10, 32] else [8]))) else (if i < 8 then (if i < 6 then [1, 2, 3, 9, 10, 11, 12] else (if i < 7 then [1, 2, 3, 9, 10, 11, 12, 13] else [1, 2, 3, 9, 10, 11, 12, 13, 14])) else (if i < 9 then [1, 2, 3, 9, 10, 11, 12, 13, 14, 44] else (if i < 10 then [1, 2, 3, 9, 10, 11, 12, 13, 14] else [1, 2, 3, 9, 10, 11, 12, 13, 14, 15])))) else (if i < 16 then (if i < 13 then (if i < 12 then [1, 2, 3, 9, 10, 11, 12, 13, 14, 15, 57] else [1, 2, 3, 9, 10, 11, 12, 13, 14, 67]) else (if i < 14 then [8] else (if i < 15 then [1, 2, 3, 9, 10, 11, 12, 13, 14] else [1, 2, 3, 9, 10, 11, 12, 13, 14]))) else (if i < 19 then (if i < 17 then [1, 2, 3, 9, 10, 11, 12, 13, 16] else (if i < 18 then [1, 2, 3, 9, 10, 11, 12, 13, 16, 84] else [1, 2, 3, 9, 10, 11, 12, 13, 16])) else (if i < 20 then [1, 2, 3, 9, 10, 11, 12, 13, 16, 98] else (if i < 21 then [8] else [8])))))
def draw4 (i : Nat) : DrawInfo := if i = 14 then ⟨[], [0, 1, 2, 3, 4, 5, 6, 7, 8, 9], [[], [], [], [1, 2], [1, 2, 3], [], [5], [0], [0, 1, 2, 3, 4, 7], [0, 1, 2, 3, 4, 5, 6, 7, 8]], []⟩ else if i = 19 then ⟨[], [0, 1, 2, 3, 4, 6, 7, 8, 9, 10, 5, 11], [[], [], [], [1, 2], [1, 2, 3], [0, 1, 2, 3, 4], [], [], [6, 7], [6, 7, 8], [6, 7, 8, 9], [0, 1, 2, 3, 4, 5, 6, 7, 8, 9, 10]], []⟩ else ⟨[], [], [], []⟩
def cfg4 : Cfg := ⟨[], keep4, draw4⟩
theorem ok4 : codeOK PP cfg4 Go.Proofs.Tryd.f4.ntmps body4 = true := by kernel_rfl
/-! ### 5 parterre/parterrelaw1.FaultNone -/
noncomputable def body5 : Code := match Go.Proofs.Tryd.f5.body with | some c => c | none => .skip
theorem fn5 : PP.funcs[5]? = some Go.Proofs.Tryd.f5 := Go.Proofs.Tryd.func5
theorem bodyEq5 : Go.Proofs.Tryd.f5.body = some body5 := rfl
def keep5 (i : Nat) : List Nat := (if i < 4 then (if i < 2 then (if i < 1 then [0, 1] else [0, 1, 5]) else (if i < 3 then [0, 1, 5, 11] else [4])) else (if i < 6 then (if i < 5 then [0, 1, 5, 6] else [0, 1, 5, 6, 7]) else (if i < 7 then [0, 5, 6, 7, 21] else (if i < 8 then [0, 5, 6, 7] else [4]))))
def draw5 (i : Nat) : DrawInfo := ⟨[], [], [], []⟩
def cfg5 : Cfg := ⟨[], keep5, draw5⟩
theorem ok5 : codeOK PP cfg5 Go.Proofs.Tryd.f5.ntmps body5 = true := by kernel_rfl
/-! ### 6 parterre/parterrelaw1.FaultDepth -/
noncomputable def body6 : Code := match Go.Proofs.Tryd.f6.body with | some c => c | none => .skip
theorem fn6 : PP.funcs[6]? = some Go.Proofs.Tryd.f6 := Go.Proofs.Tryd.func6
theorem bodyEq6 : Go.Proofs.Tryd.f6.body = some body6 := rfl
def keep6 (i : Nat) : List Nat := (if i < 6 then (if i < 3 then (if i < 1 then [0, 1, 2, 3] else (if i < 2 then [2, 3, 9, 10] else [9, 10, 11])) else (if i < 4 then [9, 10, 11, 36] else (if i < 5 then [8] else [9, 10, 11, 12]))) else (if i < 9 then (if i < 7 then [9, 10, 11, 12, 13] else (if i < 8 then [9, 10, 11, 12, 13, 41] else [9, 10, 11, 12, 13])) else (if i < 11 then (if i < 10 then [9, 10, 11, 12, 13] else [9, 10, 11, 12, 13, 83]) else (if i < 12 then [8] else [8]))))
def draw6 (i : Nat) : DrawInfo := if i = 10 then ⟨[], [0, 2, 3, 1, 4, 5, 6, 8, 9, 10, 11, 7, 12, 13, 14, 15, 17, 16, 18, 19, 20, 21, 22, 23, 24, 25, 26, 27, 28, 29, 30, 31, 32, 33], [[], [0], [], [2], [0, 1, 2, 3], [0, 1, 2, 3, 4], [0, 1, 2, 3, 4, 5], [0, 1, 2, 3, 4, 5, 6], [0, 1, 2, 3, 4, 5], [0, 1, 2, 3, 4, 5], [0, 1, 2, 3, 4, 5, 8, 9], [0, 1, 2, 3, 4, 5, 8, 9, 10], [0, 1, 2, 3, 4, 5, 6, 7, 8, 9, 10, 11], [0, 1, 2, 3, 4, 5, 6, 7, 8, 9, 10, 11, 12], [0, 1, 2, 3, 4, 5, 6, 7, 8, 9, 10, 11, 12, 13], [0, 1, 2, 3, 4, 5, 6, 7, 8, 9, 10, 11, 12, 13, 14], [0, 1, 2, 3, 4, 5, 6, 7, 8, 9, 10, 11, 12, 13, 14, 15], [0, 1, 2, 3, 4, 5, 6, 7, 8, 9, 10, 11, 12, 13, 14], [0, 1, 2, 3, 4, 5, 6, 7, 8, 9, 10, 11, 12, 13, 14, 15, 16, 17], [0, 1, 2, 3, 4, 5, 6, 7, 8, 9, 10, 11, 12, 13, 14, 15, 16, 17, 18], [0, 1, 2, 3, 4, 5, 6, 7, 8, 9, 10, 11, 12, 13, 14, 15, 16, 17, 18, 19], [0, 1, 2, 3, 4, 5, 6, 7, 8, 9, 10, 11, 12, 13, 14, 15, 16, 17, 18, 19, 20], [0, 1, 2, 3, 4, 5, 6, 7, 8, 9, 10, 11, 12, 13, 14, 15, 16, 17, 18, 19, 20], [0, 1, 2, 3, 4, 5, 6, 7, 8, 9, 10, 11, 12, 13, 14, 15, 16, 17, 18, 19, 20, 21, 22], [0, 1, 2, 3, 4, 5, 6, 7, 8, 9, 10, 11, 12, 13, 14, 15, 16, 17, 18, 19, 20, 21, 22, 23], [0, 1, 2, 3, 4, 5, 6, 7, 8, 9, 10, 11, 12, 13, 14, 15, 16, 17, 18, 19, 20, 21, 22, 23, 24], [0, 1, 2, 3, 4, 5, 6, 7, 8, 9, 10, 11, 12, 13, 14, 15, 16, 17, 18, 19, 20, 21, 22, 23, 24, 25], [0, 1, 2, 3, 4, 5, 6, 7, 8, 9, 10, 11, 12, 13, 14, 15, 16, 17, 18, 19, 20, 21, 22, 23, 24, 25, 26], [0, 1, 2, 3, 4, 5, 6, 7, 8, 9, 10, 11, 12, 13, 14, 15, 16, 17, 18, 19, 20, 21, 22, 23, 24, 25, 26], [0, 1, 2, 3, 4, 5, 6, 7, 8, 9, 10, 11, 12, 13, 14, 15, 16, 17, 18, 19, 20, 21, 22, 23, 24, 25, 26], [0, 1, 2, 3, 4, 5, 6, 7, 8, 9, 10, 11, 12, 13, 14, 15, 16, 17, 18, 19, 20, 21, 22, 23, 24, 25, 26, 28, 29], [0, 1, 2, 3, 4, 5, 6, 7, 8, 9, 10, 11, 12, 13, 14, 15, 16, 17, 18, 19, 20, 21, 22, 23, 24, 25, 26, 28, 29, 30], [0, 1, 2, 3, 4, 5, 6, 7, 8, 9, 10, 11, 12, 13, 14, 15, 16, 17, 18, 19, 20, 21, 22, 23, 24, 25, 26, 27, 28, 29, 30, 31], [0, 1, 2, 3, 4, 5, 6, 7, 8, 9, 10, 11, 12, 13, 14, 15, 16, 17, 18, 19, 20, 21, 22, 23, 24, 25, 26, 27, 28, 29, 30, 31, 32]], []⟩ else ⟨[], [], [], []⟩
def cfg6 : Cfg := ⟨[12], keep6, draw6⟩
theorem ok6 : codeOK PP cfg6 Go.Proofs.Tryd.f6.ntmps body6 = true := by kernel_rfl
/-! ### 7 parterre/fault.New -/
noncomputable def body7 : Code := match Go.Proofs.Tryd.f7.body with | some c => c | none => .skip
theorem fn7 : PP.funcs[7]? = some Go.Proofs.Tryd.f7 := Go.Proofs.Tryd.func7
theorem bodyEq7 : Go.Proofs.Tryd.f7.body = some body7 := rfl
def keep7 (i : Nat) : List Nat := (if i < 2 then (if i < 1 then [0, 1, 2] else [0, 1, 2, 8]) else (if i < 3 then [6] else [6]))
def draw7 (i : Nat) : DrawInfo := ⟨[], [], [], []⟩
def cfg7 : Cfg := ⟨[], keep7, draw7⟩
theorem ok7 : codeOK PP cfg7 Go.Proofs.Tryd.f7.ntmps body7 = true := by kernel_rfl
/-! ### 8 parterre/parterrelaw1.told -/
noncomputable def body8 : Code := match Go.Proofs.Tryd.f8.body with | some c => c | none => .skip
theorem fn8 : PP.funcs[8]? = some Go.Proofs.Tryd.f8 := Go.Proofs.Tryd.func8
theorem bodyEq8 : Go.Proofs.Tryd.f8.body = some body8 := rfl
def keep8 (i : Nat) : List Nat := (if i < 2 then (if i < 1 then [] else [1]) else (if i < 3 then [1, 2] else (if i < 4 then [1, 2, 3] else [0])))
def draw8 (i : Nat) : DrawInfo := ⟨[], [], [], []⟩
def cfg8 : Cfg := ⟨[], keep8, draw8⟩
theorem ok8 : codeOK PP cfg8 Go.Proofs.Tryd.f8.ntmps body8 = true := by kernel_rfl
/-! ### 9 parterre/fault.Code -/
noncomputable def body9 : Code := match Go.Proofs.Tryd.f9.body with | some c => c | none => .skip
theorem fn9 : PP.funcs[9]? = some Go.Proofs.Tryd.f9 := Go.Proofs.Tryd.func9
theorem bodyEq9 : Go.Proofs.Tryd.f9.body = some body9 := rfl
def keep9 (i : Nat) : List Nat := (if i < 3 then (if i < 1 then [0] else (if i < 2 then [0, 3] else [0, 3, 4])) else (if i < 5 then (if i < 4 then [2] else [3, 7]) else (if i < 6 then [2] else [2])))
def draw9 (i : Nat) : DrawInfo := ⟨[], [], [], []⟩
def cfg9 : Cfg := ⟨[], keep9, draw9⟩
theorem ok9 : codeOK PP cfg9 Go.Proofs.Tryd.f9.ntmps body9 = true := by kernel_rfl
/-! ### 10 parterre/fault.Depth -/
noncomputable def body10 : Code := match Go.Proofs.Tryd.f10.body with | some c => c | none => .skip
theorem fn10 : PP.funcs[10]? = some Go.Proofs.Tryd.f10 := Go.Proofs.Tryd.func10
theorem bodyEq10 : Go.Proofs.Tryd.f10.body = some body10 := rfl
def keep10 (i : Nat) : List Nat := (if i < 1 then [0] else [2])
def draw10 (i : Nat) : DrawInfo := ⟨[], [], [], []⟩
def cfg10 : Cfg := ⟨[], keep10, draw10⟩
theorem ok10 : codeOK PP cfg10 Go.Proofs.Tryd.f10.ntmps body10 = true := by kernel_rfl
/-! ### 11 parterre/fault.Is -/
noncomputable def body11 : Code := match Go.Proofs.Tryd.f11.body with | some c => c | none => .skip
theorem fn11 : PP.funcs[11]? = some Go.Proofs.Tryd.f11 := Go.Proofs.Tryd.func11
theorem bodyEq11 : Go.Proofs.Tryd.f11.body = some body11 := rfl
def keep11 (i : Nat) : List Nat := (if i < 1 then [0, 1] else [4])
def draw11 (i : Nat) : DrawInfo := ⟨[], [], [], []⟩
def cfg11 : Cfg := ⟨[], keep11, draw11⟩
theorem ok11 : codeOK PP cfg11 Go.Proofs.Tryd.f11.ntmps body11 = true := by kernel_rfl
/-! ### 12 parterre/parterrelaw1.bounded -/
noncomputable def body12 : Code := match Go.Proofs.Tryd.f12.body with | some c => c | none => .skip
theorem fn12 : PP.funcs[12]? = some Go.Proofs.Tryd.f12 := Go.Proofs.Tryd.func12
theorem bodyEq12 : Go.Proofs.Tryd.f12.body = some body12 := rfl
def keep12 (i : Nat) : List Nat := (if i < 1 then [0] else [2])
def draw12 (i : Nat) : DrawInfo := ⟨[], [], [], []⟩
def cfg12 : Cfg := ⟨[], keep12, draw12⟩
theorem ok12 : codeOK PP cfg12 Go.Proofs.Tryd.f12.ntmps body12 = true := by kernel_rfl
/-! ### 13 parterre/parterreref2.Decimal -/
noncomputable def body13 : Code := match Go.Proofs.Tryd.f13.body with | some c => c | none => .skip
theorem fn13 : PP.funcs[13]? = some Go.Proofs.Tryd.f13 := Go.Proofs.Tryd.func13
theorem bodyEq13 : Go.Proofs.Tryd.f13.body = some body13 := rfl
def keep13 (i : Nat) : List Nat := (if i < 2 then (if i < 1 then [0] else [0, 4]) else (if i < 3 then [2] else [2]))
def draw13 (i : Nat) : DrawInfo := ⟨[], [], [], []⟩
def cfg13 : Cfg := ⟨[], keep13, draw13⟩
theorem ok13 : codeOK PP cfg13 Go.Proofs.Tryd.f13.ntmps body13 = true := by kernel_rfl
/-! ### 14 parterre/fault.Spot -/
noncomputable def body14 : Code := match Go.Proofs.Tryd.f14.body with | some c => c | none => .skip
theorem fn14 : PP.funcs[14]? = some Go.Proofs.Tryd.f14 := Go.Proofs.Tryd.func14
theorem bodyEq14 : Go.Proofs.Tryd.f14.body = some body14 := rfl
def keep14 (i : Nat) : List Nat := (if i < 4 then (if i < 2 then (if i < 1 then [0, 2] else [2, 6, 7, 8]) else (if i < 3 then [2, 6, 7, 8, 9] else [2, 4, 6, 7, 8])) else (if i < 6 then (if i < 5 then [2, 4, 6, 7, 8, 17] else [2]) else (if i < 7 then [2, 6, 7, 8] else [2])))
def draw14 (i : Nat) : DrawInfo := ⟨[], [], [], []⟩
def cfg14 : Cfg := ⟨[2], keep14, draw14⟩
theorem ok14 : codeOK PP cfg14 Go.Proofs.Tryd.f14.ntmps body14 = true := by kernel_rfl
/-! ### 15 parterre/fault.Text -/
noncomputable def body15 : Code := match Go.Proofs.Tryd.f15.body with | some c => c | none => .skip
theorem fn15 : PP.funcs[15]? = some Go.Proofs.Tryd.f15 := Go.Proofs.Tryd.func15
theorem bodyEq15 : Go.Proofs.Tryd.f15.body = some body15 := rfl
def keep15 (i : Nat) : List Nat := (if i < 5 then (if i < 2 then (if i < 1 then [0] else [0, 3]) else (if i < 3 then [3, 8, 9, 10] else (if i < 4 then [3, 8, 9, 10, 11] else [3, 5, 8, 9, 10]))) else (if i < 8 then (if i < 6 then [3, 5, 6, 8, 9, 10] else (if i < 7 then [3, 5, 6, 8, 9, 10, 25] else [3, 6, 8, 9, 10])) else (if i < 9 then [3, 8, 9, 10] else (if i < 10 then [3, 8, 9, 10] else [2]))))
def draw15 (i : Nat) : DrawInfo := if i = 7 then ⟨[], [0, 1, 2, 3, 4, 5, 9, 10, 11, 12, 13, 6, 7, 8, 14, 15, 16, 17], [[], [], [1], [1, 2], [1, 2, 3], [1, 2, 3, 4], [1, 2, 3, 4, 5], [1, 2, 3, 4, 5, 6], [1, 2, 3, 4, 5, 6, 7], [], [9], [9, 10], [9, 10, 11], [9, 10, 11, 12], [1, 2, 3, 4, 5, 6, 9, 10, 11, 12, 13], [1, 2, 3, 4, 5, 6, 7, 8, 9, 10, 11, 12, 13, 14], [0, 1, 2, 3, 4, 5, 6, 7, 8, 9, 10, 11, 12, 13, 14, 15], [0, 1, 2, 3, 4, 5, 6, 7, 8, 9, 10, 11, 12, 13, 14, 15, 16]], []⟩ else ⟨[], [], [], []⟩
def cfg15 : Cfg := ⟨[], keep15, draw15⟩
theorem ok15 : codeOK PP cfg15 Go.Proofs.Tryd.f15.ntmps body15 = true := by kernel_rfl
/-! ### 16 parterre/fault.Wrap -/
noncomputable def body16 : Code := match Go.Proofs.Tryd.f16.body with | some c => c | none => .skip
theorem fn16 : PP.funcs[16]? = some Go.Proofs.Tryd.f16 := Go.Proofs.Tryd.func16
theorem bodyEq16 : Go.Proofs.Tryd.f16.body = some body16 := rfl
def keep16 (i : Nat) : List Nat := (if i < 3 then (if i < 1 then [0, 1] else (if i < 2 then [0, 1, 5] else [4])) else (if i < 4 then [0, 1, 9] else (if i < 5 then [4] else [4])))
def draw16 (i : Nat) : DrawInfo := ⟨[], [], [], []⟩
def cfg16 : Cfg := ⟨[], keep16, draw16⟩
theorem ok16 : codeOK PP cfg16 Go.Proofs.Tryd.f16.ntmps body16 = true := by kernel_rfl
/-! ### 17 errors.As -/
noncomputable def body17 : Code := match Go.Proofs.Tryd.f17.body with | some c => c | none => .skip
theorem fn17 : PP.funcs[17]? = some Go.Proofs.Tryd.f17 := Go.Proofs.Tryd.func17
theorem bodyEq17 : Go.Proofs.Tryd.f17.body = some body17 := rfl
def keep17 (i : Nat) : List Nat := (if i < 6 then (if i < 3 then (if i < 1 then [0, 1] else (if i < 2 then [0, 1, 9] else [4])) else (if i < 4 then [0, 1, 11] else (if i < 5 then [0, 1] else [0, 1, 5]))) else (if i < 9 then (if i < 7 then [0, 1, 5, 6] else (if i < 8 then [0, 1, 5, 6, 23] else [0, 1, 5, 6])) else (if i < 11 then (if i < 10 then [0, 1, 5, 7] else [0, 1, 5, 7, 35]) else (if i < 12 then [0, 1, 5, 7] else [4]))))
def draw17 (i : Nat) : DrawInfo := ⟨[], [], [], []⟩
def cfg17 : Cfg := ⟨[5], keep17, draw17⟩
theorem ok17 : codeOK PP cfg17 Go.Proofs.Tryd.f17.ntmps body17 = true := by kernel_rfl
/-! ### 18 parterre/fault.all -/
noncomputable def body18 : Code := match Go.Proofs.Tryd.f18.body with | some c => c | none => .skip
theorem fn18 : PP.funcs[18]? = some Go.Proofs.Tryd.f18 := Go.Proofs.Tryd.func18
theorem bodyEq18 : Go.Proofs.Tryd.f18.body = some body18 := rfl
def keep18 (i : Nat) : List Nat := (if i < 3 then (if i < 1 then [0] else (if i < 2 then [0, 3] else [0, 3, 4])) else (if i < 5 then (if i < 4 then [3, 4, 7] else [3, 4]) else (if i < 6 then [0, 3, 4] else [2])))
def draw18 (i : Nat) : DrawInfo := ⟨[], [], [], []⟩
def cfg18 : Cfg := ⟨[], keep18, draw18⟩
theorem ok18 : codeOK PP cfg18 Go.Proofs.Tryd.f18.ntmps body18 = true := by kernel_rfl
/-! ### 20 parterre/parterreref2.digits -/
noncomputable def body20 : Code := match Go.Proofs.Tryd.f20.body with | some c => c | none => .skip
theorem fn20 : PP.funcs[20]? = some Go.Proofs.Tryd.f20 := Go.Proofs.Tryd.func20
theorem bodyEq20 : Go.Proofs.Tryd.f20.body = some body20 := rfl
def keep20 (i : Nat) : List Nat := (if i < 3 then (if i < 1 then [0] else (if i < 2 then [0, 3] else [0, 3, 5])) else (if i < 4 then [0, 3] else (if i < 5 then [0, 3] else [2])))
def draw20 (i : Nat) : DrawInfo := ⟨[], [], [], []⟩
def cfg20 : Cfg := ⟨[], keep20, draw20⟩
theorem ok20 : codeOK PP cfg20 Go.Proofs.Tryd.f20.ntmps body20 = true := by kernel_rfl
/-! ### types -/
theorem un3 : PP.underlying 3 = some (Go.TypeDesc.int Go.IntKind.i64) := by kernel_rfl
theorem sz3 : szT PP 3 = some 1 := by kernel_rfl
theorem co3 : PP.cellsOf 3 = 1 := by kernel_rfl
theorem by3 : bytesT PP 3 = some 8 := by kernel_rfl
theorem ag3 : aggT PP 3 = some false := by kernel_rfl
theorem ze3 : zeroT PP 3 = some [(Go.Value.int Go.IntKind.i64 0)] := by kernel_rfl
theorem un4 : PP.underlying 4 = some Go.TypeDesc.bool := by kernel_rfl
theorem sz4 : szT PP 4 = some 1 := by kernel_rfl
theorem co4 : PP.cellsOf 4 = 1 := by kernel_rfl
theorem by4 : bytesT PP 4 = some 1 := by kernel_rfl
theorem ag4 : aggT PP 4 = some false := by kernel_rfl
theorem ze4 : zeroT PP 4 = some [(Go.Value.bool false)] := by kernel_rfl
theorem un9 : PP.underlying 9 = some Go.TypeDesc.string := by kernel_rfl
theorem sz9 : szT PP 9 = some 1 := by kernel_rfl
theorem co9 : PP.cellsOf 9 = 1 := by kernel_rfl
theorem by9 : bytesT PP 9 = some 16 := by kernel_rfl
theorem ag9 : aggT PP 9 = some false := by kernel_rfl
theorem ze9 : zeroT PP 9 = some [(Go.Value.string { data := #[] })] := by kernel_rfl
theorem un17 : PP.underlying 17 = some (Go.TypeDesc.pointer 121) := by kernel_rfl
theorem sz17 : szT PP 17 = some 1 := by kernel_rfl
theorem co17 : PP.cellsOf 17 = 1 := by kernel_rfl
theorem by17 : bytesT PP 17 = some 8 := by kernel_rfl
theorem ag17 : aggT PP 17 = some false := by kernel_rfl
theorem ze17 : zeroT PP 17 = some [(Go.Value.pointer none)] := by kernel_rfl
theorem un20 : PP.underlying 20 = some (Go.TypeDesc.interface #[]) := by kernel_rfl
theorem sz20 : szT PP 20 = some 1 := by kernel_rfl
theorem co20 : PP.cellsOf 20 = 1 := by kernel_rfl
theorem by20 : bytesT PP 20 = some 16 := by kernel_rfl
theorem ag20 : aggT PP 20 = some false := by kernel_rfl
theorem ze20 : zeroT PP 20 = some [Go.Value.nilIface] := by kernel_rfl
theorem un23 : PP.underlying 23 = some (Go.TypeDesc.interface #[("Error", 74)]) := by kernel_rfl
theorem sz23 : szT PP 23 = some 1 := by kernel_rfl
theorem co23 : PP.cellsOf 23 = 1 := by kernel_rfl
theorem by23 : bytesT PP 23 = some 16 := by kernel_rfl
theorem ag23 : aggT PP 23 = some false := by kernel_rfl
theorem ze23 : zeroT PP 23 = some [Go.Value.nilIface] := by kernel_rfl
theorem un31 : PP.underlying 31 = some (Go.TypeDesc.struct #[{ name := "Line", type := 3, offset := 0, embedded := false, tag := "", pkgPath := "", byteOffset := 0 }, { name := "Col", type := 3, offset := 1, embedded := false, tag := "", pkgPath := "", byteOffset := 8 }]) := by kernel_rfl
theorem sz31 : szT PP 31 = some 2 := by kernel_rfl
theorem co31 : PP.cellsOf 31 = 2 := by kernel_rfl
theorem by31 : bytesT PP 31 = some 16 := by kernel_rfl
theorem ag31 : aggT PP 31 = some true := by kernel_rfl
theorem ze31 : zeroT PP 31 = some [(Go.Value.int Go.IntKind.i64 0), (Go.Value.int Go.IntKind.i64 0)] := by kernel_rfl
theorem gt31 : PP.eqGuardType PP.depth 31 = false := by kernel_rfl
theorem st31 : PP.stoodInHeld 31 = false := by kernel_rfl
theorem of31x0 : offT PP 31 0 = some (0, 3, 1) := by kernel_rfl
theorem of31x1 : offT PP 31 1 = some (1, 3, 1) := by kernel_rfl
theorem pl31 : placesT PP #[{ name := "Line", type := 3, offset := 0, embedded := false, tag := "", pkgPath := "", byteOffset := 0 }, { name := "Col", type := 3, offset := 1, embedded := false, tag := "", pkgPath := "", byteOffset := 8 }].toList = some [(0, 1), (1, 1)] := by kernel_rfl
theorem bu31 (σ : St) (parts : Array (Nat × Operand)) : opBuild PP σ 31 parts = (match partsA σ parts.toList with | some ps => (match fillL (fun i => ([(0, 1), (1, 1)] : List (Nat × Nat))[i]?) [(Go.Value.int Go.IntKind.i64 0), (Go.Value.int Go.IntKind.i64 0)] ps with | some out => some (.agg ⟨out⟩, σ) | none => none) | none => none) := by
  unfold opBuild; rw [un31]; simp only []; rw [pl31, ze31]; cases partsA σ parts.toList <;> rfl
theorem un35 : PP.underlying 35 = some (Go.TypeDesc.slice 3) := by kernel_rfl
theorem sz35 : szT PP 35 = some 1 := by kernel_rfl
theorem co35 : PP.cellsOf 35 = 1 := by kernel_rfl
theorem by35 : bytesT PP 35 = some 24 := by kernel_rfl
theorem ag35 : aggT PP 35 = some false := by kernel_rfl
theorem ze35 : zeroT PP 35 = some [(Go.Value.slice none 0 0)] := by kernel_rfl
theorem el35 : elemT PP 35 = some (3, 1) := by kernel_rfl
theorem un36 : PP.underlying 36 = some (Go.TypeDesc.int Go.IntKind.u64) := by kernel_rfl
theorem sz36 : szT PP 36 = some 1 := by kernel_rfl
theorem co36 : PP.cellsOf 36 = 1 := by kernel_rfl
theorem by36 : bytesT PP 36 = some 8 := by kernel_rfl
theorem ag36 : aggT PP 36 = some false := by kernel_rfl
theorem ze36 : zeroT PP 36 = some [(Go.Value.int Go.IntKind.u64 0)] := by kernel_rfl
theorem un41 : PP.underlying 41 = some (Go.TypeDesc.pointer 43) := by kernel_rfl
theorem sz41 : szT PP 41 = some 1 := by kernel_rfl
theorem co41 : PP.cellsOf 41 = 1 := by kernel_rfl
theorem by41 : bytesT PP 41 = some 8 := by kernel_rfl
theorem ag41 : aggT PP 41 = some false := by kernel_rfl
theorem ze41 : zeroT PP 41 = some [(Go.Value.pointer none)] := by kernel_rfl
theorem un43 : PP.underlying 43 = some (Go.TypeDesc.struct #[{ name := "code", type := 3, offset := 0, embedded := false, tag := "", pkgPath := "parterre/fault", byteOffset := 0 }, { name := "spot", type := 31, offset := 1, embedded := false, tag := "", pkgPath := "parterre/fault", byteOffset := 8 }, { name := "inner", type := 23, offset := 3, embedded := false, tag := "", pkgPath := "parterre/fault", byteOffset := 24 }]) := by kernel_rfl
theorem sz43 : szT PP 43 = some 4 := by kernel_rfl
theorem co43 : PP.cellsOf 43 = 4 := by kernel_rfl
theorem by43 : bytesT PP 43 = some 40 := by kernel_rfl
theorem ag43 : aggT PP 43 = some true := by kernel_rfl
theorem ze43 : zeroT PP 43 = some [(Go.Value.int Go.IntKind.i64 0), (Go.Value.int Go.IntKind.i64 0), (Go.Value.int Go.IntKind.i64 0), Go.Value.nilIface] := by kernel_rfl
theorem of43x0 : offT PP 43 0 = some (0, 3, 1) := by kernel_rfl
theorem of43x1 : offT PP 43 1 = some (1, 31, 2) := by kernel_rfl
theorem of43x2 : offT PP 43 2 = some (3, 23, 1) := by kernel_rfl
theorem pl43 : placesT PP #[{ name := "code", type := 3, offset := 0, embedded := false, tag := "", pkgPath := "parterre/fault", byteOffset := 0 }, { name := "spot", type := 31, offset := 1, embedded := false, tag := "", pkgPath := "parterre/fault", byteOffset := 8 }, { name := "inner", type := 23, offset := 3, embedded := false, tag := "", pkgPath := "parterre/fault", byteOffset := 24 }].toList = some [(0, 1), (1, 2), (3, 1)] := by kernel_rfl
theorem bu43 (σ : St) (parts : Array (Nat × Operand)) : opBuild PP σ 43 parts = (match partsA σ parts.toList with | some ps => (match fillL (fun i => ([(0, 1), (1, 2), (3, 1)] : List (Nat × Nat))[i]?) [(Go.Value.int Go.IntKind.i64 0), (Go.Value.int Go.IntKind.i64 0), (Go.Value.int Go.IntKind.i64 0), Go.Value.nilIface] ps with | some out => some (.agg ⟨out⟩, σ) | none => none) | none => none) := by
  unfold opBuild; rw [un43]; simp only []; rw [pl43, ze43]; cases partsA σ parts.toList <;> rfl
theorem un45 : PP.underlying 45 = some (Go.TypeDesc.pointer 41) := by kernel_rfl
theorem sz45 : szT PP 45 = some 1 := by kernel_rfl
theorem co45 : PP.cellsOf 45 = 1 := by kernel_rfl
theorem by45 : bytesT PP 45 = some 8 := by kernel_rfl
theorem ag45 : aggT PP 45 = some false := by kernel_rfl
theorem ze45 : zeroT PP 45 = some [(Go.Value.pointer none)] := by kernel_rfl
theorem un46 : PP.underlying 46 = some (Go.TypeDesc.slice 41) := by kernel_rfl
theorem sz46 : szT PP 46 = some 1 := by kernel_rfl
theorem co46 : PP.cellsOf 46 = 1 := by kernel_rfl
theorem by46 : bytesT PP 46 = some 24 := by kernel_rfl
theorem ag46 : aggT PP 46 = some false := by kernel_rfl
theorem ze46 : zeroT PP 46 = some [(Go.Value.slice none 0 0)] := by kernel_rfl
theorem el46 : elemT PP 46 = some (41, 1) := by kernel_rfl
theorem un50 : PP.underlying 50 = some (Go.TypeDesc.int Go.IntKind.u64) := by kernel_rfl
theorem sz50 : szT PP 50 = some 1 := by kernel_rfl
theorem co50 : PP.cellsOf 50 = 1 := by kernel_rfl
theorem by50 : bytesT PP 50 = some 8 := by kernel_rfl
theorem ag50 : aggT PP 50 = some false := by kernel_rfl
theorem ze50 : zeroT PP 50 = some [(Go.Value.int Go.IntKind.u64 0)] := by kernel_rfl
theorem un51 : PP.underlying 51 = some (Go.TypeDesc.slice 9) := by kernel_rfl
theorem sz51 : szT PP 51 = some 1 := by kernel_rfl
theorem co51 : PP.cellsOf 51 = 1 := by kernel_rfl
theorem by51 : bytesT PP 51 = some 24 := by kernel_rfl
theorem ag51 : aggT PP 51 = some false := by kernel_rfl
theorem ze51 : zeroT PP 51 = some [(Go.Value.slice none 0 0)] := by kernel_rfl
theorem el51 : elemT PP 51 = some (9, 1) := by kernel_rfl
theorem un53 : PP.underlying 53 = some Go.TypeDesc.unsafePointer := by kernel_rfl
theorem sz53 : szT PP 53 = some 1 := by kernel_rfl
theorem co53 : PP.cellsOf 53 = 1 := by kernel_rfl
theorem by53 : bytesT PP 53 = some 8 := by kernel_rfl
theorem ag53 : aggT PP 53 = some false := by kernel_rfl
theorem ze53 : zeroT PP 53 = some [(Go.Value.pointer none)] := by kernel_rfl
theorem un54 : PP.underlying 54 = some (Go.TypeDesc.int Go.IntKind.u64) := by kernel_rfl
theorem sz54 : szT PP 54 = some 1 := by kernel_rfl
theorem co54 : PP.cellsOf 54 = 1 := by kernel_rfl
theorem by54 : bytesT PP 54 = some 8 := by kernel_rfl
theorem ag54 : aggT PP 54 = some false := by kernel_rfl
theorem ze54 : zeroT PP 54 = some [(Go.Value.int Go.IntKind.u64 0)] := by kernel_rfl
theorem un56 : PP.underlying 56 = some (Go.TypeDesc.struct #[{ name := "typ_", type := 17, offset := 0, embedded := false, tag := "", pkgPath := "internal/reflectlite", byteOffset := 0 }, { name := "ptr", type := 53, offset := 1, embedded := false, tag := "", pkgPath := "internal/reflectlite", byteOffset := 8 }, { name := "flag", type := 54, offset := 2, embedded := true, tag := "", pkgPath := "internal/reflectlite", byteOffset := 16 }]) := by kernel_rfl
theorem sz56 : szT PP 56 = some 3 := by kernel_rfl
theorem co56 : PP.cellsOf 56 = 3 := by kernel_rfl
theorem by56 : bytesT PP 56 = some 24 := by kernel_rfl
theorem ag56 : aggT PP 56 = some true := by kernel_rfl
theorem ze56 : zeroT PP 56 = some [(Go.Value.pointer none), (Go.Value.pointer none), (Go.Value.int Go.IntKind.u64 0)] := by kernel_rfl
theorem of56x0 : offT PP 56 0 = some (0, 17, 1) := by kernel_rfl
theorem of56x1 : offT PP 56 1 = some (1, 53, 1) := by kernel_rfl
theorem of56x2 : offT PP 56 2 = some (2, 54, 1) := by kernel_rfl
theorem pl56 : placesT PP #[{ name := "typ_", type := 17, offset := 0, embedded := false, tag := "", pkgPath := "internal/reflectlite", byteOffset := 0 }, { name := "ptr", type := 53, offset := 1, embedded := false, tag := "", pkgPath := "internal/reflectlite", byteOffset := 8 }, { name := "flag", type := 54, offset := 2, embedded := true, tag := "", pkgPath := "internal/reflectlite", byteOffset := 16 }].toList = some [(0, 1), (1, 1), (2, 1)] := by kernel_rfl
theorem bu56 (σ : St) (parts : Array (Nat × Operand)) : opBuild PP σ 56 parts = (match partsA σ parts.toList with | some ps => (match fillL (fun i => ([(0, 1), (1, 1), (2, 1)] : List (Nat × Nat))[i]?) [(Go.Value.pointer none), (Go.Value.pointer none), (Go.Value.int Go.IntKind.u64 0)] ps with | some out => some (.agg ⟨out⟩, σ) | none => none) | none => none) := by
  unfold opBuild; rw [un56]; simp only []; rw [pl56, ze56]; cases partsA σ parts.toList <;> rfl
theorem un59 : PP.underlying 59 = some (Go.TypeDesc.interface #[("AssignableTo", 63), ("Comparable", 25), ("Elem", 60), ("Implements", 63), ("Kind", 62), ("Name", 74), ("PkgPath", 74), ("Size", 123), ("String", 74), ("internal/reflectlite.common", 115), ("internal/reflectlite.uncommon", 124)]) := by kernel_rfl
theorem sz59 : szT PP 59 = some 1 := by kernel_rfl
theorem co59 : PP.cellsOf 59 = 1 := by kernel_rfl
theorem by59 : bytesT PP 59 = some 16 := by kernel_rfl
theorem ag59 : aggT PP 59 = some false := by kernel_rfl
theorem ze59 : zeroT PP 59 = some [Go.Value.nilIface] := by kernel_rfl
theorem un61 : PP.underlying 61 = some (Go.TypeDesc.int Go.IntKind.u8) := by kernel_rfl
theorem sz61 : szT PP 61 = some 1 := by kernel_rfl
theorem co61 : PP.cellsOf 61 = 1 := by kernel_rfl
theorem by61 : bytesT PP 61 = some 1 := by kernel_rfl
theorem ag61 : aggT PP 61 = some false := by kernel_rfl
theorem ze61 : zeroT PP 61 = some [(Go.Value.int Go.IntKind.u8 0)] := by kernel_rfl
attribute [irreducible] PP
attribute [simp] un3 sz3 co3 by3 ag3 ze3 un4 sz4 co4 by4 ag4 ze4 un9 sz9 co9 by9 ag9 ze9 un17 sz17 co17 by17 ag17 ze17 un20 sz20 co20 by20 ag20 ze20 un23 sz23 co23 by23 ag23 ze23 un31 sz31 co31 by31 ag31 ze31 gt31 st31 of31x0 of31x1 bu31 un35 sz35 co35 by35 ag35 ze35 el35 un36 sz36 co36 by36 ag36 ze36 un41 sz41 co41 by41 ag41 ze41 un43 sz43 co43 by43 ag43 ze43 of43x0 of43x1 of43x2 bu43 un45 sz45 co45 by45 ag45 ze45 un46 sz46 co46 by46 ag46 ze46 el46 un50 sz50 co50 by50 ag50 ze50 un51 sz51 co51 by51 ag51 ze51 el51 un53 sz53 co53 by53 ag53 ze53 un54 sz54 co54 by54 ag54 ze54 un56 sz56 co56 by56 ag56 ze56 of56x0 of56x1 of56x2 bu56 un59 sz59 co59 by59 ag59 ze59 un61 sz61 co61 by61 ag61 ze61 keep3 cfg3 draw3 keep4 cfg4 draw4 keep5 cfg5 draw5 keep6 cfg6 draw6 keep7 cfg7 draw7 keep8 cfg8 draw8 keep9 cfg9 draw9 keep10 cfg10 draw10 keep11 cfg11 draw11 keep12 cfg12 draw12 keep13 cfg13 draw13 keep14 cfg14 draw14 keep15 cfg15 draw15 keep16 cfg16 draw16 keep17 cfg17 draw17 keep18 cfg18 draw18 keep20 cfg20 draw20
end Go.Proofs.Flt

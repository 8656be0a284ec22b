/- Facts of the functions and types, printed by gen.py. -/
import Derived.Test.YtfcllalhfcmfdaaProg
import Derived.Test.YtfcllalhfcmfdaaAmQ
import Derived.KernelRfl
set_option linter.unusedVariables false
set_option linter.unusedSimpArgs false
set_option linter.unusedSectionVars false
namespace Go.Proofs.Ytf
open Go Go.Am
set_option maxRecDepth 20000
noncomputable def PP : Program := Go.Proofs.Try.prog
theorem mix : PP.follows .mixedOrders = true := by kernel_rfl
theorem gsize : True := trivial
/-! ### 3 parterre/parterrelaw2.TokenAsks -/
noncomputable def body3 : Code := match Go.Proofs.Try.f3.body with | some c => c | none => .skip
theorem fn3 : PP.funcs[3]? = some Go.Proofs.Try.f3 := Go.Proofs.Try.func3
theorem bodyEq3 : Go.Proofs.Try.f3.body = some body3 := rfl
def keep3 (i : Nat) : List Nat := (if i < 10 then (if i < 5 then (if i < 2 then (if i < 1 then [0, 1, 2, 3, 4] else [0, 1, 2, 3, 4, 33]) else (if i < 3 then [10] else (if i < 4 then [0, 1, 2, 11] else [0, 1, 2, 11, 12]))) else (if i < 7 then (if i < 6 then [0, 1, 2, 11, 12, 41] else [0, 1, 2, 11, 12]) else (if i < 8 then [0, 1, 2, 11, 12, 13, 14, 15, 16] else (if i < 9 then [0, 1, 2, 11, 12, 13, 14, 15, 16, 17, 18, 19, 20] else [0, 1, 2, 11, 12, 13, 14, 15, 16, 17, 18, 19, 20, 21, 22, 23])))) else (if i < 15 then (if i < 12 then (if i < 11 then [1, 2, 11, 12, 13, 14, 15, 16, 17, 18, 19, 20, 21, 22, 23, 24, 25, 26] else [1, 2, 11, 12, 24, 107]) else (if i < 13 then [10] else (if i < 14 then [1, 2, 11, 12, 24, 27, 28] else [1, 2, 11, 12, 27, 28, 29, 30]))) else (if i < 17 then (if i < 16 then [1, 2, 11, 12, 128] else [10]) else (if i < 18 then [0, 1, 2, 11, 12] else (if i < 19 then [0, 1, 2, 11, 12] else [10])))))
def draw3 (i : Nat) : DrawInfo := ⟨[], [], []⟩
def cfg3 : Cfg := ⟨[11, 13, 15, 17, 19, 22, 25], keep3, draw3⟩
theorem ok3 : codeOK PP cfg3 Go.Proofs.Try.f3.ntmps body3 = true := by kernel_rfl
/-! ### 4 parterre/parterrelaw2.TokenNumbers -/
noncomputable def body4 : Code := match Go.Proofs.Try.f4.body with | some c => c | none => .skip
theorem fn4 : PP.funcs[4]? = some Go.Proofs.Try.f4 := Go.Proofs.Try.func4
theorem bodyEq4 : Go.Proofs.Try.f4.body = some body4 := rfl
def keep4 (i : Nat) : List Nat := (if i < 6 then (if i < 3 then (if i < 1 then [0, 1] else (if i < 2 then [0, 1, 5] else [0, 5, 6])) else (if i < 4 then [0, 5, 6, 7] else (if i < 5 then [0, 5, 6, 7, 18] else [0, 5, 6, 7]))) else (if i < 9 then (if i < 7 then [0, 5, 6, 7] else (if i < 8 then [0, 5, 6, 8] else [0, 6, 8, 9, 10, 11])) else (if i < 10 then [0, 6, 8, 9, 10, 11, 38] else (if i < 11 then [4] else [4]))))
def draw4 (i : Nat) : DrawInfo := ⟨[], [], []⟩
def cfg4 : Cfg := ⟨[10], keep4, draw4⟩
theorem ok4 : codeOK PP cfg4 Go.Proofs.Try.f4.ntmps body4 = true := by kernel_rfl
/-! ### 5 parterre/parterrelaw2.TokenLines -/
noncomputable def body5 : Code := match Go.Proofs.Try.f5.body with | some c => c | none => .skip
theorem fn5 : PP.funcs[5]? = some Go.Proofs.Try.f5 := Go.Proofs.Try.func5
theorem bodyEq5 : Go.Proofs.Try.f5.body = some body5 := rfl
def keep5 (i : Nat) : List Nat := (if i < 10 then (if i < 5 then (if i < 2 then (if i < 1 then [0] else [3]) else (if i < 3 then [4, 6] else (if i < 4 then [4, 6, 7, 8] else [4, 6, 7, 8, 9]))) else (if i < 7 then (if i < 6 then [4, 6, 7, 8, 9, 24] else [4, 6, 7, 8, 9, 10, 11]) else (if i < 8 then [4, 6, 7, 8, 9, 10, 11, 41] else (if i < 9 then [2] else [4, 6, 7, 8, 9, 10, 11, 12])))) else (if i < 15 then (if i < 12 then (if i < 11 then [4, 6, 7, 8, 9, 10, 11, 12, 45] else [4, 6, 7, 8, 9, 10, 11, 12]) else (if i < 13 then [4, 6, 7, 8, 9, 10, 11, 12, 76] else (if i < 14 then [2] else [4, 6, 7, 8, 9, 10, 11]))) else (if i < 17 then (if i < 16 then [4, 6, 7, 8, 11, 87] else [4, 6, 7, 8, 11]) else (if i < 18 then [4, 6, 7, 8, 11] else (if i < 19 then [4, 6, 7, 8, 9] else [2])))))
def draw5 (i : Nat) : DrawInfo := if i = 12 then ⟨[], [0, 1, 2, 3, 4, 5, 6, 7, 8, 9, 10, 11, 12, 13, 14, 15, 16, 17, 18, 19, 20, 21, 22, 23, 24, 25, 26, 27, 28], [[], [], [0, 1], [0, 1, 2], [], [], [], [5, 6], [4, 5, 6, 7], [4, 5, 6, 7, 8], [0, 1, 2, 3, 4, 5, 6, 7, 8, 9], [0, 1, 2, 3, 4, 5, 6, 7, 8, 9, 10], [0, 1, 2, 3, 4, 5, 6, 7, 8, 9, 10, 11], [0, 1, 2, 3, 4, 5, 6, 7, 8, 9, 10, 11], [0, 1, 2, 3, 4, 5, 6, 7, 8, 9, 10, 11, 12, 13], [0, 1, 2, 3, 4, 5, 6, 7, 8, 9, 10, 11, 12, 13, 14], [0, 1, 2, 3, 4, 5, 6, 7, 8, 9, 10, 11, 12, 13, 14, 15], [0, 1, 2, 3, 4, 5, 6, 7, 8, 9, 10, 11, 12, 13, 14, 15, 16], [0, 1, 2, 3, 4, 5, 6, 7, 8, 9, 10, 11, 12, 13, 14, 15, 16, 17], [0, 1, 2, 3, 4, 5, 6, 7, 8, 9, 10, 11, 12, 13, 14, 15, 16, 17, 18], [0, 1, 2, 3, 4, 5, 6, 7, 8, 9, 10, 11, 12, 13, 14, 15, 16, 17, 18, 19], [0, 1, 2, 3, 4, 5, 6, 7, 8, 9, 10, 11, 12, 13, 14, 15, 16, 17, 18, 19], [0, 1, 2, 3, 4, 5, 6, 7, 8, 9, 10, 11, 12, 13, 14, 15, 16, 17, 18, 19, 20, 21], [0, 1, 2, 3, 4, 5, 6, 7, 8, 9, 10, 11, 12, 13, 14, 15, 16, 17, 18, 19, 20, 21, 22], [0, 1, 2, 3, 4, 5, 6, 7, 8, 9, 10, 11, 12, 13, 14, 15, 16, 17, 18, 19, 20, 21, 22, 23], [0, 1, 2, 3, 4, 5, 6, 7, 8, 9, 10, 11, 12, 13, 14, 15, 16, 17, 18, 19], [0, 1, 2, 3, 4, 5, 6, 7, 8, 9, 10, 11, 12, 13, 14, 15, 16, 17, 18, 19, 25], [0, 1, 2, 3, 4, 5, 6, 7, 8, 9, 10, 11, 12, 13, 14, 15, 16, 17, 18, 19, 20, 21, 22, 23, 24, 25, 26], [0, 1, 2, 3, 4, 5, 6, 7, 8, 9, 10, 11, 12, 13, 14, 15, 16, 17, 18, 19, 20, 21, 22, 23, 24, 25, 26, 27]]⟩ else ⟨[], [], []⟩
def cfg5 : Cfg := ⟨[5], keep5, draw5⟩
theorem ok5 : codeOK PP cfg5 Go.Proofs.Try.f5.ntmps body5 = true := by kernel_rfl
/-! ### 6 parterre/parterrelaw2.TokenSpots -/
noncomputable def body6 : Code := match Go.Proofs.Try.f6.body with | some c => c | none => .skip
theorem fn6 : PP.funcs[6]? = some Go.Proofs.Try.f6 := Go.Proofs.Try.func6
theorem bodyEq6 : Go.Proofs.Try.f6.body = some body6 := rfl
def keep6 (i : Nat) : List Nat := (if i < 12 then (if i < 6 then (if i < 3 then (if i < 1 then [0] else (if i < 2 then [3] else [3, 4, 5, 6])) else (if i < 4 then [3, 4, 5, 6, 7] else (if i < 5 then [3, 4, 5, 6, 7] else [3, 4, 5, 6, 7, 8]))) else (if i < 9 then (if i < 7 then [3, 4, 5, 6, 7, 8, 26] else (if i < 8 then [3, 4, 5, 6, 7, 8] else [3, 4, 5, 6, 7, 8, 32])) else (if i < 10 then [3, 4, 5, 6, 7, 8] else (if i < 11 then [3, 4, 5, 6, 7, 9] else [3, 4, 5, 6, 7, 9, 41])))) else (if i < 18 then (if i < 15 then (if i < 13 then [3, 4, 5, 6, 7, 9] else (if i < 14 then [3, 4, 5, 6, 7, 9, 10] else [3, 4, 5, 6, 7, 9, 10, 62])) else (if i < 16 then [2] else (if i < 17 then [3, 4, 5, 6, 7, 9, 10, 11] else [3, 4, 5, 6, 7, 9, 10, 11, 73]))) else (if i < 21 then (if i < 19 then [2] else (if i < 20 then [3, 4, 5, 6, 7, 9, 10, 11, 82] else [3, 4, 5, 6, 7, 9, 94])) else (if i < 23 then (if i < 22 then [2] else [3, 4, 5, 6, 7, 9, 95]) else (if i < 24 then [2] else [2])))))
def draw6 (i : Nat) : DrawInfo := if i = 16 then ⟨[], [0, 1, 2, 3, 4, 5, 6, 7, 8, 9, 10], [[], [], [1], [1, 2], [0, 1, 2, 3], [0, 1, 2, 3, 4], [], [6], [0, 1, 2, 3, 4, 5, 6, 7], [0, 1, 2, 3, 4, 5, 6, 7, 8], [0, 1, 2, 3, 4, 5, 6, 7, 8, 9]]⟩ else if i = 22 then ⟨[], [0, 1, 2, 3, 4, 5, 6, 7, 8, 9, 10, 11, 12, 13, 14, 15, 16, 17, 18, 19, 20, 21, 22, 23, 24, 25, 26, 27], [[], [0], [0, 1], [0, 1, 2], [0, 1, 2, 3], [0, 1, 2, 3, 4], [0, 1, 2, 3, 4], [0, 1, 2, 3, 4, 6], [0, 1, 2, 3, 4, 6, 7], [0, 1, 2, 3, 4, 5, 6, 7, 8], [0, 1, 2, 3, 4], [0, 1, 2, 3, 4, 10], [0, 1, 2, 3, 4, 5, 6, 7, 8, 9, 10, 11], [0, 1, 2, 3, 4, 5, 6, 7, 8, 9, 10, 11, 12], [0, 1, 2, 3, 4, 5, 6, 7, 8, 9, 10, 11, 12, 13], [0, 1, 2, 3, 4, 5, 6, 7, 8, 9, 10, 11, 12, 13, 14], [0, 1, 2, 3, 4, 5, 6, 7, 8, 9, 10, 11, 12, 13, 14], [0, 1, 2, 3, 4, 5, 6, 7, 8, 9, 10, 11, 12, 13, 14], [0, 1, 2, 3, 4, 5, 6, 7, 8, 9, 10, 11, 12, 13, 14], [0, 1, 2, 3, 4, 5, 6, 7, 8, 9, 10, 11, 12, 13, 14, 18], [0, 1, 2, 3, 4, 5, 6, 7, 8, 9, 10, 11, 12, 13, 14, 18, 19], [0, 1, 2, 3, 4, 5, 6, 7, 8, 9, 10, 11, 12, 13, 14, 17, 18, 19, 20], [0, 1, 2, 3, 4, 5, 6, 7, 8, 9, 10, 11, 12, 13, 14, 15, 16, 17, 18, 19, 20, 21], [0, 1, 2, 3, 4, 5, 6, 7, 8, 9, 10, 11, 12, 13, 14], [0, 1, 2, 3, 4, 5, 6, 7, 8, 9, 10, 11, 12, 13, 14, 23], [0, 1, 2, 3, 4, 5, 6, 7, 8, 9, 10, 11, 12, 13, 14, 15, 16, 17, 18, 19, 20, 21, 22, 23, 24], [0, 1, 2, 3, 4, 5, 6, 7, 8, 9, 10, 11, 12, 13, 14, 15, 16, 17, 18, 19, 20, 21, 22, 23, 24, 25], [0, 1, 2, 3, 4, 5, 6, 7, 8, 9, 10, 11, 12, 13, 14, 15, 16, 17, 18, 19, 20, 21, 22, 23, 24, 25, 26]]⟩ else ⟨[], [], []⟩
def cfg6 : Cfg := ⟨[5, 10], keep6, draw6⟩
theorem ok6 : codeOK PP cfg6 Go.Proofs.Try.f6.ntmps body6 = true := by kernel_rfl
/-! ### 7 parterre/parterrelaw2.TokenApart -/
noncomputable def body7 : Code := match Go.Proofs.Try.f7.body with | some c => c | none => .skip
theorem fn7 : PP.funcs[7]? = some Go.Proofs.Try.f7 := Go.Proofs.Try.func7
theorem bodyEq7 : Go.Proofs.Try.f7.body = some body7 := rfl
def keep7 (i : Nat) : List Nat := (if i < 9 then (if i < 4 then (if i < 2 then (if i < 1 then [0, 1] else [0, 1, 5]) else (if i < 3 then [0, 1, 5, 6, 7] else [0, 1, 5, 6, 7, 8])) else (if i < 6 then (if i < 5 then [0, 1, 5, 6, 7, 8, 25] else [0, 1, 5, 6, 7, 8]) else (if i < 7 then [0, 1, 5, 6, 7, 8, 9] else (if i < 8 then [0, 1, 5, 6, 7, 8, 9] else [0, 1, 5, 6, 7, 8])))) else (if i < 14 then (if i < 11 then (if i < 10 then [7, 10, 12] else [10, 12, 13, 15]) else (if i < 12 then [10, 13, 80] else (if i < 13 then [4] else [10, 13, 16]))) else (if i < 16 then (if i < 15 then [10, 13, 16, 84] else [10, 13, 16]) else (if i < 17 then [10, 13, 16, 123] else (if i < 18 then [4] else [4])))))
def draw7 (i : Nat) : DrawInfo := if i = 16 then ⟨[], [0, 1, 2, 3, 4, 5, 6, 7, 8, 9, 10, 11, 12, 13, 14, 15, 16, 17, 18, 19, 20, 21, 22, 23, 24, 25, 26, 27, 28, 29, 30, 31, 32, 33, 34, 35, 36], [[], [], [0, 1], [0, 1, 2], [0, 1, 2, 3], [], [], [5, 6], [5, 6, 7], [5, 6, 7, 8], [0, 1, 2, 3, 4, 5, 6, 7, 8, 9], [0, 1, 2, 3, 4, 5, 6, 7, 8, 9, 10], [0, 1, 2, 3, 4, 5, 6, 7, 8, 9, 10, 11], [0, 1, 2, 3, 4, 5, 6, 7, 8, 9, 10, 11], [0, 1, 2, 3, 4, 5, 6, 7, 8, 9, 10, 11, 12, 13], [0, 1, 2, 3, 4, 5, 6, 7, 8, 9, 10, 11, 12, 13, 14], [0, 1, 2, 3, 4, 5, 6, 7, 8, 9, 10, 11, 12, 13, 14, 15], [0, 1, 2, 3, 4, 5, 6, 7, 8, 9, 10, 11], [0, 1, 2, 3, 4, 5, 6, 7, 8, 9, 10, 11], [0, 1, 2, 3, 4, 5, 6, 7, 8, 9, 10, 11, 17, 18], [0, 1, 2, 3, 4, 5, 6, 7, 8, 9, 10, 11, 17, 18, 19], [0, 1, 2, 3, 4, 5, 6, 7, 8, 9, 10, 11, 17, 18, 19, 20], [0, 1, 2, 3, 4, 5, 6, 7, 8, 9, 10, 11, 12, 13, 14, 15, 16, 17, 18, 19, 20, 21], [0, 1, 2, 3, 4, 5, 6, 7, 8, 9, 10, 11, 12, 13, 14, 15, 16, 17, 18, 19, 20, 21, 22], [0, 1, 2, 3, 4, 5, 6, 7, 8, 9, 10, 11, 12, 13, 14, 15, 16, 17, 18, 19, 20, 21, 22, 23], [0, 1, 2, 3, 4, 5, 6, 7, 8, 9, 10, 11, 12, 13, 14, 15, 16, 17, 18, 19, 20, 21, 22, 23, 24], [0, 1, 2, 3, 4, 5, 6, 7, 8, 9, 10, 11, 12, 13, 14, 15, 16, 17, 18, 19, 20, 21, 22, 23, 24], [0, 1, 2, 3, 4, 5, 6, 7, 8, 9, 10, 11, 12, 13, 14, 15, 16, 17, 18, 19, 20, 21, 22, 23, 24, 25, 26], [0, 1, 2, 3, 4, 5, 6, 7, 8, 9, 10, 11, 12, 13, 14, 15, 16, 17, 18, 19, 20, 21, 22, 23, 24, 25, 26, 27], [0, 1, 2, 3, 4, 5, 6, 7, 8, 9, 10, 11, 12, 13, 14, 15, 16, 17, 18, 19, 20, 21, 22, 23, 24, 25, 26, 27, 28], [0, 1, 2, 3, 4, 5, 6, 7, 8, 9, 10, 11, 12, 13, 14, 15, 16, 17, 18, 19, 20, 21, 22, 23, 24], [0, 1, 2, 3, 4, 5, 6, 7, 8, 9, 10, 11, 12, 13, 14, 15, 16, 17, 18, 19, 20, 21, 22, 23, 24], [0, 1, 2, 3, 4, 5, 6, 7, 8, 9, 10, 11, 12, 13, 14, 15, 16, 17, 18, 19, 20, 21, 22, 23, 24, 30, 31], [0, 1, 2, 3, 4, 5, 6, 7, 8, 9, 10, 11, 12, 13, 14, 15, 16, 17, 18, 19, 20, 21, 22, 23, 24, 30, 31, 32], [0, 1, 2, 3, 4, 5, 6, 7, 8, 9, 10, 11, 12, 13, 14, 15, 16, 17, 18, 19, 20, 21, 22, 23, 24, 30, 31, 32, 33], [0, 1, 2, 3, 4, 5, 6, 7, 8, 9, 10, 11, 12, 13, 14, 15, 16, 17, 18, 19, 20, 21, 22, 23, 24, 25, 26, 27, 28, 29, 30, 31, 32, 33, 34], [0, 1, 2, 3, 4, 5, 6, 7, 8, 9, 10, 11, 12, 13, 14, 15, 16, 17, 18, 19, 20, 21, 22, 23, 24, 25, 26, 27, 28, 29, 30, 31, 32, 33, 34, 35]]⟩ else ⟨[], [], []⟩
def cfg7 : Cfg := ⟨[11, 14], keep7, draw7⟩
theorem ok7 : codeOK PP cfg7 Go.Proofs.Try.f7.ntmps body7 = true := by kernel_rfl
/-! ### 8 parterre/parterrelaw2.told -/
noncomputable def body8 : Code := match Go.Proofs.Try.f8.body with | some c => c | none => .skip
theorem fn8 : PP.funcs[8]? = some Go.Proofs.Try.f8 := Go.Proofs.Try.func8
theorem bodyEq8 : Go.Proofs.Try.f8.body = some body8 := rfl
def keep8 (i : Nat) : List Nat := (if i < 4 then (if i < 2 then (if i < 1 then [] else [1, 2, 3]) else (if i < 3 then [1, 2, 3, 5, 6] else [1, 2, 3, 5, 6, 8, 9])) else (if i < 6 then (if i < 5 then [1, 2, 3, 5, 6, 8, 9, 10, 11] else [1, 2, 3, 5, 6, 8, 9, 10, 11, 13, 14, 15]) else (if i < 7 then [1, 2, 3, 5, 6, 8, 9, 10, 11, 13, 14, 15, 19] else [0])))
def draw8 (i : Nat) : DrawInfo := ⟨[], [], []⟩
def cfg8 : Cfg := ⟨[2, 5, 8, 12, 14, 16, 18], keep8, draw8⟩
theorem ok8 : codeOK PP cfg8 Go.Proofs.Try.f8.ntmps body8 = true := by kernel_rfl
/-! ### 9 parterre/token.Next -/
noncomputable def body9 : Code := match Go.Proofs.Try.f9.body with | some c => c | none => .skip
theorem fn9 : PP.funcs[9]? = some Go.Proofs.Try.f9 := Go.Proofs.Try.func9
theorem bodyEq9 : Go.Proofs.Try.f9.body = some body9 := rfl
def keep9 (i : Nat) : List Nat := (if i < 13 then (if i < 6 then (if i < 3 then (if i < 1 then [0, 4, 5, 6, 8] else (if i < 2 then [0, 4, 5, 6, 8, 22] else [6, 7, 8, 9])) else (if i < 4 then [0, 4, 5, 6, 8, 10] else (if i < 5 then [0, 4, 5, 6, 8, 10, 11] else [0, 4, 5, 6, 8, 10, 11, 33]))) else (if i < 9 then (if i < 7 then [6, 7, 8, 9] else (if i < 8 then [0, 4, 5, 6, 8, 10, 11, 12] else [0, 4, 5, 6, 8, 10, 11, 12, 13])) else (if i < 11 then (if i < 10 then [0, 4, 5, 6, 8, 10, 11, 12, 13, 50] else [0, 4, 5, 6, 8, 10, 11, 12, 13, 50, 51]) else (if i < 12 then [0, 4, 6, 8, 10, 11, 12, 13, 50, 53] else [0, 4, 6, 8, 10, 11, 12, 13, 50, 55])))) else (if i < 19 then (if i < 16 then (if i < 14 then [0, 4, 6, 8, 10, 11, 12, 13, 57] else (if i < 15 then [5, 6, 8, 10, 12] else [6, 7, 8, 9])) else (if i < 17 then [0, 4, 6, 8, 10, 11, 12] else (if i < 18 then [0, 4, 6, 8, 10, 11, 12, 13] else [0, 4, 6, 8, 10, 11, 12, 13, 14]))) else (if i < 22 then (if i < 20 then [0, 4, 6, 8, 10, 11, 12] else (if i < 21 then [0, 4, 6, 8, 10, 11, 12, 13, 14] else [0, 4, 6, 8, 10, 11, 12, 13, 14])) else (if i < 24 then (if i < 23 then [0, 4, 6, 8, 10, 11, 12, 13, 99] else [6, 7, 8, 9]) else (if i < 25 then [6, 8, 11, 12, 13] else [6, 7, 8, 9])))))
def draw9 (i : Nat) : DrawInfo := if i = 2 then ⟨[], [0, 1, 2, 3, 4, 5, 6], [[], [], [], [0], [0, 1, 3], [0, 1, 2, 3, 4], [0, 1, 2, 3, 4, 5]]⟩ else if i = 7 then ⟨[7], [0, 1, 2, 3, 4, 5, 6, 8], [[], [0], [], [], [2, 3], [2, 3, 4], [0, 1, 2, 3, 4, 5], [], [0, 1, 2, 3, 4, 5, 6, 7]]⟩ else if i = 15 then ⟨[], [0, 1, 2, 3, 4, 5, 6, 7, 8, 9, 10], [[], [], [1], [], [3], [3, 4], [3, 4, 5], [0], [0, 1, 2, 7], [0, 1, 2, 3, 4, 5, 6, 7, 8], [0, 1, 2, 3, 4, 5, 6, 7, 8, 9]]⟩ else if i = 23 then ⟨[], [0, 1, 2, 3, 4, 5, 6, 7, 8], [[], [], [], [], [2, 3], [0, 2, 3, 4], [0, 1, 2, 3, 4, 5], [0, 1, 2, 3, 4, 5, 6], [0, 1, 2, 3, 4, 5, 6, 7]]⟩ else if i = 25 then ⟨[], [0, 1, 2, 3, 4, 5, 6, 7, 8], [[], [], [], [], [2, 3], [0, 2, 3, 4], [0, 1, 2, 3, 4, 5], [0, 1, 2, 3, 4, 5, 6], [0, 1, 2, 3, 4, 5, 6, 7]]⟩ else ⟨[], [], []⟩
def cfg9 : Cfg := ⟨[6, 8, 12], keep9, draw9⟩
theorem ok9 : codeOK PP cfg9 Go.Proofs.Try.f9.ntmps body9 = true := by kernel_rfl
/-! ### 10 parterre/parterreref2.Next -/
noncomputable def body10 : Code := match Go.Proofs.Try.f10.body with | some c => c | none => .skip
theorem fn10 : PP.funcs[10]? = some Go.Proofs.Try.f10 := Go.Proofs.Try.func10
theorem bodyEq10 : Go.Proofs.Try.f10.body = some body10 := rfl
def keep10 (i : Nat) : List Nat := (if i < 15 then (if i < 7 then (if i < 3 then (if i < 1 then [0, 1, 5, 6, 8] else (if i < 2 then [0, 1, 5, 6, 8, 24] else [6, 7, 8, 9])) else (if i < 5 then (if i < 4 then [0, 1, 5, 6, 8, 10] else [0, 1, 6, 8, 10, 11]) else (if i < 6 then [0, 1, 6, 8, 10, 11, 12] else [0, 1, 6, 8, 10, 11, 12, 41]))) else (if i < 11 then (if i < 9 then (if i < 8 then [6, 7, 8, 9] else [0, 1, 6, 8, 10, 11, 12, 49]) else (if i < 10 then [6, 8, 10, 11, 12] else [6, 7, 8, 9])) else (if i < 13 then (if i < 12 then [0, 1, 6, 8, 10, 11, 12, 13] else [0, 1, 6, 8, 10, 11, 12, 13, 66]) else (if i < 14 then [0, 1, 6, 8, 10, 11, 12, 13, 76] else [0, 1, 6, 8, 10, 11, 12, 13])))) else (if i < 23 then (if i < 19 then (if i < 17 then (if i < 16 then [0, 1, 6, 8, 10, 11, 12, 13] else [0, 1, 6, 8, 10, 11, 12, 13, 88]) else (if i < 18 then [0, 1, 6, 8, 10, 11, 12, 13] else [0, 1, 6, 8, 10, 11, 12, 13, 14])) else (if i < 21 then (if i < 20 then [0, 1, 6, 8, 10, 11, 12, 13, 14, 101] else [0, 1, 6, 8, 10, 11, 12, 13, 14]) else (if i < 22 then [0, 1, 6, 8, 10, 11, 12, 13, 106] else [6, 7, 8, 9]))) else (if i < 27 then (if i < 25 then (if i < 24 then [0, 1, 6, 8, 10, 11, 12, 13] else [0, 1, 6, 8, 10, 11, 12, 13, 15, 16]) else (if i < 26 then [0, 1, 6, 8, 10, 11, 12, 13, 15, 123] else [6, 7, 8, 9])) else (if i < 29 then (if i < 28 then [0, 1, 6, 8, 10, 11, 12, 13] else [1, 6, 8, 10, 11, 12, 13, 150]) else (if i < 30 then [6, 7, 8, 9] else [6, 7, 8, 9])))))
def draw10 (i : Nat) : DrawInfo := if i = 2 then ⟨[], [0, 1, 2, 3, 4, 5, 6], [[], [], [], [0], [0, 1, 3], [0, 1, 2, 3, 4], [0, 1, 2, 3, 4, 5]]⟩ else if i = 7 then ⟨[], [0, 1, 2, 3, 4, 5, 6], [[], [], [], [0], [0, 1, 3], [0, 1, 2, 3, 4], [0, 1, 2, 3, 4, 5]]⟩ else if i = 10 then ⟨[], [0, 1, 2, 3, 4, 5, 6, 7, 8, 9, 10], [[], [], [1], [], [3], [3, 4], [3, 4, 5], [0], [0, 1, 2, 7], [0, 1, 2, 3, 4, 5, 6, 7, 8], [0, 1, 2, 3, 4, 5, 6, 7, 8, 9]]⟩ else if i = 15 then ⟨[], [0, 1, 2, 3, 4, 5, 6, 7], [[], [], [], [0, 1, 2], [], [4], [0, 1, 2, 3, 4, 5], [0, 1, 2, 3, 4, 5, 6]]⟩ else if i = 22 then ⟨[], [0, 1, 2, 3, 4, 5, 6], [[], [], [], [0], [0, 1, 3], [0, 1, 2, 3, 4], [0, 1, 2, 3, 4, 5]]⟩ else if i = 23 then ⟨[], [0, 1, 2, 3, 4, 5, 6, 7], [[], [], [], [0, 1, 2], [], [4], [0, 1, 2, 3, 4, 5], [0, 1, 2, 3, 4, 5, 6]]⟩ else if i = 26 then ⟨[], [0, 1, 2, 3, 4, 5, 6], [[], [], [], [0], [0, 1, 3], [0, 1, 2, 3, 4], [0, 1, 2, 3, 4, 5]]⟩ else if i = 30 then ⟨[], [0, 1, 2, 3, 4, 5, 6, 7, 8, 9, 10], [[], [], [], [], [], [3, 4], [2, 3, 4, 5], [0, 2, 3, 4, 5, 6], [0, 1, 2, 3, 4, 5, 6, 7], [0, 1, 2, 3, 4, 5, 6, 7, 8], [0, 1, 2, 3, 4, 5, 6, 7, 8, 9]]⟩ else ⟨[], [], []⟩
def cfg10 : Cfg := ⟨[5, 6, 8, 11, 12], keep10, draw10⟩
theorem ok10 : codeOK PP cfg10 Go.Proofs.Try.f10.ntmps body10 = true := by kernel_rfl
/-! ### 11 parterre/token.All -/
noncomputable def body11 : Code := match Go.Proofs.Try.f11.body with | some c => c | none => .skip
theorem fn11 : PP.funcs[11]? = some Go.Proofs.Try.f11 := Go.Proofs.Try.func11
theorem bodyEq11 : Go.Proofs.Try.f11.body = some body11 := rfl
def keep11 (i : Nat) : List Nat := (if i < 6 then (if i < 3 then (if i < 1 then [0, 3] else (if i < 2 then [0, 3, 14] else [2, 3, 4])) else (if i < 4 then [0, 3, 5] else (if i < 5 then [0, 3, 5, 6, 7] else [0, 3, 5, 7, 8, 9, 10, 11]))) else (if i < 9 then (if i < 7 then [0, 3, 5, 7, 8, 9, 10, 11, 26] else (if i < 8 then [2, 3, 4] else [0, 3, 5, 7, 8, 9, 10, 11, 26, 30])) else (if i < 10 then [0, 3, 5, 6, 7] else (if i < 11 then [3, 5, 10, 11, 38] else [2, 3, 4]))))
def draw11 (i : Nat) : DrawInfo := if i = 9 then ⟨[], [0, 1, 4, 5, 2, 3, 6, 7, 8], [[], [], [1], [0, 1, 2], [], [], [0, 1, 2, 3], [0, 1, 2, 3, 4, 6], [0, 1, 2, 3, 4, 5, 6, 7]]⟩ else if i = 11 then ⟨[], [0, 1, 2, 3, 4], [[], [], [0], [0, 1, 2], [0, 1, 2, 3]]⟩ else if i = 7 then ⟨[], [0, 1, 2, 3, 4, 5], [[], [], [], [0], [0, 1, 3], [0, 1, 2, 3, 4]]⟩ else ⟨[], [], []⟩
def cfg11 : Cfg := ⟨[3, 7, 8, 10], keep11, draw11⟩
theorem ok11 : codeOK PP cfg11 Go.Proofs.Try.f11.ntmps body11 = true := by kernel_rfl
/-! ### 12 parterre/parterreref2.All -/
noncomputable def body12 : Code := match Go.Proofs.Try.f12.body with | some c => c | none => .skip
theorem fn12 : PP.funcs[12]? = some Go.Proofs.Try.f12 := Go.Proofs.Try.func12
theorem bodyEq12 : Go.Proofs.Try.f12.body = some body12 := rfl
def keep12 (i : Nat) : List Nat := (if i < 6 then (if i < 3 then (if i < 1 then [0, 3] else (if i < 2 then [0, 3, 14] else [2, 3, 4])) else (if i < 4 then [0, 3, 5] else (if i < 5 then [0, 3, 5, 6] else [0, 3, 5, 6, 7]))) else (if i < 9 then (if i < 7 then [0, 3, 5, 6, 8, 9, 10, 11] else (if i < 8 then [0, 3, 5, 6, 8, 9, 10, 11, 27] else [2, 3, 4])) else (if i < 11 then (if i < 10 then [0, 3, 5, 6, 8, 9, 10, 11, 31] else [2, 3, 4]) else (if i < 12 then [0, 3, 5, 6, 9, 10] else [0, 3, 5, 6, 7]))))
def draw12 (i : Nat) : DrawInfo := if i = 8 then ⟨[], [0, 1, 2, 3, 4], [[], [], [0], [0, 1, 2], [0, 1, 2, 3]]⟩ else if i = 10 then ⟨[], [0, 1, 2, 3, 4, 5], [[], [], [], [0], [0, 1, 3], [0, 1, 2, 3, 4]]⟩ else if i = 12 then ⟨[], [0, 1, 2, 3], [[], [], [0], [0, 1, 2]]⟩ else ⟨[], [], []⟩
def cfg12 : Cfg := ⟨[3, 6, 8, 10], keep12, draw12⟩
theorem ok12 : codeOK PP cfg12 Go.Proofs.Try.f12.ntmps body12 = true := by kernel_rfl
/-! ### 13 parterre/parterrelaw2.Same -/
noncomputable def body13 : Code := match Go.Proofs.Try.f13.body with | some c => c | none => .skip
theorem fn13 : PP.funcs[13]? = some Go.Proofs.Try.f13 := Go.Proofs.Try.func13
theorem bodyEq13 : Go.Proofs.Try.f13.body = some body13 := rfl
def keep13 (i : Nat) : List Nat := (if i < 4 then (if i < 2 then (if i < 1 then [0, 1] else [0, 1, 10]) else (if i < 3 then [4] else [0, 1, 5])) else (if i < 6 then (if i < 5 then [0, 1, 5, 14] else [0, 1, 5]) else (if i < 7 then [0, 1, 5, 25] else (if i < 8 then [4] else [4]))))
def draw13 (i : Nat) : DrawInfo := if i = 6 then ⟨[], [0, 1, 2, 3, 4, 5, 6, 7, 8], [[], [], [0, 1], [0, 1, 2], [], [], [4, 5], [4, 5, 6], [0, 1, 2, 3, 4, 5, 6, 7]]⟩ else ⟨[], [], []⟩
def cfg13 : Cfg := ⟨[], keep13, draw13⟩
theorem ok13 : codeOK PP cfg13 Go.Proofs.Try.f13.ntmps body13 = true := by kernel_rfl
/-! ### 14 parterre/token.Line -/
noncomputable def body14 : Code := match Go.Proofs.Try.f14.body with | some c => c | none => .skip
theorem fn14 : PP.funcs[14]? = some Go.Proofs.Try.f14 := Go.Proofs.Try.func14
theorem bodyEq14 : Go.Proofs.Try.f14.body = some body14 := rfl
def keep14 (i : Nat) : List Nat := (if i < 4 then (if i < 2 then (if i < 1 then [0, 1] else [0, 1, 14]) else (if i < 3 then [4, 5] else [0, 1, 6])) else (if i < 6 then (if i < 5 then [0, 1, 6, 20] else [0, 1, 6]) else (if i < 7 then [0, 1, 6, 28] else (if i < 8 then [4, 5] else [4, 5]))))
def draw14 (i : Nat) : DrawInfo := ⟨[], [], []⟩
def cfg14 : Cfg := ⟨[], keep14, draw14⟩
theorem ok14 : codeOK PP cfg14 Go.Proofs.Try.f14.ntmps body14 = true := by kernel_rfl
/-! ### 15 parterre/parterreref2.Line -/
noncomputable def body15 : Code := match Go.Proofs.Try.f15.body with | some c => c | none => .skip
theorem fn15 : PP.funcs[15]? = some Go.Proofs.Try.f15 := Go.Proofs.Try.func15
theorem bodyEq15 : Go.Proofs.Try.f15.body = some body15 := rfl
def keep15 (i : Nat) : List Nat := (if i < 3 then (if i < 1 then [0, 1] else (if i < 2 then [0, 1, 14] else [4, 5])) else (if i < 5 then (if i < 4 then [0, 1, 6] else [0, 1, 6, 28]) else (if i < 6 then [0, 1, 6] else [4, 5])))
def draw15 (i : Nat) : DrawInfo := ⟨[], [], []⟩
def cfg15 : Cfg := ⟨[], keep15, draw15⟩
theorem ok15 : codeOK PP cfg15 Go.Proofs.Try.f15.ntmps body15 = true := by kernel_rfl
/-! ### 16 parterre/parterrelaw2.Text -/
noncomputable def body16 : Code := match Go.Proofs.Try.f16.body with | some c => c | none => .skip
theorem fn16 : PP.funcs[16]? = some Go.Proofs.Try.f16 := Go.Proofs.Try.func16
theorem bodyEq16 : Go.Proofs.Try.f16.body = some body16 := rfl
def keep16 (i : Nat) : List Nat := (if i < 4 then (if i < 2 then (if i < 1 then [0, 1] else [0, 1, 5]) else (if i < 3 then [0, 1, 5, 6] else [0, 1, 5, 6, 7])) else (if i < 6 then (if i < 5 then [0, 1, 5, 6, 7, 17] else [0, 1, 5, 6, 7]) else (if i < 7 then [0, 1, 5, 6, 7] else [4])))
def draw16 (i : Nat) : DrawInfo := ⟨[], [], []⟩
def cfg16 : Cfg := ⟨[], keep16, draw16⟩
theorem ok16 : codeOK PP cfg16 Go.Proofs.Try.f16.ntmps body16 = true := by kernel_rfl
/-! ### 17 parterre/parterreref2.Decimal -/
noncomputable def body17 : Code := match Go.Proofs.Try.f17.body with | some c => c | none => .skip
theorem fn17 : PP.funcs[17]? = some Go.Proofs.Try.f17 := Go.Proofs.Try.func17
theorem bodyEq17 : Go.Proofs.Try.f17.body = some body17 := rfl
def keep17 (i : Nat) : List Nat := (if i < 2 then (if i < 1 then [0] else [0, 4]) else (if i < 3 then [2] else [2]))
def draw17 (i : Nat) : DrawInfo := ⟨[], [], []⟩
def cfg17 : Cfg := ⟨[], keep17, draw17⟩
theorem ok17 : codeOK PP cfg17 Go.Proofs.Try.f17.ntmps body17 = true := by kernel_rfl
/-! ### 18 parterre/token.skip -/
noncomputable def body18 : Code := match Go.Proofs.Try.f18.body with | some c => c | none => .skip
theorem fn18 : PP.funcs[18]? = some Go.Proofs.Try.f18 := Go.Proofs.Try.func18
theorem bodyEq18 : Go.Proofs.Try.f18.body = some body18 := rfl
def keep18 (i : Nat) : List Nat := (if i < 5 then (if i < 2 then (if i < 1 then [0, 1] else [0, 1, 8]) else (if i < 3 then [0, 1, 12] else (if i < 4 then [4] else [0, 1, 12, 14]))) else (if i < 7 then (if i < 6 then [0, 1] else [0, 1, 18]) else (if i < 8 then [0, 1, 29] else (if i < 9 then [0, 1] else [4]))))
def draw18 (i : Nat) : DrawInfo := ⟨[], [], []⟩
def cfg18 : Cfg := ⟨[], keep18, draw18⟩
theorem ok18 : codeOK PP cfg18 Go.Proofs.Try.f18.ntmps body18 = true := by kernel_rfl
/-! ### 19 parterre/token.Next$1 -/
noncomputable def body19 : Code := match Go.Proofs.Try.f19.body with | some c => c | none => .skip
theorem fn19 : PP.funcs[19]? = some Go.Proofs.Try.f19 := Go.Proofs.Try.func19
theorem bodyEq19 : Go.Proofs.Try.f19.body = some body19 := rfl
def keep19 (i : Nat) : List Nat := (if i < 1 then [0, 1, 2, 4] else [4])
def draw19 (i : Nat) : DrawInfo := ⟨[], [], []⟩
def cfg19 : Cfg := ⟨[4], keep19, draw19⟩
theorem ok19 : codeOK PP cfg19 Go.Proofs.Try.f19.ntmps body19 = true := by kernel_rfl
/-! ### 20 parterre/token.kind -/
noncomputable def body20 : Code := match Go.Proofs.Try.f20.body with | some c => c | none => .skip
theorem fn20 : PP.funcs[20]? = some Go.Proofs.Try.f20 := Go.Proofs.Try.func20
theorem bodyEq20 : Go.Proofs.Try.f20.body = some body20 := rfl
def keep20 (i : Nat) : List Nat := (if i < 8 then (if i < 4 then (if i < 2 then (if i < 1 then [0] else [0, 3]) else (if i < 3 then [0, 3, 4] else [0, 3, 6])) else (if i < 6 then (if i < 5 then [0, 3, 8] else [0, 3, 10]) else (if i < 7 then [0, 3, 12] else [0, 14]))) else (if i < 12 then (if i < 10 then (if i < 9 then [2] else [2]) else (if i < 11 then [2] else [2])) else (if i < 14 then (if i < 13 then [0, 16] else [2]) else (if i < 15 then [23] else (if i < 16 then [2] else [2])))))
def draw20 (i : Nat) : DrawInfo := ⟨[], [], []⟩
def cfg20 : Cfg := ⟨[], keep20, draw20⟩
theorem ok20 : codeOK PP cfg20 Go.Proofs.Try.f20.ntmps body20 = true := by kernel_rfl
/-! ### 21 parterre/token.run -/
noncomputable def body21 : Code := match Go.Proofs.Try.f21.body with | some c => c | none => .skip
theorem fn21 : PP.funcs[21]? = some Go.Proofs.Try.f21 := Go.Proofs.Try.func21
theorem bodyEq21 : Go.Proofs.Try.f21.body = some body21 := rfl
def keep21 (i : Nat) : List Nat := (if i < 2 then (if i < 1 then [0, 1, 2] else [0, 1, 2, 18]) else (if i < 3 then [0, 1, 2] else [6]))
def draw21 (i : Nat) : DrawInfo := ⟨[], [], []⟩
def cfg21 : Cfg := ⟨[], keep21, draw21⟩
theorem ok21 : codeOK PP cfg21 Go.Proofs.Try.f21.ntmps body21 = true := by kernel_rfl
/-! ### 22 parterre/token.number -/
noncomputable def body22 : Code := match Go.Proofs.Try.f22.body with | some c => c | none => .skip
theorem fn22 : PP.funcs[22]? = some Go.Proofs.Try.f22 := Go.Proofs.Try.func22
theorem bodyEq22 : Go.Proofs.Try.f22.body = some body22 := rfl
def keep22 (i : Nat) : List Nat := (if i < 7 then (if i < 3 then (if i < 1 then [0, 1] else (if i < 2 then [0, 1, 7] else [0, 1, 7, 16])) else (if i < 5 then (if i < 4 then [0, 1, 7] else [0, 1, 7, 8]) else (if i < 6 then [0, 1, 7, 8, 9] else [0, 1, 7, 8, 9, 26]))) else (if i < 11 then (if i < 9 then (if i < 8 then [0, 1, 7, 8, 9, 26, 27, 28] else [0, 1, 7, 8, 9, 11, 26]) else (if i < 10 then [0, 1, 7, 8, 9, 26] else [0, 1, 7, 8, 9, 39])) else (if i < 13 then (if i < 12 then [0, 1, 7, 8, 9] else [0, 1, 8, 9, 52]) else (if i < 14 then [4, 5, 6] else [4, 5, 6]))))
def draw22 (i : Nat) : DrawInfo := ⟨[], [], []⟩
def cfg22 : Cfg := ⟨[], keep22, draw22⟩
theorem ok22 : codeOK PP cfg22 Go.Proofs.Try.f22.ntmps body22 = true := by kernel_rfl
/-! ### 23 parterre/parterreref2.skip -/
noncomputable def body23 : Code := match Go.Proofs.Try.f23.body with | some c => c | none => .skip
theorem fn23 : PP.funcs[23]? = some Go.Proofs.Try.f23 := Go.Proofs.Try.func23
theorem bodyEq23 : Go.Proofs.Try.f23.body = some body23 := rfl
def keep23 (i : Nat) : List Nat := (if i < 3 then (if i < 1 then [0, 1] else (if i < 2 then [0, 1, 14] else [0, 1])) else (if i < 5 then (if i < 4 then [0, 1, 26] else [0, 1, 36]) else (if i < 6 then [0, 1] else [4])))
def draw23 (i : Nat) : DrawInfo := ⟨[], [], []⟩
def cfg23 : Cfg := ⟨[], keep23, draw23⟩
theorem ok23 : codeOK PP cfg23 Go.Proofs.Try.f23.ntmps body23 = true := by kernel_rfl
/-! ### 24 parterre/parterreref2.move -/
noncomputable def body24 : Code := match Go.Proofs.Try.f24.body with | some c => c | none => .skip
theorem fn24 : PP.funcs[24]? = some Go.Proofs.Try.f24 := Go.Proofs.Try.func24
theorem bodyEq24 : Go.Proofs.Try.f24.body = some body24 := rfl
def keep24 (i : Nat) : List Nat := (if i < 1 then [1, 2, 4] else [4])
def draw24 (i : Nat) : DrawInfo := ⟨[], [], []⟩
def cfg24 : Cfg := ⟨[2, 4], keep24, draw24⟩
theorem ok24 : codeOK PP cfg24 Go.Proofs.Try.f24.ntmps body24 = true := by kernel_rfl
/-! ### 25 parterre/parterreref2.letter -/
noncomputable def body25 : Code := match Go.Proofs.Try.f25.body with | some c => c | none => .skip
theorem fn25 : PP.funcs[25]? = some Go.Proofs.Try.f25 := Go.Proofs.Try.func25
theorem bodyEq25 : Go.Proofs.Try.f25.body = some body25 := rfl
def keep25 (i : Nat) : List Nat := (if i < 1 then [0] else [2])
def draw25 (i : Nat) : DrawInfo := ⟨[], [], []⟩
def cfg25 : Cfg := ⟨[], keep25, draw25⟩
theorem ok25 : codeOK PP cfg25 Go.Proofs.Try.f25.ntmps body25 = true := by kernel_rfl
/-! ### 26 parterre/parterreref2.digit -/
noncomputable def body26 : Code := match Go.Proofs.Try.f26.body with | some c => c | none => .skip
theorem fn26 : PP.funcs[26]? = some Go.Proofs.Try.f26 := Go.Proofs.Try.func26
theorem bodyEq26 : Go.Proofs.Try.f26.body = some body26 := rfl
def keep26 (i : Nat) : List Nat := (if i < 1 then [0] else [2])
def draw26 (i : Nat) : DrawInfo := ⟨[], [], []⟩
def cfg26 : Cfg := ⟨[], keep26, draw26⟩
theorem ok26 : codeOK PP cfg26 Go.Proofs.Try.f26.ntmps body26 = true := by kernel_rfl
/-! ### 27 parterre/parterreref2.number -/
noncomputable def body27 : Code := match Go.Proofs.Try.f27.body with | some c => c | none => .skip
theorem fn27 : PP.funcs[27]? = some Go.Proofs.Try.f27 := Go.Proofs.Try.func27
theorem bodyEq27 : Go.Proofs.Try.f27.body = some body27 := rfl
def keep27 (i : Nat) : List Nat := (if i < 5 then (if i < 2 then (if i < 1 then [0] else [0, 4]) else (if i < 3 then [0, 4, 5] else (if i < 4 then [0, 4, 5, 6] else [0, 4, 5, 6, 13]))) else (if i < 8 then (if i < 6 then [0, 4, 5, 6] else (if i < 7 then [0, 4, 5, 6, 19] else [0, 4, 5, 6])) else (if i < 9 then [4, 29] else (if i < 10 then [4] else [2, 3]))))
def draw27 (i : Nat) : DrawInfo := ⟨[], [], []⟩
def cfg27 : Cfg := ⟨[], keep27, draw27⟩
theorem ok27 : codeOK PP cfg27 Go.Proofs.Try.f27.ntmps body27 = true := by kernel_rfl
/-! ### 28 parterre/parterreref2.digits -/
noncomputable def body28 : Code := match Go.Proofs.Try.f28.body with | some c => c | none => .skip
theorem fn28 : PP.funcs[28]? = some Go.Proofs.Try.f28 := Go.Proofs.Try.func28
theorem bodyEq28 : Go.Proofs.Try.f28.body = some body28 := rfl
def keep28 (i : Nat) : List Nat := (if i < 3 then (if i < 1 then [0] else (if i < 2 then [0, 3] else [0, 3, 5])) else (if i < 4 then [0, 3] else (if i < 5 then [0, 3] else [2])))
def draw28 (i : Nat) : DrawInfo := ⟨[], [], []⟩
def cfg28 : Cfg := ⟨[], keep28, draw28⟩
theorem ok28 : codeOK PP cfg28 Go.Proofs.Try.f28.ntmps body28 = true := by kernel_rfl
/-! ### 29 parterre/parterreref2.blank -/
noncomputable def body29 : Code := match Go.Proofs.Try.f29.body with | some c => c | none => .skip
theorem fn29 : PP.funcs[29]? = some Go.Proofs.Try.f29 := Go.Proofs.Try.func29
theorem bodyEq29 : Go.Proofs.Try.f29.body = some body29 := rfl
def keep29 (i : Nat) : List Nat := (if i < 1 then [0] else [2])
def draw29 (i : Nat) : DrawInfo := ⟨[], [], []⟩
def cfg29 : Cfg := ⟨[], keep29, draw29⟩
theorem ok29 : codeOK PP cfg29 Go.Proofs.Try.f29.ntmps body29 = true := by kernel_rfl
/-! ### types -/
theorem un3 : PP.underlying 3 = some (Go.TypeDesc.int Go.IntKind.i64) := by kernel_rfl
theorem sz3 : szT PP 3 = some 1 := by kernel_rfl
theorem co3 : PP.cellsOf 3 = 1 := by kernel_rfl
theorem by3 : bytesT PP 3 = some 8 := by kernel_rfl
theorem ag3 : aggT PP 3 = some false := by kernel_rfl
theorem ze3 : zeroT PP 3 = some [(Go.Value.int Go.IntKind.i64 0)] := by kernel_rfl
theorem un4 : PP.underlying 4 = some Go.TypeDesc.bool := by kernel_rfl
theorem sz4 : szT PP 4 = some 1 := by kernel_rfl
theorem co4 : PP.cellsOf 4 = 1 := by kernel_rfl
theorem by4 : bytesT PP 4 = some 1 := by kernel_rfl
theorem ag4 : aggT PP 4 = some false := by kernel_rfl
theorem ze4 : zeroT PP 4 = some [(Go.Value.bool false)] := by kernel_rfl
theorem un5 : PP.underlying 5 = some (Go.TypeDesc.int Go.IntKind.u8) := by kernel_rfl
theorem sz5 : szT PP 5 = some 1 := by kernel_rfl
theorem co5 : PP.cellsOf 5 = 1 := by kernel_rfl
theorem by5 : bytesT PP 5 = some 1 := by kernel_rfl
theorem ag5 : aggT PP 5 = some false := by kernel_rfl
theorem ze5 : zeroT PP 5 = some [(Go.Value.int Go.IntKind.u8 0)] := by kernel_rfl
theorem un9 : PP.underlying 9 = some Go.TypeDesc.string := by kernel_rfl
theorem sz9 : szT PP 9 = some 1 := by kernel_rfl
theorem co9 : PP.cellsOf 9 = 1 := by kernel_rfl
theorem by9 : bytesT PP 9 = some 16 := by kernel_rfl
theorem ag9 : aggT PP 9 = some false := by kernel_rfl
theorem ze9 : zeroT PP 9 = some [(Go.Value.string { data := #[] })] := by kernel_rfl
theorem un21 : PP.underlying 21 = some (Go.TypeDesc.int Go.IntKind.i32) := by kernel_rfl
theorem sz21 : szT PP 21 = some 1 := by kernel_rfl
theorem co21 : PP.cellsOf 21 = 1 := by kernel_rfl
theorem by21 : bytesT PP 21 = some 4 := by kernel_rfl
theorem ag21 : aggT PP 21 = some false := by kernel_rfl
theorem ze21 : zeroT PP 21 = some [(Go.Value.int Go.IntKind.i32 0)] := by kernel_rfl
theorem un22 : PP.underlying 22 = some (Go.TypeDesc.slice 3) := by kernel_rfl
theorem sz22 : szT PP 22 = some 1 := by kernel_rfl
theorem co22 : PP.cellsOf 22 = 1 := by kernel_rfl
theorem by22 : bytesT PP 22 = some 24 := by kernel_rfl
theorem ag22 : aggT PP 22 = some false := by kernel_rfl
theorem ze22 : zeroT PP 22 = some [(Go.Value.slice none 0 0)] := by kernel_rfl
theorem el22 : elemT PP 22 = some (3, 1) := by kernel_rfl
theorem un25 : PP.underlying 25 = some (Go.TypeDesc.struct #[{ name := "Line", type := 3, offset := 0, embedded := false, tag := "", pkgPath := "", byteOffset := 0 }, { name := "Col", type := 3, offset := 1, embedded := false, tag := "", pkgPath := "", byteOffset := 8 }]) := by kernel_rfl
theorem sz25 : szT PP 25 = some 2 := by kernel_rfl
theorem co25 : PP.cellsOf 25 = 2 := by kernel_rfl
theorem by25 : bytesT PP 25 = some 16 := by kernel_rfl
theorem ag25 : aggT PP 25 = some true := by kernel_rfl
theorem ze25 : zeroT PP 25 = some [(Go.Value.int Go.IntKind.i64 0), (Go.Value.int Go.IntKind.i64 0)] := by kernel_rfl
theorem gt25 : PP.eqGuardType PP.depth 25 = false := by kernel_rfl
theorem st25 : PP.stoodInHeld 25 = false := by kernel_rfl
theorem of25x0 : offT PP 25 0 = some (0, 3, 1) := by kernel_rfl
theorem of25x1 : offT PP 25 1 = some (1, 3, 1) := by kernel_rfl
theorem pl25 : placesT PP #[{ name := "Line", type := 3, offset := 0, embedded := false, tag := "", pkgPath := "", byteOffset := 0 }, { name := "Col", type := 3, offset := 1, embedded := false, tag := "", pkgPath := "", byteOffset := 8 }].toList = some [(0, 1), (1, 1)] := by kernel_rfl
theorem bu25 (σ : St) (parts : Array (Nat × Operand)) : opBuild PP σ 25 parts = (match partsA σ parts.toList with | some ps => (match fillL (fun i => ([(0, 1), (1, 1)] : List (Nat × Nat))[i]?) [(Go.Value.int Go.IntKind.i64 0), (Go.Value.int Go.IntKind.i64 0)] ps with | some out => some (.agg ⟨out⟩, σ) | none => none) | none => none) := by
  unfold opBuild; rw [un25]; simp only []; rw [pl25, ze25]; cases partsA σ parts.toList <;> rfl
theorem un27 : PP.underlying 27 = some (Go.TypeDesc.struct #[{ name := "Kind", type := 3, offset := 0, embedded := false, tag := "", pkgPath := "", byteOffset := 0 }, { name := "N", type := 3, offset := 1, embedded := false, tag := "", pkgPath := "", byteOffset := 8 }, { name := "Line", type := 3, offset := 2, embedded := false, tag := "", pkgPath := "", byteOffset := 16 }, { name := "Col", type := 3, offset := 3, embedded := false, tag := "", pkgPath := "", byteOffset := 24 }, { name := "Text", type := 9, offset := 4, embedded := false, tag := "", pkgPath := "", byteOffset := 32 }]) := by kernel_rfl
theorem sz27 : szT PP 27 = some 5 := by kernel_rfl
theorem co27 : PP.cellsOf 27 = 5 := by kernel_rfl
theorem by27 : bytesT PP 27 = some 48 := by kernel_rfl
theorem ag27 : aggT PP 27 = some true := by kernel_rfl
theorem ze27 : zeroT PP 27 = some [(Go.Value.int Go.IntKind.i64 0), (Go.Value.int Go.IntKind.i64 0), (Go.Value.int Go.IntKind.i64 0), (Go.Value.int Go.IntKind.i64 0), (Go.Value.string { data := #[] })] := by kernel_rfl
theorem gt27 : PP.eqGuardType PP.depth 27 = false := by kernel_rfl
theorem st27 : PP.stoodInHeld 27 = false := by kernel_rfl
theorem of27x0 : offT PP 27 0 = some (0, 3, 1) := by kernel_rfl
theorem of27x1 : offT PP 27 1 = some (1, 3, 1) := by kernel_rfl
theorem of27x2 : offT PP 27 2 = some (2, 3, 1) := by kernel_rfl
theorem of27x3 : offT PP 27 3 = some (3, 3, 1) := by kernel_rfl
theorem of27x4 : offT PP 27 4 = some (4, 9, 1) := by kernel_rfl
theorem pl27 : placesT PP #[{ name := "Kind", type := 3, offset := 0, embedded := false, tag := "", pkgPath := "", byteOffset := 0 }, { name := "N", type := 3, offset := 1, embedded := false, tag := "", pkgPath := "", byteOffset := 8 }, { name := "Line", type := 3, offset := 2, embedded := false, tag := "", pkgPath := "", byteOffset := 16 }, { name := "Col", type := 3, offset := 3, embedded := false, tag := "", pkgPath := "", byteOffset := 24 }, { name := "Text", type := 9, offset := 4, embedded := false, tag := "", pkgPath := "", byteOffset := 32 }].toList = some [(0, 1), (1, 1), (2, 1), (3, 1), (4, 1)] := by kernel_rfl
theorem bu27 (σ : St) (parts : Array (Nat × Operand)) : opBuild PP σ 27 parts = (match partsA σ parts.toList with | some ps => (match fillL (fun i => ([(0, 1), (1, 1), (2, 1), (3, 1), (4, 1)] : List (Nat × Nat))[i]?) [(Go.Value.int Go.IntKind.i64 0), (Go.Value.int Go.IntKind.i64 0), (Go.Value.int Go.IntKind.i64 0), (Go.Value.int Go.IntKind.i64 0), (Go.Value.string { data := #[] })] ps with | some out => some (.agg ⟨out⟩, σ) | none => none) | none => none) := by
  unfold opBuild; rw [un27]; simp only []; rw [pl27, ze27]; cases partsA σ parts.toList <;> rfl
theorem un30 : PP.underlying 30 = some (Go.TypeDesc.slice 27) := by kernel_rfl
theorem sz30 : szT PP 30 = some 1 := by kernel_rfl
theorem co30 : PP.cellsOf 30 = 1 := by kernel_rfl
theorem by30 : bytesT PP 30 = some 24 := by kernel_rfl
theorem ag30 : aggT PP 30 = some false := by kernel_rfl
theorem ze30 : zeroT PP 30 = some [(Go.Value.slice none 0 0)] := by kernel_rfl
theorem el30 : elemT PP 30 = some (27, 5) := by kernel_rfl
theorem un37 : PP.underlying 37 = some (Go.TypeDesc.int Go.IntKind.u64) := by kernel_rfl
theorem sz37 : szT PP 37 = some 1 := by kernel_rfl
theorem co37 : PP.cellsOf 37 = 1 := by kernel_rfl
theorem by37 : bytesT PP 37 = some 8 := by kernel_rfl
theorem ag37 : aggT PP 37 = some false := by kernel_rfl
theorem ze37 : zeroT PP 37 = some [(Go.Value.int Go.IntKind.u64 0)] := by kernel_rfl
theorem un42 : PP.underlying 42 = some (Go.TypeDesc.slice 9) := by kernel_rfl
theorem sz42 : szT PP 42 = some 1 := by kernel_rfl
theorem co42 : PP.cellsOf 42 = 1 := by kernel_rfl
theorem by42 : bytesT PP 42 = some 24 := by kernel_rfl
theorem ag42 : aggT PP 42 = some false := by kernel_rfl
theorem ze42 : zeroT PP 42 = some [(Go.Value.slice none 0 0)] := by kernel_rfl
theorem el42 : elemT PP 42 = some (9, 1) := by kernel_rfl
theorem un55 : PP.underlying 55 = some (Go.TypeDesc.int Go.IntKind.u64) := by kernel_rfl
theorem sz55 : szT PP 55 = some 1 := by kernel_rfl
theorem co55 : PP.cellsOf 55 = 1 := by kernel_rfl
theorem by55 : bytesT PP 55 = some 8 := by kernel_rfl
theorem ag55 : aggT PP 55 = some false := by kernel_rfl
theorem ze55 : zeroT PP 55 = some [(Go.Value.int Go.IntKind.u64 0)] := by kernel_rfl
attribute [irreducible] PP
attribute [simp] un3 sz3 co3 by3 ag3 ze3 un4 sz4 co4 by4 ag4 ze4 un5 sz5 co5 by5 ag5 ze5 un9 sz9 co9 by9 ag9 ze9 un21 sz21 co21 by21 ag21 ze21 un22 sz22 co22 by22 ag22 ze22 el22 un25 sz25 co25 by25 ag25 ze25 gt25 st25 of25x0 of25x1 bu25 un27 sz27 co27 by27 ag27 ze27 gt27 st27 of27x0 of27x1 of27x2 of27x3 of27x4 bu27 un30 sz30 co30 by30 ag30 ze30 el30 un37 sz37 co37 by37 ag37 ze37 un42 sz42 co42 by42 ag42 ze42 el42 un55 sz55 co55 by55 ag55 ze55 keep3 cfg3 draw3 keep4 cfg4 draw4 keep5 cfg5 draw5 keep6 cfg6 draw6 keep7 cfg7 draw7 keep8 cfg8 draw8 keep9 cfg9 draw9 keep10 cfg10 draw10 keep11 cfg11 draw11 keep12 cfg12 draw12 keep13 cfg13 draw13 keep14 cfg14 draw14 keep15 cfg15 draw15 keep16 cfg16 draw16 keep17 cfg17 draw17 keep18 cfg18 draw18 keep19 cfg19 draw19 keep20 cfg20 draw20 keep21 cfg21 draw21 keep22 cfg22 draw22 keep23 cfg23 draw23 keep24 cfg24 draw24 keep25 cfg25 draw25 keep26 cfg26 draw26 keep27 cfg27 draw27 keep28 cfg28 draw28 keep29 cfg29 draw29
end Go.Proofs.Ytf

import Derived.Test.YtbcdmljanolkeaaGreatDoorMb
import Derived.KernelRfl
import Derived.Shelf.Strconv.Itoa3
import Derived.Shelf.Strings.OnBuilder
import Derived.Test.YtbcdmljanolkeaaGreatDoorProg
import Derived.WalkKit
import Derived.LaidEql
import Derived.Stop.Asserts
import Derived.RowKitTokens
import Derived.Sort.Grow
import Derived.Deep.Draws
import Derived.Deep.Slices
import Derived.Deep.Fields
import Derived.Test.YtbcdmljanolkeaaGreatDoorRows
import Derived.LaidLaws
import Derived.LaidHandle
import Derived.LaidSub
import Derived.Stop.LaidErr
import Derived.Lib.LaidTab
import Derived.SizedLaws
import Derived.ChangeSlices
set_option linter.unusedVariables false
set_option linter.unusedSimpArgs false
set_option linter.unusedSectionVars false
set_option linter.constructorNameAsVariable false
set_option maxRecDepth 20000
namespace Go.Proofs.Ybk
open Go Go.Am
noncomputable def vH:Code:=match Tryz.f157.body with|some c=>c|none=>.skip
theorem abp:PP.funcs[157]? =some Tryz.f157:=by kernel_rfl
theorem Vx:Tryz.f157.body=some vH:=rfl
def LI (i:Nat):List Nat:=if i<3 then if i<1 then[0,1]else if i<2 then[0,1,5]else[4]else if i<4 then[0,1,9]else if i<5 then[4]else[4]
def GO (i:Nat):ao:=⟨[],[],[],[]⟩
def CK:au:=⟨[],LI,GO⟩
theorem aiE:av PP CK Tryz.f157.ntmps vH=true:=by kernel_rfl
noncomputable def vI:Code:=match Tryz.f158.body with|some c=>c|none=>.skip
theorem abq:PP.funcs[158]? =some Tryz.f158:=by kernel_rfl
theorem Vy:Tryz.f158.body=some vI:=rfl
def LJ (i:Nat):List Nat:=if i<4 then if i<2 then if i<1 then[0,1]else[0,1,14]else if i<3 then[4,5]else[0,1,6]else if i<6 then if i<5 then[0,1,6,20]else[0,1,6]else if i<7 then[0,1,6,28]else if i<8 then[4,5]else[4,5]
def GP (i:Nat):ao:=⟨[],[],[],[]⟩
def CL:au:=⟨[],LJ,GP⟩
theorem aiF:av PP CL Tryz.f158.ntmps vI=true:=by kernel_rfl
noncomputable def vJ:Code:=match Tryz.f159.body with|some c=>c|none=>.skip
theorem abr:PP.funcs[159]? =some Tryz.f159:=by kernel_rfl
theorem Vz:Tryz.f159.body=some vJ:=rfl
def LK (i:Nat):List Nat:=if i<1 then[1,2]else[2]
def GQ (i:Nat):ao:=⟨[],[],[],[]⟩
def CM:au:=⟨[1,2],LK,GQ⟩
theorem aiG:av PP CM Tryz.f159.ntmps vJ=true:=by kernel_rfl
noncomputable def vL:Code:=match Tryz.f160.body with|some c=>c|none=>.skip
theorem abu:PP.funcs[160]? =some Tryz.f160:=by kernel_rfl
theorem VB:Tryz.f160.body=some vL:=rfl
def LM (i:Nat):List Nat:=if i<11 then if i<5 then if i<2 then if i<1 then[0,3]else[0,3,6,7]else if i<3 then[0,3,6,28]else if i<4 then[4,5]else[0,3,6,8]else if i<8 then if i<6 then[0,3,6,8,35,36]else if i<7 then[0,3,6,8,35,36,37]else[0,3,6,8,9,35,36]else if i<9 then[0,3,6,8,9,35,36,39]else if i<10 then[4,5]else[0,3,6,8,9,35,36,47]else if i<17 then if i<14 then if i<12 then[4,5]else if i<13 then[0,3,6,8,35,36]else[0,3,6,8,35,36]else if i<15 then[0,6,8,77]else if i<16 then[4,5]else[0,8,86,87,88]else if i<20 then if i<18 then[0,8,86,87,88,89]else if i<19 then[0,8,10,11,86,87,88]else[0,8,10,86,87,88,99]else if i<21 then[4,5]else if i<22 then[0,8,86,87,88]else[4,5]
def GS (i:Nat):ao:=⟨[],[],[],[]⟩
def CO:au:=⟨[3],LM,GS⟩
theorem aiI:av PP CO Tryz.f160.ntmps vL=true:=by kernel_rfl
noncomputable def vM:Code:=match Tryz.f161.body with|some c=>c|none=>.skip
theorem abv:PP.funcs[161]? =some Tryz.f161:=by kernel_rfl
theorem VC:Tryz.f161.body=some vM:=rfl
def LO (i:Nat):List Nat:=if i<12 then if i<6 then if i<3 then if i<1 then[0,1,2]else if i<2 then[0,1,2,13]else[0,1,2,7]else if i<4 then[0,1,2,7,9]else if i<5 then[0,1,2,7,30]else[6]else if i<9 then if i<7 then[0,1,2]else if i<8 then[0]else[6]else if i<10 then[0,1,2,13,75]else if i<11 then[0,2,82]else[6]else if i<18 then if i<15 then if i<13 then[]else if i<14 then[0,1,2,13,90]else[0,2,95]else if i<16 then[6]else if i<17 then[]else[0,1,2,13,106]else if i<21 then if i<19 then[0]else if i<20 then[6]else[0,1,2,139]else if i<22 then[0]else if i<23 then[6]else[6]
def GU (i:Nat):ao:=if i=18 then⟨[],[0,1,2,3,4,5,6,7,8,9,10,11,12,13,14,16,17,18,15,19,20,21,22,23,24,25],[[],[],[1],[1,2],[1,2,3],[],[5],[5,6],[],[8],[8,9],[5,6,7,8,9,10],[],[12],[12,13],[12,13,14],[],[16],[16,17],[12,13,14,15,16,17,18],[5,6,7,8,9,10,11,12,13,14,15,16,17,18,19],[5,6,7,8,9,10,11,12,13,14,15,16,17,18,19,20],[1,2,3,4,5,6,7,8,9,10,11,12,13,14,15,16,17,18,19,20,21],[0,1,2,3,4,5,6,7,8,9,10,11,12,13,14,15,16,17,18,19,20,21,22],[0,1,2,3,4,5,6,7,8,9,10,11,12,13,14,15,16,17,18,19,20,21,22,23],[0,1,2,3,4,5,6,7,8,9,10,11,12,13,14,15,16,17,18,19,20,21,22,23,24]],[]⟩else if i=21 then⟨[],[0,1,2,3,4,5,6,7,8,9,10,11,12,13,14,15,16,17,18,19,20,21],[[],[],[1],[1,2],[1,2,3],[1,2,3,4],[],[6],[6,7],[],[9],[9,10],[],[12],[12,13],[6,7,8,9,10,11,12,13,14],[6,7,8,9,10,11,12,13,14,15],[1,2,3,4,5,6,7,8,9,10,11,12,13,14,15,16],[0,1,2,3,4,5,6,7,8,9,10,11,12,13,14,15,16,17],[0,1,2,3,4,5,6,7,8,9,10,11,12,13,14,15,16,17,18],[0,1,2,3,4,5,6,7,8,9,10,11,12,13,14,15,16,17,18,19],[0,1,2,3,4,5,6,7,8,9,10,11,12,13,14,15,16,17,18,19,20]],[]⟩else if i=2 then⟨[7],[0,1,2,3,4,5,6,8],[[],[0],[0,1],[],[3],[3,4],[0,1,2,3,4,5],[],[0,1,2,3,4,5,6,7]],[]⟩else if i=3 then⟨[],[0,1,2,3,4,5,6,7,8,9,10],[[],[0],[0,1],[0,1,2],[],[0,1,2,3,4],[0,1,2,3,4,5],[0,1,2,3,4,5,6],[0,1,2,3,4,5,6],[0,1,2,3,4,5,6,7],[0,1,2,3,4,5,6,7,8,9]],[]⟩else if i=6 then⟨[],[0,1,2,3,4,5,6,7,8,9,10,11],[[],[0],[0,1],[0,1,2],[],[],[5],[5,6],[5,6,7],[5,6,7,8],[5,6,7,8,9],[0,1,2,3,4,5,6,7,8,9,10]],[]⟩else if i=7 then⟨[],[0,1,2,3,4,5,6,7,8,9,10,11,12,13,14,15,16,17,18,19,20,21,22,23,24,25,26],[[],[],[1],[1,2],[1,2,3],[1,2,3,4],[],[6],[6,7],[],[9],[9,10],[],[12],[12,13],[],[15],[15,16],[15,16,17],[15,16,17,18],[6,7,8,9,10,11,12,13,14,15,16,17,18,19],[6,7,8,9,10,11,12,13,14,15,16,17,18,19,20],[1,2,3,4,5,6,7,8,9,10,11,12,13,14,15,16,17,18,19,20,21],[0,1,2,3,4,5,6,7,8,9,10,11,12,13,14,15,16,17,18,19,20,21,22],[0,1,2,3,4,5,6,7,8,9,10,11,12,13,14,15,16,17,18,19,20,21,22,23],[0,1,2,3,4,5,6,7,8,9,10,11,12,13,14,15,16,17,18,19,20,21,22,23,24],[0,1,2,3,4,5,6,7,8,9,10,11,12,13,14,15,16,17,18,19,20,21,22,23,24,25]],[]⟩else⟨[],[],[],[]⟩
def CP:au:=⟨[7],LO,GU⟩
theorem aiJ:av PP CP Tryz.f161.ntmps vM=true:=by kernel_rfl
noncomputable def sw:Code:=match Tryz.f162.body with|some c=>c|none=>.skip
theorem Ks:PP.funcs[162]? =some Tryz.f162:=by kernel_rfl
theorem Bv:Tryz.f162.body=some sw:=rfl
def LP (i:Nat):List Nat:=if i<1 then[0,1]else[4]
def GV (i:Nat):ao:=⟨[],[],[],[]⟩
def CQ:au:=⟨[],LP,GV⟩
theorem O9:av PP CQ Tryz.f162.ntmps sw=true:=by kernel_rfl
noncomputable def vO:Code:=match Tryz.f164.body with|some c=>c|none=>.skip
theorem abx:PP.funcs[164]? =some Tryz.f164:=by kernel_rfl
theorem VE:Tryz.f164.body=some vO:=rfl
def LR (i:Nat):List Nat:=if i<3 then if i<1 then[2,3]else if i<2 then[2,3,5]else[4]else if i<4 then[9]else if i<5 then[4]else[4]
def GX (i:Nat):ao:=⟨[],[],[],[]⟩
def CT:au:=⟨[2,3],LR,GX⟩
theorem aiL:av PP CT Tryz.f164.ntmps vO=true:=by kernel_rfl
noncomputable def vP:Code:=match Tryz.f165.body with|some c=>c|none=>.skip
theorem aby:PP.funcs[165]? =some Tryz.f165:=by kernel_rfl
theorem VF:Tryz.f165.body=some vP:=rfl
def LS (i:Nat):List Nat:=if i<1 then[2,3]else[4]
def GY (i:Nat):ao:=⟨[],[],[],[]⟩
def CU:au:=⟨[2,3],LS,GY⟩
theorem aiM:av PP CU Tryz.f165.ntmps vP=true:=by kernel_rfl
noncomputable def vQ:Code:=match Tryz.f166.body with|some c=>c|none=>.skip
theorem abz:PP.funcs[166]? =some Tryz.f166:=by kernel_rfl
theorem VG:Tryz.f166.body=some vQ:=rfl
def LU (i:Nat):List Nat:=if i<4 then if i<2 then if i<1 then[0,1]else[0,1,7,8]else if i<3 then[0,1,7,8,9]else[0,1,5,7,8]else if i<6 then if i<5 then[0,1,5,7,8,16]else[4]else if i<7 then[0,1,7,8]else[4]
def GZ (i:Nat):ao:=⟨[],[],[],[]⟩
def CV:au:=⟨[],LU,GZ⟩
theorem aiN:av PP CV Tryz.f166.ntmps vQ=true:=by kernel_rfl
noncomputable def vR:Code:=match Tryz.f167.body with|some c=>c|none=>.skip
theorem abA:PP.funcs[167]? =some Tryz.f167:=by kernel_rfl
theorem VH:Tryz.f167.body=some vR:=rfl
def LV (i:Nat):List Nat:=if i<1 then[1,2]else[3]
def G8 (i:Nat):ao:=⟨[],[],[],[]⟩
def CW:au:=⟨[2],LV,G8⟩
theorem aiO:av PP CW Tryz.f167.ntmps vR=true:=by kernel_rfl
noncomputable def vT:Code:=match Tryz.f169.body with|some c=>c|none=>.skip
theorem abC:PP.funcs[169]? =some Tryz.f169:=by kernel_rfl
theorem VJ:Tryz.f169.body=some vT:=rfl
def LX (i:Nat):List Nat:=if i<8 then if i<4 then if i<2 then if i<1 then[0]else[0,8]else if i<3 then[2]else[0,3]else if i<6 then if i<5 then[0,3,13]else[0,3]else if i<7 then[0,3,25]else[0,3,4]else if i<12 then if i<10 then if i<9 then[0,3,4,5]else[0,3,4,5,32]else if i<11 then[0,3,4,5]else[0,3,4,5,44]else if i<14 then if i<13 then[0,3,4,5]else[0,3,4,5]else if i<15 then[0,3]else if i<16 then[2]else[2]
def Hc (i:Nat):ao:=if i=6 then⟨[],[0,1,2,3,4,5,6,7,8,9],[[],[],[0,1],[0,1,2],[],[],[5],[4,5,6],[4,5,6,7],[0,1,2,3,4,5,6,7,8]],[]⟩else if i=11 then⟨[],[0,1,2,3,4,5,6,7,8,9],[[],[],[0,1],[0,1,2],[],[],[5],[4,5,6],[4,5,6,7],[0,1,2,3,4,5,6,7,8]],[]⟩else⟨[],[],[],[]⟩
def CZ:au:=⟨[],LX,Hc⟩
theorem aiQ:av PP CZ Tryz.f169.ntmps vT=true:=by kernel_rfl
noncomputable def vV:Code:=match Tryz.f170.body with|some c=>c|none=>.skip
theorem abE:PP.funcs[170]? =some Tryz.f170:=by kernel_rfl
theorem VL:Tryz.f170.body=some vV:=rfl
def LZ (i:Nat):List Nat:=if i<11 then if i<5 then if i<2 then if i<1 then[1,2,3,6]else[1,2,6,8,9]else if i<3 then[1,2,6,8,9,10]else if i<4 then[1,2,6,8,10,32]else[6,7]else if i<8 then if i<6 then[1,2,6,8,10,34,35,36]else if i<7 then[1,2,6,8,10,34,35,36,37]else[1,2,6,8,10,11,12,34,35,36]else if i<9 then[1,2,6,8,10,11,12,34,35,36,65]else if i<10 then[6,7]else[1,2,6,8,10,11,12,14,34,35,36]else if i<16 then if i<13 then if i<12 then[1,2,6,8,10,11,12,34,35,36,80]else[6,7]else if i<14 then[1,2,6,8,10,12,34,35,36,84,85,86]else if i<15 then[1,2,6,8,10,12,34,35,36,84,85,86,87]else[1,2,6,8,10,12,16,34,35,36,84,85,86]else if i<19 then if i<17 then[1,2,6,8,10,12,34,35,36,84,85,86,106]else if i<18 then[6,7]else[1,2,6,8,10,12,34,35,36,84,85,86]else if i<20 then[1,2,6,8,10,34,35,36]else if i<21 then[1,2,6,8,10,34,35,36]else[6,7]
def He (i:Nat):ao:=if i=8 then⟨[],[0,1,2,3,4,5,6,7,8,9,10,11,12,13,14,15,16,17,18,19,20,21,22,23,24],[[],[0],[0,1],[0,1,2],[0,1,2,3],[0,1,2],[0,1,2],[0,1,2,6],[0,1,2,5,6,7],[0,1,2,5,6,7,8],[0,1,2,5,6,7,8,9],[0,1,2,3,4,5,6,7,8,9,10],[0,1,2,3,4,5,6,7,8,9,10,11],[0,1,2,3,4,5,6,7,8,9,10,11,12],[0,1,2,3,4,5,6,7,8,9,10,11,12,13],[0,1,2,3,4,5,6,7,8,9,10,11,12,13,14],[0,1,2,3,4,5,6,7,8,9,10,11,12,13,14,15],[0,1,2,3,4,5,6,7,8,9,10,11,12,13,14,15,16],[0,1,2,3,4,5,6,7,8,9,10,11,12,13,14,15,16,17],[0,1,2,3,4,5,6,7,8,9,10,11,12,13,14,15,16,17,18],[0,1,2,3,4,5,6,7,8,9,10,11,12,13,14,15,16,17,18,19],[0,1,2,3,4,5,6,7,8,9,10,11,12,13,14,15,16,17,18],[0,1,2,3,4,5,6,7,8,9,10,11,12,13,14,15,16,17,18,21],[0,1,2,3,4,5,6,7,8,9,10,11,12,13,14,15,16,17,18,19,20,21,22],[0,1,2,3,4,5,6,7,8,9,10,11,12,13,14,15,16,17,18,19,20,21,22,23]],[]⟩else if i=10 then⟨[],[0,1,2,3,4,5,6,7,8,9,10,11,12,13],[[],[],[],[2],[1,2,3],[1,2,3,4],[],[6],[0,1,2,3,4,5,6,7],[0,1,2,3,4,5,6,7,8],[0,1,2,3,4,5,6,7,8,9],[0,1,2,3,4,5,6,7,8,9],[0,1,2,3,4,5,6,7,8,9,10],[0,1,2,3,4,5,6,7,8,9,10,11,12]],[]⟩else if i=16 then⟨[],[0,1,2,3,4,5,6,7,8,9,10,11,12,13,14,15,16],[[],[],[],[2],[1,2,3],[1,2,3,4],[],[6],[],[],[9],[8,9,10],[8,9,10,11],[],[13],[0,1,2,3,4,5,6,7,8,9,10,11,12,13,14],[0,1,2,3,4,5,6,7,8,9,10,11,12,13,14,15]],[]⟩else⟨[],[],[],[]⟩
def C6:au:=⟨[3,6,8,10,12,16],LZ,He⟩
theorem aiS:av PP C6 Tryz.f170.ntmps vV=true:=by kernel_rfl
noncomputable def vW:Code:=match Tryz.f171.body with|some c=>c|none=>.skip
theorem abF:PP.funcs[171]? =some Tryz.f171:=by kernel_rfl
theorem VM:Tryz.f171.body=some vW:=rfl
def L4 (i:Nat):List Nat:=if i<4 then if i<2 then if i<1 then[1,2]else[1,2,7,8]else if i<3 then[1,2,7,8,9]else[1,2,5,7,8]else if i<6 then if i<5 then[1,2,5,7,8,14]else[4]else if i<7 then[1,2,7,8]else[4]
def Hf (i:Nat):ao:=⟨[],[],[],[]⟩
def C7:au:=⟨[2],L4,Hf⟩
theorem aiT:av PP C7 Tryz.f171.ntmps vW=true:=by kernel_rfl
noncomputable def vX:Code:=match Tryz.f172.body with|some c=>c|none=>.skip
theorem abG:PP.funcs[172]? =some Tryz.f172:=by kernel_rfl
theorem VN:Tryz.f172.body=some vX:=rfl
def L7 (i:Nat):List Nat:=if i<4 then if i<2 then if i<1 then[0]else[0,5,6,7]else if i<3 then[0,5,6,7,8]else[0,3,4,5,6,7]else if i<6 then if i<5 then[0,5,6,7,28]else[2]else if i<7 then[0,5,6,7]else[2]
def Hg (i:Nat):ao:=if i=4 then⟨[],[0,1,2,3,4,5,6,7,8,9,10,11,12,13,14,15,16],[[],[0],[0,1],[0,1,2],[0,1,2,3],[0,1,2,3,4],[0,1,2,3,4,5],[0,1,2,3,4,5,6],[0,1,2,3,4,5,6],[0,1,2,3,4,5,6,8],[0,1,2,3,4,5,6,7,8,9],[0,1,2,3,4,5,6,7,8,9,10],[0,1,2,3,4,5,6],[0,1,2,3,4,5,6,7,8,9,10,11,12],[0,1,2,3,4,5,6,7,8,9,10,11,12,13],[0,1,2,3,4,5,6,7,8,9,10,11,12,13,14],[0,1,2,3,4,5,6,7,8,9,10,11,12,13,14,15]],[]⟩else⟨[],[],[],[]⟩
def C8:au:=⟨[4],L7,Hg⟩
theorem aiU:av PP C8 Tryz.f172.ntmps vX=true:=by kernel_rfl
noncomputable def vY:Code:=match Tryz.f173.body with|some c=>c|none=>.skip
theorem abH:PP.funcs[173]? =some Tryz.f173:=by kernel_rfl
theorem VO:Tryz.f173.body=some vY:=rfl
def L8 (i:Nat):List Nat:=if i<1 then[0]else[2]
def Hi (i:Nat):ao:=⟨[],[],[],[]⟩
def C9:au:=⟨[],L8,Hi⟩
theorem aiV:av PP C9 Tryz.f173.ntmps vY=true:=by kernel_rfl
noncomputable def vZ:Code:=match Tryz.f174.body with|some c=>c|none=>.skip
theorem abI:PP.funcs[174]? =some Tryz.f174:=by kernel_rfl
theorem VP:Tryz.f174.body=some vZ:=rfl
def L9 (i:Nat):List Nat:=if i<1 then[0,1,2]else[6]
def Hj (i:Nat):ao:=⟨[],[],[],[]⟩
def Da:au:=⟨[],L9,Hj⟩
theorem aiW:av PP Da Tryz.f174.ntmps vZ=true:=by kernel_rfl
noncomputable def v7:Code:=match Tryz.f175.body with|some c=>c|none=>.skip
theorem abJ:PP.funcs[175]? =some Tryz.f175:=by kernel_rfl
theorem VQ:Tryz.f175.body=some v7:=rfl
def Ma (i:Nat):List Nat:=if i<4 then if i<2 then if i<1 then[0,1]else[0,1,7,8,9]else if i<3 then[0,1,7,8,9,10]else[0,1,5,6,7,8,9]else if i<6 then if i<5 then[0,1,7,8,9,33]else[4]else if i<7 then[0,1,7,8,9]else[4]
def Hk (i:Nat):ao:=⟨[],[],[],[]⟩
def Db:au:=⟨[],Ma,Hk⟩
theorem aiX:av PP Db Tryz.f175.ntmps v7=true:=by kernel_rfl
noncomputable def v8:Code:=match Tryz.f176.body with|some c=>c|none=>.skip
theorem abK:PP.funcs[176]? =some Tryz.f176:=by kernel_rfl
theorem VS:Tryz.f176.body=some v8:=rfl
def Mb (i:Nat):List Nat:=if i<4 then if i<2 then if i<1 then[0]else[0,5,6,7]else if i<3 then[0,5,6,7,8]else[0,4,5,6,7]else if i<6 then if i<5 then[0,5,6,7,26]else[2]else if i<7 then[0,5,6,7]else[2]
def Hm (i:Nat):ao:=⟨[],[],[],[]⟩
def Dc:au:=⟨[4],Mb,Hm⟩
theorem aiY:av PP Dc Tryz.f176.ntmps v8=true:=by kernel_rfl
noncomputable def wi:Code:=match Tryz.f180.body with|some c=>c|none=>.skip
theorem abL:PP.funcs[180]? =some Tryz.f180:=by kernel_rfl
theorem VU:Tryz.f180.body=some wi:=rfl
def Md (i:Nat):List Nat:=if i<4 then if i<2 then if i<1 then[0]else[0,3]else if i<3 then[0,3,8]else[0,3]else if i<6 then if i<5 then[0,3,4]else[0,3,50]else if i<7 then[2]else[2]
def Ho (i:Nat):ao:=if i=5 then⟨[],[0,1,2,3,4,5,6,7,8,9,10,11,12,13,14,15,16,17,18,19,20,21,22,23,24,25,26,27,28,29,30,31,32,33,34,35],[[],[0],[0,1],[0,1,2],[0,1,2,3],[0,1,2,3,4],[0,1,2,3,4,5],[0,1,2,3,4,5,6],[0,1,2,3,4,5,6,7],[0,1,2,3,4,5,6,7,8],[0,1,2,3,4,5,6,7,8,9],[0,1,2,3,4,5,6,7,8,9,10],[0,1,2,3,4,5,6,7,8,9,10,11],[0,1,2,3,4,5,6,7,8,9,10,11,12],[0,1,2,3,4,5,6,7,8,9,10,11,12,13],[0,1,2,3,4,5,6,7,8,9,10,11,12,13,14],[0,1,2,3,4,5,6,7,8,9,10,11,12,13,14,15],[0,1,2,3,4,5,6,7,8,9,10,11,12,13,14,15,16],[0,1,2,3,4,5,6,7,8,9,10,11,12,13,14,15,16,17],[0,1,2,3,4,5,6,7,8,9,10,11,12,13,14,15,16,17,18],[0,1,2,3,4,5,6,7,8,9,10,11,12,13,14,15,16,17,18,19],[0,1,2,3,4,5,6,7,8,9,10,11,12,13,14,15,16,17,18,19,20],[0,1,2,3,4,5,6,7,8,9,10,11,12,13,14,15,16,17,18,19,20,21],[0,1,2,3,4,5,6,7,8,9,10,11,12,13,14,15,16,17,18,19,20,21,22],[0,1,2,3,4,5,6,7,8,9,10,11,12,13,14,15,16,17,18,19,20,21,22,23],[0,1,2,3,4,5,6,7,8,9,10,11,12,13,14,15,16,17,18,19,20,21,22,23,24],[0,1,2,3,4,5,6,7,8,9,10,11,12,13,14,15,16,17,18,19,20,21,22,23,24,25],[0,1,2,3,4,5,6,7,8,9,10,11,12,13,14,15,16,17,18,19,20,21,22,23,24,25],[0,1,2,3,4,5,6,7,8,9,10,11,12,13,14,15,16,17,18,19,20,21,22,23,24,25,27],[0,1,2,3,4,5,6,7,8,9,10,11,12,13,14,15,16,17,18,19,20,21,22,23,24,25,26,27,28],[0,1,2,3,4,5,6,7,8,9,10,11,12,13,14,15,16,17,18,19,20,21,22,23,24,25,26,27,28,29],[0,1,2,3,4,5,6,7,8,9,10,11,12,13,14,15,16,17,18,19,20,21,22,23,24,25],[0,1,2,3,4,5,6,7,8,9,10,11,12,13,14,15,16,17,18,19,20,21,22,23,24,25,26,27,28,29,30,31],[0,1,2,3,4,5,6,7,8,9,10,11,12,13,14,15,16,17,18,19,20,21,22,23,24,25,26,27,28,29,30,31,32],[0,1,2,3,4,5,6,7,8,9,10,11,12,13,14,15,16,17,18,19,20,21,22,23,24,25,26,27,28,29,30,31,32,33],[0,1,2,3,4,5,6,7,8,9,10,11,12,13,14,15,16,17,18,19,20,21,22,23,24,25,26,27,28,29,30,31,32,33,34]],[]⟩else⟨[],[],[],[]⟩
def De:au:=⟨[4],Md,Ho⟩
theorem aiZ:av PP De Tryz.f180.ntmps wi=true:=by kernel_rfl
noncomputable def sy:Code:=match Tryz.f181.body with|some c=>c|none=>.skip
theorem Ku:PP.funcs[181]? =some Tryz.f181:=by kernel_rfl
theorem Bx:Tryz.f181.body=some sy:=rfl
def Me (i:Nat):List Nat:=if i<1 then[0,1,2]else[6]
def Hq (i:Nat):ao:=⟨[],[],[],[]⟩
def Df:au:=⟨[],Me,Hq⟩
theorem Pb:av PP Df Tryz.f181.ntmps sy=true:=by kernel_rfl
noncomputable def wm:Code:=match Tryz.f182.body with|some c=>c|none=>.skip
theorem abM:PP.funcs[182]? =some Tryz.f182:=by kernel_rfl
theorem VV:Tryz.f182.body=some wm:=rfl
def Mf (i:Nat):List Nat:=if i<3 then if i<1 then[0,1]else if i<2 then[0,1,5]else[0,1,5,9]else if i<5 then if i<4 then[0,1,5]else[0,1,5,35]else if i<6 then[4]else[4]
def Hr (i:Nat):ao:=if i=4 then⟨[],[0,1,2,3,4,5,6,7,8,9,10,11,12,13,14,15,16,17,18,19,20,21,22,23],[[],[],[0,1],[0,1,2],[],[4],[0,1,2,3,4,5],[0,1,2,3,4,5,6],[0,1,2,3,4,5,6,7],[0,1,2,3,4,5,6,7,8],[0,1,2,3,4,5,6,7,8,9],[0,1,2,3,4,5,6,7,8,9,10],[0,1,2,3,4,5,6,7,8,9,10,11],[0,1,2,3,4,5,6,7,8,9,10,11],[0,1,2,3,4,5,6,7,8,9,10,11,12,13],[0,1,2,3,4,5,6,7,8,9,10,11,12,13,14],[0,1,2,3,4,5,6,7,8,9,10,11],[0,1,2,3,4,5,6,7,8,9,10,11],[0,1,2,3,4,5,6,7,8,9,10,11,17],[0,1,2,3,4,5,6,7,8,9,10,11,16,17,18],[0,1,2,3,4,5,6,7,8,9,10,11,16,17,18,19],[0,1,2,3,4,5,6,7,8,9,10,11,12,13,14,15,16,17,18,19,20],[0,1,2,3,4,5,6,7,8,9,10,11,12,13,14,15,16,17,18,19,20,21],[0,1,2,3,4,5,6,7,8,9,10,11,12,13,14,15,16,17,18,19,20,21,22]],[]⟩else⟨[],[],[],[]⟩
def Dg:au:=⟨[],Mf,Hr⟩
theorem ai0:av PP Dg Tryz.f182.ntmps wm=true:=by kernel_rfl
noncomputable def wo:Code:=match Tryz.f183.body with|some c=>c|none=>.skip
theorem abN:PP.funcs[183]? =some Tryz.f183:=by kernel_rfl
theorem VW:Tryz.f183.body=some wo:=rfl
def Mg (i:Nat):List Nat:=if i<3 then if i<1 then[0]else if i<2 then[0,3]else[0,3,7]else if i<5 then if i<4 then[0,3]else[0,3,34]else if i<6 then[2]else[2]
def Hw (i:Nat):ao:=⟨[],[],[],[]⟩
def Dh:au:=⟨[],Mg,Hw⟩
theorem ai1:av PP Dh Tryz.f183.ntmps wo=true:=by kernel_rfl
noncomputable def wq:Code:=match Tryz.f188.body with|some c=>c|none=>.skip
theorem abO:PP.funcs[188]? =some Tryz.f188:=by kernel_rfl
theorem VX:Tryz.f188.body=some wq:=rfl
def Mh (i:Nat):List Nat:=if i<1 then[2,3]else[4]
def Hx (i:Nat):ao:=⟨[],[],[],[]⟩
def Di:au:=⟨[2,3],Mh,Hx⟩
theorem ai2:av PP Di Tryz.f188.ntmps wq=true:=by kernel_rfl
noncomputable def wx:Code:=match Tryz.f202.body with|some c=>c|none=>.skip
theorem abQ:PP.funcs[202]? =some Tryz.f202:=by kernel_rfl
theorem VZ:Tryz.f202.body=some wx:=rfl
def Mj (i:Nat):List Nat:=if i<3 then if i<1 then[0]else if i<2 then[0,3]else[0,3,4]else if i<5 then if i<4 then[3,4,7]else[3,4]else if i<6 then[0,3,4]else[2]
def Hz (i:Nat):ao:=⟨[],[],[],[]⟩
def Dk:au:=⟨[],Mj,Hz⟩
theorem ai4:av PP Dk Tryz.f202.ntmps wx=true:=by kernel_rfl
noncomputable def wy:Code:=match Tryz.f203.body with|some c=>c|none=>.skip
theorem abR:PP.funcs[203]? =some Tryz.f203:=by kernel_rfl
theorem V4:Tryz.f203.body=some wy:=rfl
def Mk (i:Nat):List Nat:=if i<2 then if i<1 then[0]else[0,4]else if i<3 then[2]else[2]
def HA (i:Nat):ao:=⟨[],[],[],[]⟩
def Dl:au:=⟨[],Mk,HA⟩
theorem ai5:av PP Dl Tryz.f203.ntmps wy=true:=by kernel_rfl
noncomputable def wz:Code:=match Tryz.f204.body with|some c=>c|none=>.skip
theorem abS:PP.funcs[204]? =some Tryz.f204:=by kernel_rfl
theorem V5:Tryz.f204.body=some wz:=rfl
def Ml (i:Nat):List Nat:=if i<1 then[1,2]else[2,3]
def HC (i:Nat):ao:=if i=1 then⟨[],[0,1,4,2,3,5,6,7],[[],[],[1],[0,1,2],[],[1,2,4],[0,1,2,3,4,5],[0,1,2,3,4,5,6]],[]⟩else⟨[],[],[],[]⟩
def Dp:au:=⟨[1,2],Ml,HC⟩
theorem ai6:av PP Dp Tryz.f204.ntmps wz=true:=by kernel_rfl
noncomputable def wA:Code:=match Tryz.f205.body with|some c=>c|none=>.skip
theorem abT:PP.funcs[205]? =some Tryz.f205:=by kernel_rfl
theorem V6:Tryz.f205.body=some wA:=rfl
def Mm (i:Nat):List Nat:=if i<3 then if i<1 then[2,3,4]else if i<2 then[2,3,4,12]else[6,7]else if i<5 then if i<4 then[3,4,8,9]else[8,33]else if i<6 then[6,7]else[6,7]
def HD (i:Nat):ao:=⟨[],[],[],[]⟩
def Dq:au:=⟨[3,4],Mm,HD⟩
theorem ai7:av PP Dq Tryz.f205.ntmps wA=true:=by kernel_rfl
noncomputable def wC:Code:=match Tryz.f206.body with|some c=>c|none=>.skip
theorem abU:PP.funcs[206]? =some Tryz.f206:=by kernel_rfl
theorem V7:Tryz.f206.body=some wC:=rfl
def Mo (i:Nat):List Nat:=if i<9 then if i<4 then if i<2 then if i<1 then[1,2,3]else[1,8,9]else if i<3 then[1,8,24]else[6,7]else if i<6 then if i<5 then[1,8,10]else[1,8,10,29,30]else if i<7 then[1,8,10,29,30,31]else if i<8 then[1,8,10,11,29,30]else[1,8,10,11,12,13,29,30]else if i<13 then if i<11 then if i<10 then[1,8,10,11,12,29,30,40]else[1,8,10,29,30]else if i<12 then[1,8,10,11,29,30]else[1,8,10,11,29,30,58]else if i<15 then if i<14 then[1,8,10,11,29,30,58,60]else[1,8,10,11,14,15,29,30,58]else if i<16 then[1,8,10,11,29,30,58]else if i<17 then[1,8,10,29,30]else[6,7]
def HE (i:Nat):ao:=if i=11 then⟨[],[0,1,2,3,4,5,6,7,8,9,10],[[],[],[],[2],[],[],[4,5],[4,5,6],[2,3,4,5,6,7],[0,1,2,3,4,5,6,7,8],[0,1,2,3,4,5,6,7,8,9]],[]⟩else if i=15 then⟨[],[0,1,2,3,4,5,6,7,8,9,10,11,12],[[],[],[],[],[],[3,4],[3,4,5],[],[],[],[2,3,4,5,6,7,8,9],[0,1,2,3,4,5,6,7,8,9,10],[0,1,2,3,4,5,6,7,8,9,10,11]],[]⟩else⟨[],[],[],[]⟩
def Dr:au:=⟨[3,8],Mo,HE⟩
theorem ai8:av PP Dr Tryz.f206.ntmps wC=true:=by kernel_rfl
noncomputable def wD:Code:=match Tryz.f207.body with|some c=>c|none=>.skip
theorem abV:PP.funcs[207]? =some Tryz.f207:=by kernel_rfl
theorem V8:Tryz.f207.body=some wD:=rfl
def Mp (i:Nat):List Nat:=if i<7 then if i<3 then if i<1 then[1,2,3]else if i<2 then[1,2,15]else[6]else if i<5 then if i<4 then[2,7]else[2,7,20,21]else if i<6 then[2,7,20,21,22]else[2,7,8,20,21]else if i<11 then if i<9 then if i<8 then[2,7,20,21]else[2,7,20,21]else if i<10 then[7,28,29,30]else[7,28,29,30,31]else if i<13 then if i<12 then[7,10,28,29,30]else[7,28,29,30]else if i<14 then[7,28,29,30]else[6]
def HI (i:Nat):ao:=⟨[],[],[],[]⟩
def Ds:au:=⟨[3,10],Mp,HI⟩
theorem ai9:av PP Ds Tryz.f207.ntmps wD=true:=by kernel_rfl
noncomputable def wE:Code:=match Tryz.f208.body with|some c=>c|none=>.skip
theorem abW:PP.funcs[208]? =some Tryz.f208:=by kernel_rfl
theorem V9:Tryz.f208.body=some wE:=rfl
def Mq (i:Nat):List Nat:=if i<5 then if i<2 then if i<1 then[0]else[0,3]else if i<3 then[0,3,15]else if i<4 then[0,3,4]else[0,3,4,36]else if i<8 then if i<6 then[0,3]else if i<7 then[0,3]else[0,4]else if i<9 then[0]else if i<10 then[0,3]else[2]
def HJ (i:Nat):ao:=if i=3 then⟨[],[0,1,2,3,4,5,6,7,8,9,10,11],[[],[0],[0,1],[0,1,2],[],[4],[4,5],[4,5,6],[4,5,6,7],[4,5,6,7,8],[0,1,2,3,4,5,6,7,8,9],[0,1,2,3,4,5,6,7,8,9,10]],[]⟩else if i=4 then⟨[],[0,1,2,3,4,5,6,7,8,9],[[],[0],[0,1],[0,1,2],[],[4],[4,5],[4,5,6],[4,5,6,7],[0,1,2,3,4,5,6,7,8]],[]⟩else if i=5 then⟨[],[0,1,2,3,4,5,6,7,8,9,10,11,12,13,14],[[],[],[1],[1,2],[1,2,3],[],[5],[5,6],[5,6,7],[5,6,7,8],[5,6,7,8,9],[1,2,3,4,5,6,7,8,9,10],[0,1,2,3,4,5,6,7,8,9,10,11],[0,1,2,3,4,5,6,7,8,9,10,11,12],[0,1,2,3,4,5,6,7,8,9,10,11,12,13]],[]⟩else if i=8 then⟨[],[0,1,2,3,4,5,6,7,8,9,10,11,12,13,14,15],[[],[0],[0,1],[0,1,2],[],[4],[4,5],[4,5,6],[],[8],[8,9],[8,9,10],[8,9,10,11],[4,5,6,7,8,9,10,11,12],[4,5,6,7,8,9,10,11,12,13],[0,1,2,3,4,5,6,7,8,9,10,11,12,13,14]],[]⟩else⟨[],[],[],[]⟩
def Dt:au:=⟨[],Mq,HJ⟩
theorem aja:av PP Dt Tryz.f208.ntmps wE=true:=by kernel_rfl
noncomputable def wF:Code:=match Tryz.f209.body with|some c=>c|none=>.skip
theorem abX:PP.funcs[209]? =some Tryz.f209:=by kernel_rfl
theorem Wa:Tryz.f209.body=some wF:=rfl
def Mr (i:Nat):List Nat:=if i<1 then[0]else[2]
def HK (i:Nat):ao:=⟨[],[],[],[]⟩
def Du:au:=⟨[],Mr,HK⟩
theorem ajb:av PP Du Tryz.f209.ntmps wF=true:=by kernel_rfl
noncomputable def wH:Code:=match Tryz.f210.body with|some c=>c|none=>.skip
theorem abZ:PP.funcs[210]? =some Tryz.f210:=by kernel_rfl
theorem Wc:Tryz.f210.body=some wH:=rfl
def Mt (i:Nat):List Nat:=if i<5 then if i<2 then if i<1 then[1,2]else[1,2,5]else if i<3 then[1,2,5,11]else if i<4 then[1,2,5]else[1,2,5,16,17,18]else if i<8 then if i<6 then[1,2,5,16,17,18,19]else if i<7 then[1,2,5,6,7,16,17,18]else[1,2,5,6,16,17,18,35]else if i<9 then[1,2,5,16,17,18]else if i<10 then[1,2,5,16,17,18]else[4]
def HO (i:Nat):ao:=if i=7 then⟨[],[0,1,2,3,4,5,6,7,8,9,10,11,12],[[],[0],[],[0,1,2],[0,1,2,3],[],[5],[],[7],[5,6,7,8],[],[10],[0,1,2,3,4,5,6,7,8,9,10,11]],[]⟩else⟨[],[],[],[]⟩
def Dw:au:=⟨[2,7],Mt,HO⟩
theorem ajd:av PP Dw Tryz.f210.ntmps wH=true:=by kernel_rfl
noncomputable def wI:Code:=match Tryz.f211.body with|some c=>c|none=>.skip
theorem ab0:PP.funcs[211]? =some Tryz.f211:=by kernel_rfl
theorem Wd:Tryz.f211.body=some wI:=rfl
def Mu (i:Nat):List Nat:=if i<5 then if i<2 then if i<1 then[0,1]else[0,1,8]else if i<3 then[0,1,12]else if i<4 then[4]else[0,1,12,14]else if i<7 then if i<6 then[0,1]else[0,1,18]else if i<8 then[0,1,29]else if i<9 then[0,1]else[4]
def HP (i:Nat):ao:=⟨[],[],[],[]⟩
def Dx:au:=⟨[],Mu,HP⟩
theorem aje:av PP Dx Tryz.f211.ntmps wI=true:=by kernel_rfl
noncomputable def wJ:Code:=match Tryz.f212.body with|some c=>c|none=>.skip
theorem ab1:PP.funcs[212]? =some Tryz.f212:=by kernel_rfl
theorem We:Tryz.f212.body=some wJ:=rfl
def Mw (i:Nat):List Nat:=if i<1 then[0,1,2,4]else[4]
def HQ (i:Nat):ao:=⟨[],[],[],[]⟩
def Dy:au:=⟨[4],Mw,HQ⟩
theorem ajf:av PP Dy Tryz.f212.ntmps wJ=true:=by kernel_rfl
noncomputable def wL:Code:=match Tryz.f213.body with|some c=>c|none=>.skip
theorem ab2:PP.funcs[213]? =some Tryz.f213:=by kernel_rfl
theorem Wf:Tryz.f213.body=some wL:=rfl
def rn (i:Nat):List Nat:=if i<8 then if i<4 then if i<2 then if i<1 then[0]else[0,3]else if i<3 then[0,3,4]else[0,3,6]else if i<6 then if i<5 then[0,3,8]else[0,3,10]else if i<7 then[0,3,12]else[0,14]else if i<12 then if i<10 then if i<9 then[2]else[2]else if i<11 then[2]else[2]else if i<14 then if i<13 then[0,16]else[2]else if i<15 then[23]else if i<16 then[2]else[2]
def HS (i:Nat):ao:=⟨[],[],[],[]⟩
def qV:au:=⟨[],rn,HS⟩
theorem ajg:av PP qV Tryz.f213.ntmps wL=true:=by kernel_rfl
noncomputable def wM:Code:=match Tryz.f214.body with|some c=>c|none=>.skip
theorem ab3:PP.funcs[214]? =some Tryz.f214:=by kernel_rfl
theorem Wg:Tryz.f214.body=some wM:=rfl
def Mx (i:Nat):List Nat:=if i<2 then if i<1 then[0,1,2]else[0,1,2,18]else if i<3 then[0,1,2]else[6]
def HU (i:Nat):ao:=⟨[],[],[],[]⟩
def Dz:au:=⟨[],Mx,HU⟩
theorem ajh:av PP Dz Tryz.f214.ntmps wM=true:=by kernel_rfl
noncomputable def wN:Code:=match Tryz.f215.body with|some c=>c|none=>.skip
theorem ab4:PP.funcs[215]? =some Tryz.f215:=by kernel_rfl
theorem Wh:Tryz.f215.body=some wN:=rfl
def My (i:Nat):List Nat:=if i<7 then if i<3 then if i<1 then[0,1]else if i<2 then[0,1,7]else[0,1,7,16]else if i<5 then if i<4 then[0,1,7]else[0,1,7,8]else if i<6 then[0,1,7,8,9]else[0,1,7,8,9,26]else if i<11 then if i<9 then if i<8 then[0,1,7,8,9,26,27,28]else[0,1,7,8,9,11,26]else if i<10 then[0,1,7,8,9,26]else[0,1,7,8,9,39]else if i<13 then if i<12 then[0,1,7,8,9]else[0,1,8,9,52]else if i<14 then[4,5,6]else[4,5,6]
def HV (i:Nat):ao:=⟨[],[],[],[]⟩
def DA:au:=⟨[],My,HV⟩
theorem aji:av PP DA Tryz.f215.ntmps wN=true:=by kernel_rfl
noncomputable def wO:Code:=match Tryz.f216.body with|some c=>c|none=>.skip
theorem ab5:PP.funcs[216]? =some Tryz.f216:=by kernel_rfl
theorem Wi:Tryz.f216.body=some wO:=rfl
def Mz (i:Nat):List Nat:=if i<8 then if i<4 then if i<2 then if i<1 then[0]else[0,4]else if i<3 then[4,5]else[4,5,6]else if i<6 then if i<5 then[4,5,6]else[4,5,6]else if i<7 then[2,3]else[4,5,11]else if i<12 then if i<10 then if i<9 then[2,3]else[4,5,14]else if i<11 then[2,3]else[5,18]else if i<14 then if i<13 then[2,3]else[21]else if i<15 then[2,3]else[2,3]
def HW (i:Nat):ao:=⟨[],[],[],[]⟩
def DC:au:=⟨[],Mz,HW⟩
theorem ajj:av PP DC Tryz.f216.ntmps wO=true:=by kernel_rfl
noncomputable def wP:Code:=match Tryz.f217.body with|some c=>c|none=>.skip
theorem ab6:PP.funcs[217]? =some Tryz.f217:=by kernel_rfl
theorem Wj:Tryz.f217.body=some wP:=rfl
def MA (i:Nat):List Nat:=if i<3 then if i<1 then[0]else if i<2 then[3]else[3,4]else if i<5 then if i<4 then[2]else[6]else if i<6 then[2]else[2]
def HX (i:Nat):ao:=⟨[],[],[],[]⟩
def DD:au:=⟨[],MA,HX⟩
theorem ajk:av PP DD Tryz.f217.ntmps wP=true:=by kernel_rfl
noncomputable def sA:Code:=match Tryz.f218.body with|some c=>c|none=>.skip
theorem Kv:PP.funcs[218]? =some Tryz.f218:=by kernel_rfl
theorem By:Tryz.f218.body=some sA:=rfl
def MC (i:Nat):List Nat:=if i<4 then if i<2 then if i<1 then[0,1]else[0,1,7,8]else if i<3 then[0,1,7,8,9]else[0,1,5,7,8]else if i<6 then if i<5 then[0,1,5,7,8,16]else[4]else if i<7 then[0,1,7,8]else[4]
def HY (i:Nat):ao:=⟨[],[],[],[]⟩
def DE:au:=⟨[],MC,HY⟩
theorem Pc:av PP DE Tryz.f218.ntmps sA=true:=by kernel_rfl
noncomputable def wU:Code:=match Tryz.f222.body with|some c=>c|none=>.skip
theorem acb:PP.funcs[222]? =some Tryz.f222:=by kernel_rfl
theorem Wq:Tryz.f222.body=some wU:=rfl
def MI (i:Nat):List Nat:=if i<5 then if i<2 then if i<1 then[2,4,5,6,8]else[2,4,5,6,8,11]else if i<3 then[2,4,5,6,8,11,19]else if i<4 then[2,4,5,6,8,11]else[2,4,5,6,8,11,12]else if i<7 then if i<6 then[2,4,5,6,8,11,12,28]else[2,4,5,6,8,11,12]else if i<8 then[2,4,5,6,8,11,12,51]else if i<9 then[10]else[10]
def Ie (i:Nat):ao:=if i=7 then⟨[],[0,1,2,3,4,5,6,7,8,9,10,11,12,13,14,15,16,17,18,19,20],[[],[],[0,1],[0,1,2],[0,1,2,3],[0,1,2,3,4],[0,1,2,3,4,5],[0,1,2,3],[0,1,2,3,4,5,6,7],[0,1,2,3,4,5,6,7,8],[0,1,2,3],[0,1,2,3,10],[0,1,2,3,10,11],[0,1,2,3],[0,1,2,3,10,11,12,13],[0,1,2,3,10,11,12,13,14],[0,1,2,3],[0,1,2,3,16],[0,1,2,3,16,17],[0,1,2,3,4,5,6,7,8,9,10,11,12,13,14,15,16,17,18],[0,1,2,3,4,5,6,7,8,9,10,11,12,13,14,15,16,17,18,19]],[]⟩else⟨[],[],[],[]⟩
def DJ:au:=⟨[5,6,8],MI,Ie⟩
theorem ajp:av PP DJ Tryz.f222.ntmps wU=true:=by kernel_rfl
noncomputable def wV:Code:=match Tryz.f223.body with|some c=>c|none=>.skip
theorem acd:PP.funcs[223]? =some Tryz.f223:=by kernel_rfl
theorem Wr:Tryz.f223.body=some wV:=rfl
def MJ (i:Nat):List Nat:=if i<8 then if i<4 then if i<2 then if i<1 then[1,2,3]else[1,2,3,7,8]else if i<3 then[1,2,3,19]else[6]else if i<6 then if i<5 then[1,2,3,29]else[6]else if i<7 then[1,2,3,10]else[1,2,3,51]else if i<12 then if i<10 then if i<9 then[6]else[1,2,3,52,53]else if i<11 then[1,2,3,52,53,54]else[1,2,3,11,52,53]else if i<14 then if i<13 then[1,2,3,52,53,84]else[6]else if i<15 then[1,2,3,52,53]else[6]
def Ih (i:Nat):ao:=if i=6 then⟨[],[0,1,2,3,4,5,6,7,8,9,10,11,12,13,14,15,16],[[],[0],[],[2],[],[2,3,4],[2,3,4,5],[],[],[7,8],[7,8,9],[0,1,2,3,4,5,6,7,8,9,10],[0,1,2,3,4,5,6,7,8,9,10,11],[0,1,2,3,4,5,6,7,8,9,10,11,12],[0,1,2,3,4,5,6,7,8,9,10,11,12],[0,1,2,3,4,5,6,7,8,9,10,11,12,13],[0,1,2,3,4,5,6,7,8,9,10,11,12,13,14,15]],[]⟩else if i=12 then⟨[],[0,1,2,3,4,5,6,7,8,9,10,11,12,13,14,15,16,17,18,19,20,21,22,23,24,25,26,27,28],[[],[],[0,1],[0,1,2],[0,1,2,3],[0,1,2,3,4],[0,1,2,3,4,5],[0,1,2,3,4,5,6],[0,1,2,3,4,5],[0,1,2,3,4,5,8],[0,1,2,3,4,5],[0,1,2,3,4,5,8,9,10],[0,1,2,3,4,5,8,9,10,11],[0,1,2,3,4,5],[0,1,2,3,4,5],[0,1,2,3,4,5,13,14],[0,1,2,3,4,5,13,14,15],[0,1,2,3,4,5],[0,1,2,3,4,5,17],[0,1,2,3,4,5],[0,1,2,3,4,5,17,18,19],[0,1,2,3,4,5,17,18,19,20],[0,1,2,3,4,5],[0,1,2,3,4,5],[0,1,2,3,4,5,22,23],[0,1,2,3,4,5,22,23,24],[0,1,2,3,4,5,6,7,8,9,10,11,12,13,14,15,16,17,18,19,20,21,22,23,24,25],[0,1,2,3,4,5,6,7,8,9,10,11,12,13,14,15,16,17,18,19,20,21,22,23,24,25,26],[0,1,2,3,4,5,6,7,8,9,10,11,12,13,14,15,16,17,18,19,20,21,22,23,24,25,26,27]],[]⟩else⟨[],[],[],[]⟩
def DK:au:=⟨[3],MJ,Ih⟩
theorem ajq:av PP DK Tryz.f223.ntmps wV=true:=by kernel_rfl
noncomputable def wX:Code:=match Tryz.f224.body with|some c=>c|none=>.skip
theorem ace:PP.funcs[224]? =some Tryz.f224:=by kernel_rfl
theorem Ws:Tryz.f224.body=some wX:=rfl
def MK (i:Nat):List Nat:=if i<3 then if i<1 then[1]else if i<2 then[1,4]else[1,4,5]else if i<5 then if i<4 then[1,4,7]else[1,9]else if i<6 then[2]else[2]
def Ii (i:Nat):ao:=⟨[],[],[],[]⟩
def DL:au:=⟨[1],MK,Ii⟩
theorem ajr:av PP DL Tryz.f224.ntmps wX=true:=by kernel_rfl
noncomputable def wY:Code:=match Tryz.f225.body with|some c=>c|none=>.skip
theorem acf:PP.funcs[225]? =some Tryz.f225:=by kernel_rfl
theorem Wt:Tryz.f225.body=some wY:=rfl
def ML (i:Nat):List Nat:=if i<1 then[0]else[2]
def Ij (i:Nat):ao:=⟨[],[],[],[]⟩
def DM:au:=⟨[],ML,Ij⟩
theorem ajs:av PP DM Tryz.f225.ntmps wY=true:=by kernel_rfl
noncomputable def sB:Code:=match Tryz.f229.body with|some c=>c|none=>.skip
theorem Kw:PP.funcs[229]? =some Tryz.f229:=by kernel_rfl
theorem Bz:Tryz.f229.body=some sB:=rfl
def MM (i:Nat):List Nat:=if i<1 then[0]else[2]
def Im (i:Nat):ao:=⟨[],[],[],[]⟩
def DN:au:=⟨[],MM,Im⟩
theorem Pd:av PP DN Tryz.f229.ntmps sB=true:=by kernel_rfl
noncomputable def w6:Code:=match Tryz.f245.body with|some c=>c|none=>.skip
theorem ach:PP.funcs[245]? =some Tryz.f245:=by kernel_rfl
theorem Wv:Tryz.f245.body=some w6:=rfl
def MO (i:Nat):List Nat:=if i<2 then if i<1 then[1,2,3,4]else[2,3,27]else if i<3 then[8,9]else[8,9]
def Ip (i:Nat):ao:=⟨[],[],[],[]⟩
def DP:au:=⟨[4],MO,Ip⟩
theorem aju:av PP DP Tryz.f245.ntmps w6=true:=by kernel_rfl
noncomputable def w7:Code:=match Tryz.f246.body with|some c=>c|none=>.skip
theorem aci:PP.funcs[246]? =some Tryz.f246:=by kernel_rfl
theorem Ww:Tryz.f246.body=some w7:=rfl
def MP (i:Nat):List Nat:=if i<9 then if i<4 then if i<2 then if i<1 then[2,3,4]else[2,4,7]else if i<3 then[2,4,7,8,9]else[2,7,8,9,13,14]else if i<6 then if i<5 then[2,7,8,9,13,14,15]else[2,7,8,9,10,13,14]else if i<7 then[2,7,8,9,10,13,14,19]else if i<8 then[2,7,8,9,10,13,14,19,20]else[2,7,8,9,10,13,14]else if i<13 then if i<11 then if i<10 then[2,7,8,9,13,14,35]else[6]else if i<12 then[2,7,8,9,13,14,36]else[2,7,8,9,13,14]else if i<15 then if i<14 then[2,7,8,9,13,14]else[2,8,41]else if i<16 then[48]else if i<17 then[6]else[6]
def Iq (i:Nat):ao:=⟨[],[],[],[]⟩
def DQ:au:=⟨[],MP,Iq⟩
theorem ajv:av PP DQ Tryz.f246.ntmps w7=true:=by kernel_rfl
noncomputable def w8:Code:=match Tryz.f247.body with|some c=>c|none=>.skip
theorem acj:PP.funcs[247]? =some Tryz.f247:=by kernel_rfl
theorem Wx:Tryz.f247.body=some w8:=rfl
def MQ (i:Nat):List Nat:=if i<5 then if i<2 then if i<1 then[2,3]else[2,3,5]else if i<3 then[2,3,5,12,13]else if i<4 then[2,3,5,12,13,14]else[2,3,5,6,12,13]else if i<7 then if i<6 then[2,3,5,6,8,12,13]else[2,3,5,6,12,13,23]else if i<8 then[2,3,5,12,13]else if i<9 then[2,3,5,12,13]else[4]
def It (i:Nat):ao:=⟨[],[],[],[]⟩
def DR:au:=⟨[2,3],MQ,It⟩
theorem ajw:av PP DR Tryz.f247.ntmps w8=true:=by kernel_rfl
noncomputable def xa:Code:=match Tryz.f248.body with|some c=>c|none=>.skip
theorem ack:PP.funcs[248]? =some Tryz.f248:=by kernel_rfl
theorem Wy:Tryz.f248.body=some xa:=rfl
def MR (i:Nat):List Nat:=if i<4 then if i<2 then if i<1 then[1,2,3,4,5]else[1,2,3,4,5,11]else if i<3 then[2,3,4,5,11,14,15,16]else[2,3,4,5,11,14,15,16,17]else if i<6 then if i<5 then[2,3,4,5,11,13,14,15,16]else[2,3,4,5,11,13,14,15,16,34]else if i<7 then[2,3,4,5,11,14,15,16]else if i<8 then[2,3,4,5,11,14,15,16]else[10]
def Iu (i:Nat):ao:=if i=5 then⟨[],[0,1,2,3,4,5,6,7,8,9,10,11,12,13,14],[[],[0],[],[2],[],[2,3,4],[2,3,4,5],[],[],[8],[],[8,9,10],[8,9,10,11],[],[0,1,2,3,4,5,6,7,8,9,10,11,12,13]],[]⟩else⟨[],[],[],[]⟩
def DS:au:=⟨[5],MR,Iu⟩
theorem ajx:av PP DS Tryz.f248.ntmps xa=true:=by kernel_rfl
noncomputable def xb:Code:=match Tryz.f249.body with|some c=>c|none=>.skip
theorem acm:PP.funcs[249]? =some Tryz.f249:=by kernel_rfl
theorem Wz:Tryz.f249.body=some xb:=rfl
def MS (i:Nat):List Nat:=if i<1 then[1,2,3]else if i<2 then[8]else[6]
def Iv (i:Nat):ao:=⟨[],[],[],[]⟩
def DT:au:=⟨[3,7],MS,Iv⟩
theorem ajy:av PP DT Tryz.f249.ntmps xb=true:=by kernel_rfl
noncomputable def xc:Code:=match Tryz.f250.body with|some c=>c|none=>.skip
theorem acn:PP.funcs[250]? =some Tryz.f250:=by kernel_rfl
theorem WA:Tryz.f250.body=some xc:=rfl
def MT (i:Nat):List Nat:=if i<7 then if i<3 then if i<1 then[0]else if i<2 then[0,13]else[2]else if i<5 then if i<4 then[0]else[0]else if i<6 then[]else[0,39]else if i<11 then if i<9 then if i<8 then[0,3]else[0,3,61]else if i<10 then[0]else[]else if i<13 then if i<12 then[0,80]else[0]else if i<14 then[]else[2]
def Iw (i:Nat):ao:=if i=1 then⟨[],[0,1,2,3,4,5,6,7,8,9],[[],[0],[0,1],[0,1,2],[0,1,2,3],[],[5],[5,6],[5,6,7],[0,1,2,3,4,5,6,7,8]],[]⟩else if i=6 then⟨[],[0,1,2,3,5,6,7,8,9,4,10,11],[[],[0],[0,1],[0,1,2],[0,1,2,3],[],[5],[5,6],[5,6,7],[5,6,7,8],[0,1,2,3,4,5,6,7,8,9],[0,1,2,3,4,5,6,7,8,9,10]],[]⟩else if i=11 then⟨[],[0,1,2,3,5,6,7,8,4,9,10],[[],[0],[0,1],[0,1,2],[0,1,2,3],[],[5],[5,6],[5,6,7],[0,1,2,3,4,5,6,7,8],[0,1,2,3,4,5,6,7,8,9]],[]⟩else if i=12 then⟨[],[0,1,2,3,4,5,6,7,8,9,10,11,12,13,14,15],[[],[],[1],[1,2],[1,2,3],[],[5],[5,6],[5,6,7],[5,6,7,8],[5,6,7,8,9],[5,6,7,8,9,10],[1,2,3,4,5,6,7,8,9,10,11],[0,1,2,3,4,5,6,7,8,9,10,11,12],[0,1,2,3,4,5,6,7,8,9,10,11,12,13],[0,1,2,3,4,5,6,7,8,9,10,11,12,13,14]],[]⟩else⟨[],[],[],[]⟩
def DU:au:=⟨[],MT,Iw⟩
theorem ajz:av PP DU Tryz.f250.ntmps xc=true:=by kernel_rfl
noncomputable def xd:Code:=match Tryz.f251.body with|some c=>c|none=>.skip
theorem aco:PP.funcs[251]? =some Tryz.f251:=by kernel_rfl
theorem WB:Tryz.f251.body=some xd:=rfl
def MU (i:Nat):List Nat:=if i<2 then if i<1 then[0]else[0,5]else if i<3 then[2]else if i<4 then[]else[2]
def Ix (i:Nat):ao:=if i=3 then⟨[],[0,1,2,3,4,5,6,7,8,9,10,11,12,13,14,15,16,17,18,19,20,21,22,23,24,25,26,27,28,29],[[],[],[],[2],[2,3],[2,3,4],[],[6],[6,7],[6,7,8],[6,7,8,9],[6,7,8,9,10],[2,3,4,5,6,7,8,9,10,11],[],[13],[13,14],[13,14,15],[],[17],[17,18],[17,18,19],[17,18,19,20],[17,18,19,20,21],[13,14,15,16,17,18,19,20,21,22],[0,2,3,4,5,6,7,8,9,10,11,12,13,14,15,16,17,18,19,20],[0,2,3,4,5,6,7,8,9,10,11,12,13,14,15,16,17,18,19,20,24],[0,2,3,4,5,6,7,8,9,10,11,12,13,14,15,16,17,18,19,20,24,25],[0,1,2,3,4,5,6,7,8,9,10,11,12,13,14,15,16,17,18,19,20,21,22,23,24,25,26],[0,1,2,3,4,5,6,7,8,9,10,11,12,13,14,15,16,17,18,19,20,21,22,23,24,25,26,27],[0,1,2,3,4,5,6,7,8,9,10,11,12,13,14,15,16,17,18,19,20,21,22,23,24,25,26,27,28]],[]⟩else⟨[],[],[],[]⟩
def DV:au:=⟨[],MU,Ix⟩
theorem ajA:av PP DV Tryz.f251.ntmps xd=true:=by kernel_rfl
noncomputable def xe:Code:=match Tryz.f252.body with|some c=>c|none=>.skip
theorem acp:PP.funcs[252]? =some Tryz.f252:=by kernel_rfl
theorem WC:Tryz.f252.body=some xe:=rfl
def MV (i:Nat):List Nat:=if i<7 then if i<3 then if i<1 then[0,1]else if i<2 then[0,1,5]else[0,1,5,36]else if i<5 then if i<4 then[4]else[0,1,5,6]else if i<6 then[0,1,5,6]else[0,1,5,6,44]else if i<10 then if i<8 then[0,1,5,6]else if i<9 then[0,1,5,6,7]else[0,1,5,6,7,55]else if i<12 then if i<11 then[0,1,5,6,7]else[0,1,5,6,7]else if i<13 then[]else[4]
def Iy (i:Nat):ao:=if i=11 then⟨[],[0,1,2,3,4,5,6,7,8,9,10,11,12,13,14,15],[[],[],[],[2],[2,3],[2,3,4],[],[],[6,7],[6,7,8],[],[],[],[2,3,4,5,6,7,8,9,10,11,12],[0,1,2,3,4,5,6,7,8,9,10,11,12,13],[0,1,2,3,4,5,6,7,8,9,10,11,12,13,14]],[]⟩else if i=12 then⟨[],[0,1,2,3,4,5,6,9,10,11,12,13,7,8,14,15,16,17,18,19,20,21],[[],[],[],[2],[2,3],[2,3,4],[],[6],[2,3,4,5,6,7],[],[9],[9,10],[9,10,11],[],[13],[2,3,4,5,6,7,8,9,10,11,12,13,14],[0,2,3,4,5,6,7,8,9,10,11,12,13,14,15],[0,2,3,4,5,6,7,8,9,10,11,12,13,14,15,16],[0,2,3,4,5,6,7,8,9,10,11,12,13,14,15,16,17],[0,1,2,3,4,5,6,7,8,9,10,11,12,13,14,15,16,17,18],[0,1,2,3,4,5,6,7,8,9,10,11,12,13,14,15,16,17,18,19],[0,1,2,3,4,5,6,7,8,9,10,11,12,13,14,15,16,17,18,19,20]],[[0,1,2,3,4,5,6,9,10,11,12,13,7,14,8,15,16,17,18,19,20,21],[0,1,2,3,4,5,6,9,10,11,12,13,14,7,8,15,16,17,18,19,20,21]]⟩else⟨[],[],[],[]⟩
def DW:au:=⟨[],MV,Iy⟩
theorem ajB:av PP DW Tryz.f252.ntmps xe=true:=by kernel_rfl
noncomputable def xf:Code:=match Tryz.f253.body with|some c=>c|none=>.skip
theorem acq:PP.funcs[253]? =some Tryz.f253:=by kernel_rfl
theorem WD:Tryz.f253.body=some xf:=rfl
def MW (i:Nat):List Nat:=if i<1 then[0,1]else[4]
def Iz (i:Nat):ao:=⟨[],[],[],[]⟩
def DX:au:=⟨[],MW,Iz⟩
theorem ajC:av PP DX Tryz.f253.ntmps xf=true:=by kernel_rfl
noncomputable def xg:Code:=match Tryz.f254.body with|some c=>c|none=>.skip
theorem acr:PP.funcs[254]? =some Tryz.f254:=by kernel_rfl
theorem WE:Tryz.f254.body=some xg:=rfl
def MX (i:Nat):List Nat:=if i<1 then[1]else[2]
def IA (i:Nat):ao:=⟨[],[],[],[]⟩
def DY:au:=⟨[1],MX,IA⟩
theorem ajD:av PP DY Tryz.f254.ntmps xg=true:=by kernel_rfl
noncomputable def xh:Code:=match Tryz.f255.body with|some c=>c|none=>.skip
theorem acs:PP.funcs[255]? =some Tryz.f255:=by kernel_rfl
theorem WG:Tryz.f255.body=some xh:=rfl
def MY (i:Nat):List Nat:=if i<1 then[2,3,4]else[6]
def IB (i:Nat):ao:=⟨[],[],[],[]⟩
def DZ:au:=⟨[3,4],MY,IB⟩
theorem ajE:av PP DZ Tryz.f255.ntmps xh=true:=by kernel_rfl
noncomputable def xi:Code:=match Tryz.f256.body with|some c=>c|none=>.skip
theorem acu:PP.funcs[256]? =some Tryz.f256:=by kernel_rfl
theorem WH:Tryz.f256.body=some xi:=rfl
def MZ (i:Nat):List Nat:=if i<1 then[0]else[2]
def IC (i:Nat):ao:=⟨[],[],[],[]⟩
def Ea:au:=⟨[],MZ,IC⟩
theorem ajF:av PP Ea Tryz.f256.ntmps xi=true:=by kernel_rfl
noncomputable def xj:Code:=match Tryz.f257.body with|some c=>c|none=>.skip
theorem acv:PP.funcs[257]? =some Tryz.f257:=by kernel_rfl
theorem WI:Tryz.f257.body=some xj:=rfl
def M0 (i:Nat):List Nat:=if i<1 then[0]else[2]
def ID (i:Nat):ao:=⟨[],[],[],[]⟩
def Eb:au:=⟨[],M0,ID⟩
theorem ajG:av PP Eb Tryz.f257.ntmps xj=true:=by kernel_rfl
noncomputable def xn:Code:=match Tryz.f284.body with|some c=>c|none=>.skip
theorem acz:PP.funcs[284]? =some Tryz.f284:=by kernel_rfl
theorem WM:Tryz.f284.body=some xn:=rfl
def M9 (i:Nat):List Nat:=if i<2 then if i<1 then[1,2,3,4]else[1,2,3,4,9]else if i<3 then[1,2,3,4,9,32]else if i<4 then[1,2,3,4,9]else[8]
def IH (i:Nat):ao:=⟨[],[],[],[]⟩
def Ef:au:=⟨[4],M9,IH⟩
theorem ajK:av PP Ef Tryz.f284.ntmps xn=true:=by kernel_rfl
noncomputable def xo:Code:=match Tryz.f285.body with|some c=>c|none=>.skip
theorem acA:PP.funcs[285]? =some Tryz.f285:=by kernel_rfl
theorem WN:Tryz.f285.body=some xo:=rfl
def Na (i:Nat):List Nat:=if i<4 then if i<2 then if i<1 then[0,1]else[0,1,5]else if i<3 then[0,5,7,8]else[0,5,7,8,9]else if i<6 then if i<5 then[0,5,6,7,8]else[0,5,7,8]else if i<7 then[0,5,7,8]else[4]
def II (i:Nat):ao:=⟨[],[],[],[]⟩
def Eh:au:=⟨[],Na,II⟩
theorem ajL:av PP Eh Tryz.f285.ntmps xo=true:=by kernel_rfl
noncomputable def xp:Code:=match Tryz.f286.body with|some c=>c|none=>.skip
theorem acB:PP.funcs[286]? =some Tryz.f286:=by kernel_rfl
theorem WO:Tryz.f286.body=some xp:=rfl
def Nb (i:Nat):List Nat:=if i<2 then if i<1 then[0,1,2]else[0,1,2,12]else if i<3 then[4]else[4]
def IJ (i:Nat):ao:=if i=3 then⟨[],[0,1,2,3,4,5,6,7,8,9,10],[[],[0],[0,1],[],[],[3,4],[3,4,5],[0,1,2,3,4,5,6],[0,1,2,3,4,5,6,7],[0,1,2,3,4,5,6,7,8],[0,1,2,3,4,5,6,7,8,9]],[]⟩else⟨[],[],[],[]⟩
def Ej:au:=⟨[],Nb,IJ⟩
theorem ajM:av PP Ej Tryz.f286.ntmps xp=true:=by kernel_rfl
noncomputable def xq:Code:=match Tryz.f287.body with|some c=>c|none=>.skip
theorem acC:PP.funcs[287]? =some Tryz.f287:=by kernel_rfl
theorem WQ:Tryz.f287.body=some xq:=rfl
def Nc (i:Nat):List Nat:=if i<2 then if i<1 then[0]else[0,4]else if i<3 then[2]else[2]
def IK (i:Nat):ao:=⟨[],[],[],[]⟩
def El:au:=⟨[],Nc,IK⟩
theorem ajN:av PP El Tryz.f287.ntmps xq=true:=by kernel_rfl
noncomputable def xr:Code:=match Tryz.f288.body with|some c=>c|none=>.skip
theorem acD:PP.funcs[288]? =some Tryz.f288:=by kernel_rfl
theorem WR:Tryz.f288.body=some xr:=rfl
def Nd (i:Nat):List Nat:=if i<5 then if i<2 then if i<1 then[0]else[0,7]else if i<3 then[2]else if i<4 then[0,3]else[0,3,9,10,11]else if i<8 then if i<6 then[0,3,9,10,11,12]else if i<7 then[0,3,4,5,9,10,11]else[0,3,4,9,10,11,18]else if i<9 then[0,3,9,10,11]else if i<10 then[0,3,9,10,11]else[2]
def IL (i:Nat):ao:=⟨[],[],[],[]⟩
def Em:au:=⟨[],Nd,IL⟩
theorem ajO:av PP Em Tryz.f288.ntmps xr=true:=by kernel_rfl
noncomputable def xu:Code:=match Tryz.f289.body with|some c=>c|none=>.skip
theorem acE:PP.funcs[289]? =some Tryz.f289:=by kernel_rfl
theorem WS:Tryz.f289.body=some xu:=rfl
def Nf (i:Nat):List Nat:=if i<2 then if i<1 then[0]else[0,4]else if i<3 then[2]else[2]
def IM (i:Nat):ao:=⟨[],[],[],[]⟩
def En:au:=⟨[],Nf,IM⟩
theorem ajP:av PP En Tryz.f289.ntmps xu=true:=by kernel_rfl
noncomputable def xv:Code:=match Tryz.f290.body with|some c=>c|none=>.skip
theorem acF:PP.funcs[290]? =some Tryz.f290:=by kernel_rfl
theorem WT:Tryz.f290.body=some xv:=rfl
def Ng (i:Nat):List Nat:=if i<3 then if i<1 then[0]else if i<2 then[0,3]else[0,3,4]else if i<4 then[4,13]else if i<5 then[4]else[2]
def IN (i:Nat):ao:=⟨[],[],[],[]⟩
def Eo:au:=⟨[],Ng,IN⟩
theorem ajQ:av PP Eo Tryz.f290.ntmps xv=true:=by kernel_rfl
noncomputable def xw:Code:=match Tryz.f291.body with|some c=>c|none=>.skip
theorem acG:PP.funcs[291]? =some Tryz.f291:=by kernel_rfl
theorem WU:Tryz.f291.body=some xw:=rfl
def Nh (i:Nat):List Nat:=if i<2 then if i<1 then[0,1]else[0,1,5]else if i<3 then[0,1,8]else if i<4 then[4]else[4]
def IP (i:Nat):ao:=⟨[],[],[],[]⟩
def Ep:au:=⟨[],Nh,IP⟩
theorem ajR:av PP Ep Tryz.f291.ntmps xw=true:=by kernel_rfl
noncomputable def xx:Code:=match Tryz.f292.body with|some c=>c|none=>.skip
theorem acH:PP.funcs[292]? =some Tryz.f292:=by kernel_rfl
theorem WV:Tryz.f292.body=some xx:=rfl
def Ni (i:Nat):List Nat:=if i<2 then if i<1 then[0,1]else[0,1,10]else if i<3 then[4]else if i<4 then[6]else[4]
def IQ (i:Nat):ao:=⟨[],[],[],[]⟩
def Es:au:=⟨[],Ni,IQ⟩
theorem ajS:av PP Es Tryz.f292.ntmps xx=true:=by kernel_rfl
noncomputable def xy:Code:=match Tryz.f293.body with|some c=>c|none=>.skip
theorem acI:PP.funcs[293]? =some Tryz.f293:=by kernel_rfl
theorem WW:Tryz.f293.body=some xy:=rfl
def Nj (i:Nat):List Nat:=if i<1 then[0]else[2]
def IS (i:Nat):ao:=if i=1 then⟨[],[0,1,2,3,4,5,6,7,8,9,10,11,12],[[],[0],[0,1],[0,1,2],[],[4],[4,5],[4,5,6],[4,5,6,7],[4,5,6,7,8],[0,1,2,3,4,5,6,7,8,9],[0,1,2,3,4,5,6,7,8,9,10],[0,1,2,3,4,5,6,7,8,9,10,11]],[]⟩else⟨[],[],[],[]⟩
def Et:au:=⟨[],Nj,IS⟩
theorem ajT:av PP Et Tryz.f293.ntmps xy=true:=by kernel_rfl
noncomputable def xz:Code:=match Tryz.f294.body with|some c=>c|none=>.skip
theorem acJ:PP.funcs[294]? =some Tryz.f294:=by kernel_rfl
theorem WX:Tryz.f294.body=some xz:=rfl
def Nk (i:Nat):List Nat:=if i<2 then if i<1 then[0]else[0,4]else if i<3 then[2]else[2]
def IT (i:Nat):ao:=⟨[],[],[],[]⟩
def Eu:au:=⟨[],Nk,IT⟩
theorem ajU:av PP Eu Tryz.f294.ntmps xz=true:=by kernel_rfl
noncomputable def xA:Code:=match Tryz.f295.body with|some c=>c|none=>.skip
theorem acK:PP.funcs[295]? =some Tryz.f295:=by kernel_rfl
theorem WY:Tryz.f295.body=some xA:=rfl
def Nl (i:Nat):List Nat:=if i<4 then if i<2 then if i<1 then[0,1]else[0,1,7,8]else if i<3 then[0,1,7,8,9]else[0,1,5,7,8]else if i<6 then if i<5 then[0,1,5,7,8,16]else[4]else if i<7 then[0,1,7,8]else[4]
def IU (i:Nat):ao:=⟨[],[],[],[]⟩
def Ev:au:=⟨[],Nl,IU⟩
theorem ajV:av PP Ev Tryz.f295.ntmps xA=true:=by kernel_rfl
noncomputable def xC:Code:=match Tryz.f296.body with|some c=>c|none=>.skip
theorem acL:PP.funcs[296]? =some Tryz.f296:=by kernel_rfl
theorem WZ:Tryz.f296.body=some xC:=rfl
def Nn (i:Nat):List Nat:=if i<4 then if i<2 then if i<1 then[2,3]else[2,3,11,12,13]else if i<3 then[2,3,11,12,13,14]else[2,3,6,11,12,13]else if i<6 then if i<5 then[2,3,11,12,13,26]else[4]else if i<7 then[2,3,11,12,13]else if i<8 then[7,8]else[4]
def IV (i:Nat):ao:=if i=7 then⟨[],[0,1,2,3,4,5,6,7,8,9,10,11],[[],[0],[],[2],[0,1,2,3],[],[5],[],[7],[5,6,7,8],[0,1,2,3,4],[0,1,2,3,4,5,6,7,8,9,10]],[]⟩else⟨[],[],[],[]⟩
def Ew:au:=⟨[2,3,6],Nn,IV⟩
theorem ajW:av PP Ew Tryz.f296.ntmps xC=true:=by kernel_rfl
noncomputable def xD:Code:=match Tryz.f310.body with|some c=>c|none=>.skip
theorem acM:PP.funcs[310]? =some Tryz.f310:=by kernel_rfl
theorem W4:Tryz.f310.body=some xD:=rfl
def No (i:Nat):List Nat:=if i<3 then if i<1 then[1,2,3]else if i<2 then[1,2,3,7]else[1,2,10]else if i<4 then[1,2,16]else if i<5 then[6]else[6]
def IW (i:Nat):ao:=⟨[],[],[],[]⟩
def Ey:au:=⟨[3],No,IW⟩
theorem ajX:av PP Ey Tryz.f310.ntmps xD=true:=by kernel_rfl
noncomputable def xE:Code:=match Tryz.f311.body with|some c=>c|none=>.skip
theorem acN:PP.funcs[311]? =some Tryz.f311:=by kernel_rfl
theorem W5:Tryz.f311.body=some xE:=rfl
def Np (i:Nat):List Nat:=if i<1 then[1,2]else[4]
def IX (i:Nat):ao:=if i=1 then⟨[],[0,1,2,3,4,5,6,7,8,9,10,11,12,13,14,15,16,17,18,19,20,21,22,23,24,25,26,27,28,29,30,31,32,33,34,35,36,37,38,39,40,41,42,43,44,45],[[],[0],[0,1],[0,1,2],[0,1,2],[0,1,2,4],[0,1,2,4,5],[0,1,2,4,5,6],[0,1,2,3,4,5,6,7],[0,1,2,3,4,5,6,7,8],[0,1,2,3,4,5,6,7,8,9],[0,1,2,3,4,5,6,7,8,9,10],[0,1,2,3,4,5,6,7,8,9,10,11],[0,1,2,3,4,5,6,7,8,9,10],[0,1,2,3,4,5,6,7,8,9,10,13],[0,1,2,3,4,5,6,7,8,9,10,11,12,13,14],[0,1,2,3,4,5,6,7,8,9,10,11,12,13,14,15],[0,1,2,3,4,5,6,7,8,9,10,11,12,13,14,15,16],[0,1,2,3,4,5,6,7,8,9,10],[0,1,2,3,4,5,6,7,8,9,10,18],[0,1,2,3,4,5,6,7,8,9,10],[0,1,2,3,4,5,6,7,8,9,10,18,19,20],[0,1,2,3,4,5,6,7,8,9,10,18,19,20,21],[0,1,2,3,4,5,6,7,8,9,10,18,19,20,21,22],[0,1,2,3,4,5,6,7,8,9,10,11,12,13,14,15,16,17,18,19,20,21,22,23],[0,1,2,3,4,5,6,7,8,9,10,11,12,13,14,15,16,17,18,19,20,21,22,23,24],[0,1,2,3,4,5,6,7,8,9,10,11,12,13,14,15,16,17,18,19,20,21,22,23,24,25],[0,1,2,3,4,5,6,7,8,9,10,11,12,13,14,15,16,17,18,19,20,21,22,23,24,25,26],[0,1,2,3,4,5,6,7,8,9,10,11,12,13,14,15,16,17,18,19,20,21,22,23,24,25,26,27],[0,1,2,3,4,5,6,7,8,9,10,11,12,13,14,15,16,17,18,19,20,21,22,23,24,25,26],[0,1,2,3,4,5,6,7,8,9,10,11,12,13,14,15,16,17,18,19,20,21,22,23,24,25,26,29],[0,1,2,3,4,5,6,7,8,9,10,11,12,13,14,15,16,17,18,19,20,21,22,23,24,25,26,27,28,29,30],[0,1,2,3,4,5,6,7,8,9,10,11,12,13,14,15,16,17,18,19,20,21,22,23,24,25,26,27,28,29,30,31],[0,1,2,3,4,5,6,7,8,9,10,11,12,13,14,15,16,17,18,19,20,21,22,23,24,25,26,27,28,29,30,31,32],[0,1,2,3,4,5,6,7,8,9,10,11,12,13,14,15,16,17,18,19,20,21,22,23,24,25,26],[0,1,2,3,4,5,6,7,8,9,10,11,12,13,14,15,16,17,18,19,20,21,22,23,24,25,26,34],[0,1,2,3,4,5,6,7,8,9,10,11,12,13,14,15,16,17,18,19,20,21,22,23,24,25,26],[0,1,2,3,4,5,6,7,8,9,10,11,12,13,14,15,16,17,18,19,20,21,22,23,24,25,26,34,35,36],[0,1,2,3,4,5,6,7,8,9,10,11,12,13,14,15,16,17,18,19,20,21,22,23,24,25,26,34,35,36,37],[0,1,2,3,4,5,6,7,8,9,10,11,12,13,14,15,16,17,18,19,20,21,22,23,24,25,26,34,35,36,37,38],[0,1,2,3,4,5,6,7,8,9,10,11,12,13,14,15,16,17,18,19,20,21,22,23,24,25,26,27,28,29,30,31,32,33,34,35,36,37,38,39],[0,1,2,3,4,5,6,7,8,9,10,11,12,13,14,15,16,17,18,19,20,21,22,23,24,25,26],[0,1,2,3,4,5,6,7,8,9,10,11,12,13,14,15,16,17,18,19,20,21,22,23,24,25,26,41],[0,1,2,3,4,5,6,7,8,9,10,11,12,13,14,15,16,17,18,19,20,21,22,23,24,25,26,27,28,29,30,31,32,33,34,35,36,37,38,39,40,41,42],[0,1,2,3,4,5,6,7,8,9,10,11,12,13,14,15,16,17,18,19,20,21,22,23,24,25,26,27,28,29,30,31,32,33,34,35,36,37,38,39,40,41,42,43],[0,1,2,3,4,5,6,7,8,9,10,11,12,13,14,15,16,17,18,19,20,21,22,23,24,25,26,27,28,29,30,31,32,33,34,35,36,37,38,39,40,41,42,43,44]],[]⟩else⟨[],[],[],[]⟩
def Ez:au:=⟨[2],Np,IX⟩
theorem ajY:av PP Ez Tryz.f311.ntmps xE=true:=by kernel_rfl
noncomputable def xF:Code:=match Tryz.f312.body with|some c=>c|none=>.skip
theorem acO:PP.funcs[312]? =some Tryz.f312:=by kernel_rfl
theorem W6:Tryz.f312.body=some xF:=rfl
def Nq (i:Nat):List Nat:=if i<2 then if i<1 then[0,1]else[0,1,8]else if i<3 then[4]else[4]
def IY (i:Nat):ao:=⟨[],[],[],[]⟩
def EC:au:=⟨[],Nq,IY⟩
theorem ajZ:av PP EC Tryz.f312.ntmps xF=true:=by kernel_rfl
theorem apW:PP.underlying 2=some (Go.TypeDesc.int Go.IntKind.i64):=by kernel_rfl
theorem rV:cf PP 2=some 1:=by kernel_rfl
theorem TP:cW PP 2=some false:=by kernel_rfl
theorem QG:PP.underlying 3=some (Go.TypeDesc.int Go.IntKind.i64):=by kernel_rfl
theorem aoZ:cf PP 3=some 1:=by kernel_rfl
theorem pO:PP.cellsOf 3=1:=by kernel_rfl
theorem yC:fX PP 3=some 8:=by kernel_rfl
theorem T8:cW PP 3=some false:=by kernel_rfl
theorem AJ:cT PP 3=some [(Go.Value.int Go.IntKind.i64 0)]:=by kernel_rfl
theorem ap5:PP.underlying 4=some Go.TypeDesc.bool:=by kernel_rfl
theorem ao6:cf PP 4=some 1:=by kernel_rfl
theorem FO:PP.cellsOf 4=1:=by kernel_rfl
theorem BK:fX PP 4=some 1:=by kernel_rfl
theorem Uf:cW PP 4=some false:=by kernel_rfl
theorem RC:cT PP 4=some [(Go.Value.bool false)]:=by kernel_rfl
theorem ap6:PP.underlying 5=some (Go.TypeDesc.int Go.IntKind.u8):=by kernel_rfl
theorem aqa:PP.underlying 9=some Go.TypeDesc.string:=by kernel_rfl
theorem apf:cf PP 9=some 1:=by kernel_rfl
theorem FU:PP.cellsOf 9=1:=by kernel_rfl
theorem BO:fX PP 9=some 16:=by kernel_rfl
theorem Uo:cW PP 9=some false:=by kernel_rfl
theorem RF:cT PP 9=some [(Go.Value.string {data:=#[]})]:=by kernel_rfl
theorem apZ:PP.underlying 21=some (Go.TypeDesc.int Go.IntKind.i32):=by kernel_rfl
theorem Qv:PP.underlying 22=some (Go.TypeDesc.slice 3):=by kernel_rfl
theorem aoP:cf PP 22=some 1:=by kernel_rfl
theorem Zj:PP.cellsOf 22=1:=by kernel_rfl
theorem Ym:fX PP 22=some 24:=by kernel_rfl
theorem TR:cW PP 22=some false:=by kernel_rfl
theorem aqT:cT PP 22=some [(Go.Value.slice none 0 0)]:=by kernel_rfl
theorem JV:ep PP 22=some (3,1):=by kernel_rfl
theorem QA:PP.underlying 26=some (Go.TypeDesc.pointer 77):=by kernel_rfl
theorem QE:PP.underlying 29=some (Go.TypeDesc.struct #[⟨ "Size",3,0,false,"","",0⟩,⟨ "Wheels",3,1,false,"","",8⟩]):=by kernel_rfl
theorem aoY:cf PP 29=some 2:=by kernel_rfl
theorem FL:PP.cellsOf 29=2:=by kernel_rfl
theorem BE:fX PP 29=some 16:=by kernel_rfl
theorem T7:cW PP 29=some true:=by kernel_rfl
theorem AI:cT PP 29=some [(Go.Value.int Go.IntKind.i64 0),(Go.Value.int Go.IntKind.i64 0)]:=by kernel_rfl
theorem anV:PP.stoodInHeld 29=false:=by kernel_rfl
theorem ahq:bJ PP 29 0=some (0,3,1):=by kernel_rfl
theorem ahr:bJ PP 29 1=some (1,3,1):=by kernel_rfl
theorem alV:eL PP #[⟨ "Size",3,0,false,"","",0⟩,⟨ "Wheels",3,1,false,"","",8⟩].toList=some [(0,1),(1,1)]:=by kernel_rfl
theorem X0 (σ:St) (parts:Array (Nat×Operand)):cI PP σ 29 parts=(match cz σ parts.toList with|some ps=>(match dZ (fun i=>([(0,1),(1,1)]:List (Nat×Nat))[i]?) [(Go.Value.int Go.IntKind.i64 0),(Go.Value.int Go.IntKind.i64 0)] ps with|some out=>some (.agg ⟨out⟩,σ)|none=>none)|none=>none):=by
 unfold cI;rw[QE];simp only[];rw[alV,AI];cases cz σ parts.toList<;>rfl
theorem QH:PP.underlying 31=some (Go.TypeDesc.struct #[⟨ "Kind",3,0,false,"","",0⟩,⟨ "A",3,1,false,"","",8⟩,⟨ "Party",29,2,false,"","",16⟩,⟨ "Text",9,4,false,"","",32⟩]):=by kernel_rfl
theorem ao0:cf PP 31=some 5:=by kernel_rfl
theorem T9:cW PP 31=some true:=by kernel_rfl
theorem Rw:cT PP 31=some [(Go.Value.int Go.IntKind.i64 0),(Go.Value.int Go.IntKind.i64 0),(Go.Value.int Go.IntKind.i64 0),(Go.Value.int Go.IntKind.i64 0),(Go.Value.string {data:=#[]})]:=by kernel_rfl
theorem ahs:bJ PP 31 0=some (0,3,1):=by kernel_rfl
theorem aht:bJ PP 31 1=some (1,3,1):=by kernel_rfl
theorem ahu:bJ PP 31 2=some (2,29,2):=by kernel_rfl
theorem ahv:bJ PP 31 3=some (4,9,1):=by kernel_rfl
theorem alX:eL PP #[⟨ "Kind",3,0,false,"","",0⟩,⟨ "A",3,1,false,"","",8⟩,⟨ "Party",29,2,false,"","",16⟩,⟨ "Text",9,4,false,"","",32⟩].toList=some [(0,1),(1,1),(2,2),(4,1)]:=by kernel_rfl
theorem X7 (σ:St) (parts:Array (Nat×Operand)):cI PP σ 31 parts=(match cz σ parts.toList with|some ps=>(match dZ (fun i=>([(0,1),(1,1),(2,2),(4,1)]:List (Nat×Nat))[i]?) [(Go.Value.int Go.IntKind.i64 0),(Go.Value.int Go.IntKind.i64 0),(Go.Value.int Go.IntKind.i64 0),(Go.Value.int Go.IntKind.i64 0),(Go.Value.string {data:=#[]})] ps with|some out=>some (.agg ⟨out⟩,σ)|none=>none)|none=>none):=by
 unfold cI;rw[QH];simp only[];rw[alX,Rw];cases cz σ parts.toList<;>rfl
theorem QI:PP.underlying 33=some (Go.TypeDesc.slice 43):=by kernel_rfl
theorem ao2:cf PP 33=some 1:=by kernel_rfl
theorem Ub:cW PP 33=some false:=by kernel_rfl
theorem JX:ep PP 33=some (43,6):=by kernel_rfl
theorem QM:PP.underlying 36=some (Go.TypeDesc.struct #[⟨ "Line",3,0,false,"","",0⟩,⟨ "Col",3,1,false,"","",8⟩]):=by kernel_rfl
theorem ao4:cf PP 36=some 2:=by kernel_rfl
theorem Ud:cW PP 36=some true:=by kernel_rfl
theorem Rz:cT PP 36=some [(Go.Value.int Go.IntKind.i64 0),(Go.Value.int Go.IntKind.i64 0)]:=by kernel_rfl
theorem aed:PP.eqGuardType PP.depth 36=false:=by kernel_rfl
theorem anW:PP.stoodInHeld 36=false:=by kernel_rfl
theorem ahB:bJ PP 36 0=some (0,3,1):=by kernel_rfl
theorem ahC:bJ PP 36 1=some (1,3,1):=by kernel_rfl
theorem al0:eL PP #[⟨ "Line",3,0,false,"","",0⟩,⟨ "Col",3,1,false,"","",8⟩].toList=some [(0,1),(1,1)]:=by kernel_rfl
theorem Ya (σ:St) (parts:Array (Nat×Operand)):cI PP σ 36 parts=(match cz σ parts.toList with|some ps=>(match dZ (fun i=>([(0,1),(1,1)]:List (Nat×Nat))[i]?) [(Go.Value.int Go.IntKind.i64 0),(Go.Value.int Go.IntKind.i64 0)] ps with|some out=>some (.agg ⟨out⟩,σ)|none=>none)|none=>none):=by
 unfold cI;rw[QM];simp only[];rw[al0,Rz];cases cz σ parts.toList<;>rfl
theorem QN:PP.underlying 38=some (Go.TypeDesc.struct #[⟨ "Code",3,0,false,"","",0⟩,⟨ "N",3,1,false,"","",8⟩,⟨ "Spot",36,2,false,"","",16⟩,⟨ "Seats",22,4,false,"","",32⟩]):=by kernel_rfl
theorem ao5:cf PP 38=some 5:=by kernel_rfl
theorem Ue:cW PP 38=some true:=by kernel_rfl
theorem RA:cT PP 38=some [(Go.Value.int Go.IntKind.i64 0),(Go.Value.int Go.IntKind.i64 0),(Go.Value.int Go.IntKind.i64 0),(Go.Value.int Go.IntKind.i64 0),(Go.Value.slice none 0 0)]:=by kernel_rfl
theorem ahD:bJ PP 38 0=some (0,3,1):=by kernel_rfl
theorem ahE:bJ PP 38 1=some (1,3,1):=by kernel_rfl
theorem ahF:bJ PP 38 3=some (4,22,1):=by kernel_rfl
theorem al1:eL PP #[⟨ "Code",3,0,false,"","",0⟩,⟨ "N",3,1,false,"","",8⟩,⟨ "Spot",36,2,false,"","",16⟩,⟨ "Seats",22,4,false,"","",32⟩].toList=some [(0,1),(1,1),(2,2),(4,1)]:=by kernel_rfl
theorem Yb (σ:St) (parts:Array (Nat×Operand)):cI PP σ 38 parts=(match cz σ parts.toList with|some ps=>(match dZ (fun i=>([(0,1),(1,1),(2,2),(4,1)]:List (Nat×Nat))[i]?) [(Go.Value.int Go.IntKind.i64 0),(Go.Value.int Go.IntKind.i64 0),(Go.Value.int Go.IntKind.i64 0),(Go.Value.int Go.IntKind.i64 0),(Go.Value.slice none 0 0)] ps with|some out=>some (.agg ⟨out⟩,σ)|none=>none)|none=>none):=by
 unfold cI;rw[QN];simp only[];rw[al1,RA];cases cz σ parts.toList<;>rfl
theorem QO:PP.underlying 39=some (Go.TypeDesc.slice 73):=by kernel_rfl
theorem JZ:ep PP 39=some (73,9):=by kernel_rfl
theorem QP:PP.underlying 43=some (Go.TypeDesc.struct #[⟨ "Id",3,0,false,"","",0⟩,⟨ "State",3,1,false,"","",8⟩,⟨ "Party",29,2,false,"","",16⟩,⟨ "Until",2,4,false,"","",32⟩,⟨ "First",3,5,false,"","",40⟩]):=by kernel_rfl
theorem ao7:cf PP 43=some 6:=by kernel_rfl
theorem FP:PP.cellsOf 43=6:=by kernel_rfl
theorem BL:fX PP 43=some 48:=by kernel_rfl
theorem Ug:cW PP 43=some true:=by kernel_rfl
theorem AL:cT PP 43=some [(Go.Value.int Go.IntKind.i64 0),(Go.Value.int Go.IntKind.i64 0),(Go.Value.int Go.IntKind.i64 0),(Go.Value.int Go.IntKind.i64 0),(Go.Value.int Go.IntKind.i64 0),(Go.Value.int Go.IntKind.i64 0)]:=by kernel_rfl
theorem aee:PP.eqGuardType PP.depth 43=false:=by kernel_rfl
theorem anX:PP.stoodInHeld 43=false:=by kernel_rfl
theorem ahG:bJ PP 43 0=some (0,3,1):=by kernel_rfl
theorem ahH:bJ PP 43 1=some (1,3,1):=by kernel_rfl
theorem ahI:bJ PP 43 2=some (2,29,2):=by kernel_rfl
theorem ahJ:bJ PP 43 3=some (4,2,1):=by kernel_rfl
theorem ahK:bJ PP 43 4=some (5,3,1):=by kernel_rfl
theorem al2:eL PP #[⟨ "Id",3,0,false,"","",0⟩,⟨ "State",3,1,false,"","",8⟩,⟨ "Party",29,2,false,"","",16⟩,⟨ "Until",2,4,false,"","",32⟩,⟨ "First",3,5,false,"","",40⟩].toList=some [(0,1),(1,1),(2,2),(4,1),(5,1)]:=by kernel_rfl
theorem Yc (σ:St) (parts:Array (Nat×Operand)):cI PP σ 43 parts=(match cz σ parts.toList with|some ps=>(match dZ (fun i=>([(0,1),(1,1),(2,2),(4,1),(5,1)]:List (Nat×Nat))[i]?) [(Go.Value.int Go.IntKind.i64 0),(Go.Value.int Go.IntKind.i64 0),(Go.Value.int Go.IntKind.i64 0),(Go.Value.int Go.IntKind.i64 0),(Go.Value.int Go.IntKind.i64 0),(Go.Value.int Go.IntKind.i64 0)] ps with|some out=>some (.agg ⟨out⟩,σ)|none=>none)|none=>none):=by
 unfold cI;rw[QP];simp only[];rw[al2,AL];cases cz σ parts.toList<;>rfl
theorem ap7:PP.underlying 50=some (Go.TypeDesc.int Go.IntKind.u64):=by kernel_rfl
theorem ap8:PP.underlying 60=some (Go.TypeDesc.slice 99):=by kernel_rfl
theorem ao8:cf PP 60=some 1:=by kernel_rfl
theorem Uh:cW PP 60=some false:=by kernel_rfl
theorem aaa:ep PP 60=some (99,4):=by kernel_rfl
theorem ap9:PP.underlying 61=some (Go.TypeDesc.slice 103):=by kernel_rfl
theorem ao9:cf PP 61=some 1:=by kernel_rfl
theorem Ui:cW PP 61=some false:=by kernel_rfl
theorem aab:ep PP 61=some (103,3):=by kernel_rfl
theorem QQ:PP.underlying 63=some (Go.TypeDesc.struct #[⟨ "Seats",60,0,false,"","",0⟩,⟨ "Gap",3,1,false,"","",24⟩,⟨ "Radius",3,2,false,"","",32⟩,⟨ "Kills",22,3,false,"","",40⟩,⟨ "Poles",61,4,false,"","",64⟩]):=by kernel_rfl
theorem apa:cf PP 63=some 5:=by kernel_rfl
theorem Uj:cW PP 63=some true:=by kernel_rfl
theorem RD:cT PP 63=some [(Go.Value.slice none 0 0),(Go.Value.int Go.IntKind.i64 0),(Go.Value.int Go.IntKind.i64 0),(Go.Value.slice none 0 0),(Go.Value.slice none 0 0)]:=by kernel_rfl
theorem ahL:bJ PP 63 0=some (0,60,1):=by kernel_rfl
theorem ahM:bJ PP 63 1=some (1,3,1):=by kernel_rfl
theorem ahN:bJ PP 63 2=some (2,3,1):=by kernel_rfl
theorem ahO:bJ PP 63 3=some (3,22,1):=by kernel_rfl
theorem ahP:bJ PP 63 4=some (4,61,1):=by kernel_rfl
theorem al3:eL PP #[⟨ "Seats",60,0,false,"","",0⟩,⟨ "Gap",3,1,false,"","",24⟩,⟨ "Radius",3,2,false,"","",32⟩,⟨ "Kills",22,3,false,"","",40⟩,⟨ "Poles",61,4,false,"","",64⟩].toList=some [(0,1),(1,1),(2,1),(3,1),(4,1)]:=by kernel_rfl
theorem Yd (σ:St) (parts:Array (Nat×Operand)):cI PP σ 63 parts=(match cz σ parts.toList with|some ps=>(match dZ (fun i=>([(0,1),(1,1),(2,1),(3,1),(4,1)]:List (Nat×Nat))[i]?) [(Go.Value.slice none 0 0),(Go.Value.int Go.IntKind.i64 0),(Go.Value.int Go.IntKind.i64 0),(Go.Value.slice none 0 0),(Go.Value.slice none 0 0)] ps with|some out=>some (.agg ⟨out⟩,σ)|none=>none)|none=>none):=by
 unfold cI;rw[QQ];simp only[];rw[al3,RD];cases cz σ parts.toList<;>rfl
theorem QR:PP.underlying 66=some (Go.TypeDesc.slice 29):=by kernel_rfl
theorem apb:cf PP 66=some 1:=by kernel_rfl
theorem Uk:cW PP 66=some false:=by kernel_rfl
theorem J0:ep PP 66=some (29,2):=by kernel_rfl
theorem QS:PP.underlying 67=some (Go.TypeDesc.slice 69):=by kernel_rfl
theorem J1:ep PP 67=some (69,2):=by kernel_rfl
theorem QT:PP.underlying 69=some (Go.TypeDesc.struct #[⟨ "Party",3,0,false,"","",0⟩,⟨ "First",3,1,false,"","",8⟩]):=by kernel_rfl
theorem apc:cf PP 69=some 2:=by kernel_rfl
theorem FQ:PP.cellsOf 69=2:=by kernel_rfl
theorem BM:fX PP 69=some 16:=by kernel_rfl
theorem Ul:cW PP 69=some true:=by kernel_rfl
theorem AM:cT PP 69=some [(Go.Value.int Go.IntKind.i64 0),(Go.Value.int Go.IntKind.i64 0)]:=by kernel_rfl
theorem ahQ:bJ PP 69 0=some (0,3,1):=by kernel_rfl
theorem ahR:bJ PP 69 1=some (1,3,1):=by kernel_rfl
theorem al4:eL PP #[⟨ "Party",3,0,false,"","",0⟩,⟨ "First",3,1,false,"","",8⟩].toList=some [(0,1),(1,1)]:=by kernel_rfl
theorem Ye (σ:St) (parts:Array (Nat×Operand)):cI PP σ 69 parts=(match cz σ parts.toList with|some ps=>(match dZ (fun i=>([(0,1),(1,1)]:List (Nat×Nat))[i]?) [(Go.Value.int Go.IntKind.i64 0),(Go.Value.int Go.IntKind.i64 0)] ps with|some out=>some (.agg ⟨out⟩,σ)|none=>none)|none=>none):=by
 unfold cI;rw[QT];simp only[];rw[al4,AM];cases cz σ parts.toList<;>rfl
theorem QU:PP.underlying 73=some (Go.TypeDesc.struct #[⟨ "Kind",3,0,false,"","",0⟩,⟨ "Text",9,1,false,"","",8⟩,⟨ "Order",43,2,false,"","",24⟩,⟨ "Time",2,8,false,"","",72⟩]):=by kernel_rfl
theorem apd:cf PP 73=some 9:=by kernel_rfl
theorem FT:PP.cellsOf 73=9:=by kernel_rfl
theorem BN:fX PP 73=some 80:=by kernel_rfl
theorem Um:cW PP 73=some true:=by kernel_rfl
theorem AN:cT PP 73=some [(Go.Value.int Go.IntKind.i64 0),(Go.Value.string {data:=#[]}),(Go.Value.int Go.IntKind.i64 0),(Go.Value.int Go.IntKind.i64 0),(Go.Value.int Go.IntKind.i64 0),(Go.Value.int Go.IntKind.i64 0),(Go.Value.int Go.IntKind.i64 0),(Go.Value.int Go.IntKind.i64 0),(Go.Value.int Go.IntKind.i64 0)]:=by kernel_rfl
theorem aef:PP.eqGuardType PP.depth 73=false:=by kernel_rfl
theorem anY:PP.stoodInHeld 73=false:=by kernel_rfl
theorem ahS:bJ PP 73 0=some (0,3,1):=by kernel_rfl
theorem ahT:bJ PP 73 1=some (1,9,1):=by kernel_rfl
theorem ahU:bJ PP 73 2=some (2,43,6):=by kernel_rfl
theorem ahV:bJ PP 73 3=some (8,2,1):=by kernel_rfl
theorem al5:eL PP #[⟨ "Kind",3,0,false,"","",0⟩,⟨ "Text",9,1,false,"","",8⟩,⟨ "Order",43,2,false,"","",24⟩,⟨ "Time",2,8,false,"","",72⟩].toList=some [(0,1),(1,1),(2,6),(8,1)]:=by kernel_rfl
theorem Yf (σ:St) (parts:Array (Nat×Operand)):cI PP σ 73 parts=(match cz σ parts.toList with|some ps=>(match dZ (fun i=>([(0,1),(1,1),(2,6),(8,1)]:List (Nat×Nat))[i]?) [(Go.Value.int Go.IntKind.i64 0),(Go.Value.string {data:=#[]}),(Go.Value.int Go.IntKind.i64 0),(Go.Value.int Go.IntKind.i64 0),(Go.Value.int Go.IntKind.i64 0),(Go.Value.int Go.IntKind.i64 0),(Go.Value.int Go.IntKind.i64 0),(Go.Value.int Go.IntKind.i64 0),(Go.Value.int Go.IntKind.i64 0)] ps with|some out=>some (.agg ⟨out⟩,σ)|none=>none)|none=>none):=by
 unfold cI;rw[QU];simp only[];rw[al5,AN];cases cz σ parts.toList<;>rfl
theorem QV:PP.underlying 77=some (Go.TypeDesc.struct #[⟨ "fuel",3,0,false,"","parterre/book",0⟩,⟨ "has",4,1,false,"","parterre/book",8⟩,⟨ "v",63,2,false,"","parterre/book",16⟩,⟨ "l",33,7,false,"","parterre/book",104⟩,⟨ "now",2,8,false,"","parterre/book",128⟩]):=by kernel_rfl
theorem ape:cf PP 77=some 9:=by kernel_rfl
theorem Un:cW PP 77=some true:=by kernel_rfl
theorem RE:cT PP 77=some [(Go.Value.int Go.IntKind.i64 0),(Go.Value.bool false),(Go.Value.slice none 0 0),(Go.Value.int Go.IntKind.i64 0),(Go.Value.int Go.IntKind.i64 0),(Go.Value.slice none 0 0),(Go.Value.slice none 0 0),(Go.Value.slice none 0 0),(Go.Value.int Go.IntKind.i64 0)]:=by kernel_rfl
theorem ahW:bJ PP 77 0=some (0,3,1):=by kernel_rfl
theorem ahX:bJ PP 77 1=some (1,4,1):=by kernel_rfl
theorem ahY:bJ PP 77 2=some (2,63,5):=by kernel_rfl
theorem ahZ:bJ PP 77 3=some (7,33,1):=by kernel_rfl
theorem ah0:bJ PP 77 4=some (8,2,1):=by kernel_rfl
theorem al6:eL PP #[⟨ "fuel",3,0,false,"","parterre/book",0⟩,⟨ "has",4,1,false,"","parterre/book",8⟩,⟨ "v",63,2,false,"","parterre/book",16⟩,⟨ "l",33,7,false,"","parterre/book",104⟩,⟨ "now",2,8,false,"","parterre/book",128⟩].toList=some [(0,1),(1,1),(2,5),(7,1),(8,1)]:=by kernel_rfl
theorem Yg (σ:St) (parts:Array (Nat×Operand)):cI PP σ 77 parts=(match cz σ parts.toList with|some ps=>(match dZ (fun i=>([(0,1),(1,1),(2,5),(7,1),(8,1)]:List (Nat×Nat))[i]?) [(Go.Value.int Go.IntKind.i64 0),(Go.Value.bool false),(Go.Value.slice none 0 0),(Go.Value.int Go.IntKind.i64 0),(Go.Value.int Go.IntKind.i64 0),(Go.Value.slice none 0 0),(Go.Value.slice none 0 0),(Go.Value.slice none 0 0),(Go.Value.int Go.IntKind.i64 0)] ps with|some out=>some (.agg ⟨out⟩,σ)|none=>none)|none=>none):=by
 unfold cI;rw[QV];simp only[];rw[al6,RE];cases cz σ parts.toList<;>rfl
theorem QW:PP.underlying 99=some (Go.TypeDesc.struct #[⟨ "Row",3,0,false,"","",0⟩,⟨ "X",3,1,false,"","",8⟩,⟨ "Y",3,2,false,"","",16⟩,⟨ "Kind",3,3,false,"","",24⟩]):=by kernel_rfl
theorem apg:cf PP 99=some 4:=by kernel_rfl
theorem Zl:PP.cellsOf 99=4:=by kernel_rfl
theorem Yo:fX PP 99=some 32:=by kernel_rfl
theorem Up:cW PP 99=some true:=by kernel_rfl
theorem RG:cT PP 99=some [(Go.Value.int Go.IntKind.i64 0),(Go.Value.int Go.IntKind.i64 0),(Go.Value.int Go.IntKind.i64 0),(Go.Value.int Go.IntKind.i64 0)]:=by kernel_rfl
theorem aeg:PP.eqGuardType PP.depth 99=false:=by kernel_rfl
theorem anZ:PP.stoodInHeld 99=false:=by kernel_rfl
theorem ah1:bJ PP 99 0=some (0,3,1):=by kernel_rfl
theorem ah2:bJ PP 99 1=some (1,3,1):=by kernel_rfl
theorem ah3:bJ PP 99 2=some (2,3,1):=by kernel_rfl
theorem ah4:bJ PP 99 3=some (3,3,1):=by kernel_rfl
theorem al7:eL PP #[⟨ "Row",3,0,false,"","",0⟩,⟨ "X",3,1,false,"","",8⟩,⟨ "Y",3,2,false,"","",16⟩,⟨ "Kind",3,3,false,"","",24⟩].toList=some [(0,1),(1,1),(2,1),(3,1)]:=by kernel_rfl
theorem Yh (σ:St) (parts:Array (Nat×Operand)):cI PP σ 99 parts=(match cz σ parts.toList with|some ps=>(match dZ (fun i=>([(0,1),(1,1),(2,1),(3,1)]:List (Nat×Nat))[i]?) [(Go.Value.int Go.IntKind.i64 0),(Go.Value.int Go.IntKind.i64 0),(Go.Value.int Go.IntKind.i64 0),(Go.Value.int Go.IntKind.i64 0)] ps with|some out=>some (.agg ⟨out⟩,σ)|none=>none)|none=>none):=by
 unfold cI;rw[QW];simp only[];rw[al7,RG];cases cz σ parts.toList<;>rfl
theorem Qo:PP.underlying 103=some (Go.TypeDesc.struct #[⟨ "X",3,0,false,"","",0⟩,⟨ "Y",3,1,false,"","",8⟩,⟨ "R",3,2,false,"","",16⟩]):=by kernel_rfl
theorem aoG:cf PP 103=some 3:=by kernel_rfl
theorem Zg:PP.cellsOf 103=3:=by kernel_rfl
theorem Yj:fX PP 103=some 24:=by kernel_rfl
theorem TH:cW PP 103=some true:=by kernel_rfl
theorem Rm:cT PP 103=some [(Go.Value.int Go.IntKind.i64 0),(Go.Value.int Go.IntKind.i64 0),(Go.Value.int Go.IntKind.i64 0)]:=by kernel_rfl
theorem aeb:PP.eqGuardType PP.depth 103=false:=by kernel_rfl
theorem anT:PP.stoodInHeld 103=false:=by kernel_rfl
theorem agO:bJ PP 103 0=some (0,3,1):=by kernel_rfl
theorem agP:bJ PP 103 1=some (1,3,1):=by kernel_rfl
theorem agQ:bJ PP 103 2=some (2,3,1):=by kernel_rfl
theorem alM:eL PP #[⟨ "X",3,0,false,"","",0⟩,⟨ "Y",3,1,false,"","",8⟩,⟨ "R",3,2,false,"","",16⟩].toList=some [(0,1),(1,1),(2,1)]:=by kernel_rfl
theorem XR (σ:St) (parts:Array (Nat×Operand)):cI PP σ 103 parts=(match cz σ parts.toList with|some ps=>(match dZ (fun i=>([(0,1),(1,1),(2,1)]:List (Nat×Nat))[i]?) [(Go.Value.int Go.IntKind.i64 0),(Go.Value.int Go.IntKind.i64 0),(Go.Value.int Go.IntKind.i64 0)] ps with|some out=>some (.agg ⟨out⟩,σ)|none=>none)|none=>none):=by
 unfold cI;rw[Qo];simp only[];rw[alM,Rm];cases cz σ parts.toList<;>rfl
theorem AA:PP.underlying 110=some (Go.TypeDesc.interface #[("Error",182)]):=by kernel_rfl
theorem aoH:cf PP 110=some 1:=by kernel_rfl
theorem TI:cW PP 110=some false:=by kernel_rfl
theorem Qp:PP.underlying 113=some (Go.TypeDesc.slice 3):=by kernel_rfl
theorem aoI:cf PP 113=some 1:=by kernel_rfl
theorem TJ:cW PP 113=some false:=by kernel_rfl
theorem JS:ep PP 113=some (3,1):=by kernel_rfl
theorem Qq:PP.underlying 122=some (Go.TypeDesc.slice 9):=by kernel_rfl
theorem JT:ep PP 122=some (9,1):=by kernel_rfl
theorem Qr:PP.underlying 131=some (Go.TypeDesc.slice 4):=by kernel_rfl
theorem aoJ:cf PP 131=some 1:=by kernel_rfl
theorem TK:cW PP 131=some false:=by kernel_rfl
theorem JU:ep PP 131=some (4,1):=by kernel_rfl
theorem Qs:PP.underlying 155=some (Go.TypeDesc.struct #[⟨ "Answer",3,0,false,"","",0⟩,⟨ "Plan",113,1,false,"","",8⟩,⟨ "Nodes",3,2,false,"","",32⟩,⟨ "Tree",131,3,false,"","",40⟩]):=by kernel_rfl
theorem aoK:cf PP 155=some 4:=by kernel_rfl
theorem TL:cW PP 155=some true:=by kernel_rfl
theorem Rn:cT PP 155=some [(Go.Value.int Go.IntKind.i64 0),(Go.Value.slice none 0 0),(Go.Value.int Go.IntKind.i64 0),(Go.Value.slice none 0 0)]:=by kernel_rfl
theorem agR:bJ PP 155 0=some (0,3,1):=by kernel_rfl
theorem agS:bJ PP 155 1=some (1,113,1):=by kernel_rfl
theorem agT:bJ PP 155 2=some (2,3,1):=by kernel_rfl
theorem agU:bJ PP 155 3=some (3,131,1):=by kernel_rfl
theorem alN:eL PP #[⟨ "Answer",3,0,false,"","",0⟩,⟨ "Plan",113,1,false,"","",8⟩,⟨ "Nodes",3,2,false,"","",32⟩,⟨ "Tree",131,3,false,"","",40⟩].toList=some [(0,1),(1,1),(2,1),(3,1)]:=by kernel_rfl
theorem XS (σ:St) (parts:Array (Nat×Operand)):cI PP σ 155 parts=(match cz σ parts.toList with|some ps=>(match dZ (fun i=>([(0,1),(1,1),(2,1),(3,1)]:List (Nat×Nat))[i]?) [(Go.Value.int Go.IntKind.i64 0),(Go.Value.slice none 0 0),(Go.Value.int Go.IntKind.i64 0),(Go.Value.slice none 0 0)] ps with|some out=>some (.agg ⟨out⟩,σ)|none=>none)|none=>none):=by
 unfold cI;rw[Qs];simp only[];rw[alN,Rn];cases cz σ parts.toList<;>rfl
theorem apS:PP.underlying 161=some (Go.TypeDesc.slice 193):=by kernel_rfl
theorem Z4:ep PP 161=some (193,5):=by kernel_rfl
theorem apT:PP.underlying 167=some (Go.TypeDesc.map 228 3):=by kernel_rfl
theorem aoL:cf PP 167=some 1:=by kernel_rfl
theorem TM:cW PP 167=some false:=by kernel_rfl
theorem apU:PP.underlying 168=some (Go.TypeDesc.slice 230):=by kernel_rfl
theorem aoM:cf PP 168=some 1:=by kernel_rfl
theorem TN:cW PP 168=some false:=by kernel_rfl
theorem Z5:ep PP 168=some (230,6):=by kernel_rfl
theorem Qt:PP.underlying 170=some (Go.TypeDesc.struct #[⟨ "v",63,0,false,"","parterre/parse",0⟩,⟨ "end",36,5,false,"","parterre/parse",88⟩,⟨ "at",167,7,false,"","parterre/parse",104⟩,⟨ "kills",168,8,false,"","parterre/parse",112⟩,⟨ "radius",4,9,false,"","parterre/parse",136⟩]):=by kernel_rfl
theorem Ro:cT PP 170=some [(Go.Value.slice none 0 0),(Go.Value.int Go.IntKind.i64 0),(Go.Value.int Go.IntKind.i64 0),(Go.Value.slice none 0 0),(Go.Value.slice none 0 0),(Go.Value.int Go.IntKind.i64 0),(Go.Value.int Go.IntKind.i64 0),(Go.Value.map none),(Go.Value.slice none 0 0),(Go.Value.bool false)]:=by kernel_rfl
theorem agV:bJ PP 170 0=some (0,63,5):=by kernel_rfl
theorem agW:bJ PP 170 1=some (5,36,2):=by kernel_rfl
theorem agX:bJ PP 170 2=some (7,167,1):=by kernel_rfl
theorem agY:bJ PP 170 3=some (8,168,1):=by kernel_rfl
theorem agZ:bJ PP 170 4=some (9,4,1):=by kernel_rfl
theorem alO:eL PP #[⟨ "v",63,0,false,"","parterre/parse",0⟩,⟨ "end",36,5,false,"","parterre/parse",88⟩,⟨ "at",167,7,false,"","parterre/parse",104⟩,⟨ "kills",168,8,false,"","parterre/parse",112⟩,⟨ "radius",4,9,false,"","parterre/parse",136⟩].toList=some [(0,5),(5,2),(7,1),(8,1),(9,1)]:=by kernel_rfl
theorem XT (σ:St) (parts:Array (Nat×Operand)):cI PP σ 170 parts=(match cz σ parts.toList with|some ps=>(match dZ (fun i=>([(0,5),(5,2),(7,1),(8,1),(9,1)]:List (Nat×Nat))[i]?) [(Go.Value.slice none 0 0),(Go.Value.int Go.IntKind.i64 0),(Go.Value.int Go.IntKind.i64 0),(Go.Value.slice none 0 0),(Go.Value.slice none 0 0),(Go.Value.int Go.IntKind.i64 0),(Go.Value.int Go.IntKind.i64 0),(Go.Value.map none),(Go.Value.slice none 0 0),(Go.Value.bool false)] ps with|some out=>some (.agg ⟨out⟩,σ)|none=>none)|none=>none):=by
 unfold cI;rw[Qt];simp only[];rw[alO,Ro];cases cz σ parts.toList<;>rfl
theorem apV:PP.underlying 184=some (Go.TypeDesc.int Go.IntKind.u64):=by kernel_rfl
theorem Qu:PP.underlying 193=some (Go.TypeDesc.struct #[⟨ "Kind",3,0,false,"","",0⟩,⟨ "N",3,1,false,"","",8⟩,⟨ "Line",3,2,false,"","",16⟩,⟨ "Col",3,3,false,"","",24⟩,⟨ "Text",9,4,false,"","",32⟩]):=by kernel_rfl
theorem aoN:cf PP 193=some 5:=by kernel_rfl
theorem Zh:PP.cellsOf 193=5:=by kernel_rfl
theorem Yk:fX PP 193=some 48:=by kernel_rfl
theorem TO:cW PP 193=some true:=by kernel_rfl
theorem Rp:cT PP 193=some [(Go.Value.int Go.IntKind.i64 0),(Go.Value.int Go.IntKind.i64 0),(Go.Value.int Go.IntKind.i64 0),(Go.Value.int Go.IntKind.i64 0),(Go.Value.string {data:=#[]})]:=by kernel_rfl
theorem ag0:bJ PP 193 0=some (0,3,1):=by kernel_rfl
theorem ag1:bJ PP 193 1=some (1,3,1):=by kernel_rfl
theorem ag5:bJ PP 193 2=some (2,3,1):=by kernel_rfl
theorem ag6:bJ PP 193 3=some (3,3,1):=by kernel_rfl
theorem ag7:bJ PP 193 4=some (4,9,1):=by kernel_rfl
theorem alP:eL PP #[⟨ "Kind",3,0,false,"","",0⟩,⟨ "N",3,1,false,"","",8⟩,⟨ "Line",3,2,false,"","",16⟩,⟨ "Col",3,3,false,"","",24⟩,⟨ "Text",9,4,false,"","",32⟩].toList=some [(0,1),(1,1),(2,1),(3,1),(4,1)]:=by kernel_rfl
theorem XU (σ:St) (parts:Array (Nat×Operand)):cI PP σ 193 parts=(match cz σ parts.toList with|some ps=>(match dZ (fun i=>([(0,1),(1,1),(2,1),(3,1),(4,1)]:List (Nat×Nat))[i]?) [(Go.Value.int Go.IntKind.i64 0),(Go.Value.int Go.IntKind.i64 0),(Go.Value.int Go.IntKind.i64 0),(Go.Value.int Go.IntKind.i64 0),(Go.Value.string {data:=#[]})] ps with|some out=>some (.agg ⟨out⟩,σ)|none=>none)|none=>none):=by
 unfold cI;rw[Qu];simp only[];rw[alP,Rp];cases cz σ parts.toList<;>rfl
theorem apX:PP.underlying 207=some (Go.TypeDesc.pointer 223):=by kernel_rfl
theorem aoO:cf PP 207=some 1:=by kernel_rfl
theorem Zi:PP.cellsOf 207=1:=by kernel_rfl
theorem Yl:fX PP 207=some 8:=by kernel_rfl
theorem TQ:cW PP 207=some false:=by kernel_rfl
theorem aqS:cT PP 207=some [(Go.Value.pointer none)]:=by kernel_rfl
theorem apY:PP.underlying 209=some (Go.TypeDesc.pointer 207):=by kernel_rfl
theorem Qw:PP.underlying 223=some (Go.TypeDesc.struct #[⟨ "code",3,0,false,"","parterre/fault",0⟩,⟨ "spot",36,1,false,"","parterre/fault",8⟩,⟨ "inner",110,3,false,"","parterre/fault",24⟩]):=by kernel_rfl
theorem Rq:cT PP 223=some [(Go.Value.int Go.IntKind.i64 0),(Go.Value.int Go.IntKind.i64 0),(Go.Value.int Go.IntKind.i64 0),Go.Value.nilIface]:=by kernel_rfl
theorem ag8:bJ PP 223 0=some (0,3,1):=by kernel_rfl
theorem aha:bJ PP 223 1=some (1,36,2):=by kernel_rfl
theorem ahb:bJ PP 223 2=some (3,110,1):=by kernel_rfl
theorem alQ:eL PP #[⟨ "code",3,0,false,"","parterre/fault",0⟩,⟨ "spot",36,1,false,"","parterre/fault",8⟩,⟨ "inner",110,3,false,"","parterre/fault",24⟩].toList=some [(0,1),(1,2),(3,1)]:=by kernel_rfl
theorem XV (σ:St) (parts:Array (Nat×Operand)):cI PP σ 223 parts=(match cz σ parts.toList with|some ps=>(match dZ (fun i=>([(0,1),(1,2),(3,1)]:List (Nat×Nat))[i]?) [(Go.Value.int Go.IntKind.i64 0),(Go.Value.int Go.IntKind.i64 0),(Go.Value.int Go.IntKind.i64 0),Go.Value.nilIface] ps with|some out=>some (.agg ⟨out⟩,σ)|none=>none)|none=>none):=by
 unfold cI;rw[Qw];simp only[];rw[alQ,Rq];cases cz σ parts.toList<;>rfl
theorem AD:PP.underlying 228=some (Go.TypeDesc.struct #[⟨ "row",3,0,false,"","parterre/parse",0⟩,⟨ "x",3,1,false,"","parterre/parse",8⟩]):=by kernel_rfl
theorem aoQ:cf PP 228=some 2:=by kernel_rfl
theorem TS:cW PP 228=some true:=by kernel_rfl
theorem Rr:cT PP 228=some [(Go.Value.int Go.IntKind.i64 0),(Go.Value.int Go.IntKind.i64 0)]:=by kernel_rfl
theorem aec:PP.eqGuardType PP.depth 228=false:=by kernel_rfl
theorem anU:PP.stoodInHeld 228=false:=by kernel_rfl
theorem alR:eL PP #[⟨ "row",3,0,false,"","parterre/parse",0⟩,⟨ "x",3,1,false,"","parterre/parse",8⟩].toList=some [(0,1),(1,1)]:=by kernel_rfl
theorem XW (σ:St) (parts:Array (Nat×Operand)):cI PP σ 228 parts=(match cz σ parts.toList with|some ps=>(match dZ (fun i=>([(0,1),(1,1)]:List (Nat×Nat))[i]?) [(Go.Value.int Go.IntKind.i64 0),(Go.Value.int Go.IntKind.i64 0)] ps with|some out=>some (.agg ⟨out⟩,σ)|none=>none)|none=>none):=by
 unfold cI;rw[AD];simp only[];rw[alR,Rr];cases cz σ parts.toList<;>rfl
theorem Qx:PP.underlying 230=some (Go.TypeDesc.struct #[⟨ "place",228,0,true,"","parterre/parse",0⟩,⟨ "line",36,2,false,"","parterre/parse",16⟩,⟨ "row",36,4,false,"","parterre/parse",32⟩]):=by kernel_rfl
theorem aoR:cf PP 230=some 6:=by kernel_rfl
theorem Zk:PP.cellsOf 230=6:=by kernel_rfl
theorem Yn:fX PP 230=some 48:=by kernel_rfl
theorem TU:cW PP 230=some true:=by kernel_rfl
theorem Rs:cT PP 230=some [(Go.Value.int Go.IntKind.i64 0),(Go.Value.int Go.IntKind.i64 0),(Go.Value.int Go.IntKind.i64 0),(Go.Value.int Go.IntKind.i64 0),(Go.Value.int Go.IntKind.i64 0),(Go.Value.int Go.IntKind.i64 0)]:=by kernel_rfl
theorem ahc:bJ PP 230 0=some (0,228,2):=by kernel_rfl
theorem ahd:bJ PP 230 1=some (2,36,2):=by kernel_rfl
theorem ahe:bJ PP 230 2=some (4,36,2):=by kernel_rfl
theorem alS:eL PP #[⟨ "place",228,0,true,"","parterre/parse",0⟩,⟨ "line",36,2,false,"","parterre/parse",16⟩,⟨ "row",36,4,false,"","parterre/parse",32⟩].toList=some [(0,2),(2,2),(4,2)]:=by kernel_rfl
theorem XX (σ:St) (parts:Array (Nat×Operand)):cI PP σ 230 parts=(match cz σ parts.toList with|some ps=>(match dZ (fun i=>([(0,2),(2,2),(4,2)]:List (Nat×Nat))[i]?) [(Go.Value.int Go.IntKind.i64 0),(Go.Value.int Go.IntKind.i64 0),(Go.Value.int Go.IntKind.i64 0),(Go.Value.int Go.IntKind.i64 0),(Go.Value.int Go.IntKind.i64 0),(Go.Value.int Go.IntKind.i64 0)] ps with|some out=>some (.agg ⟨out⟩,σ)|none=>none)|none=>none):=by
 unfold cI;rw[Qx];simp only[];rw[alS,Rs];cases cz σ parts.toList<;>rfl
theorem Qy:PP.underlying 239=some (Go.TypeDesc.struct #[⟨ "V",63,0,false,"","",0⟩,⟨ "usable",131,5,false,"","parterre/place",88⟩]):=by kernel_rfl
theorem aoS:cf PP 239=some 6:=by kernel_rfl
theorem TV:cW PP 239=some true:=by kernel_rfl
theorem Rt:cT PP 239=some [(Go.Value.slice none 0 0),(Go.Value.int Go.IntKind.i64 0),(Go.Value.int Go.IntKind.i64 0),(Go.Value.slice none 0 0),(Go.Value.slice none 0 0),(Go.Value.slice none 0 0)]:=by kernel_rfl
theorem ahf:bJ PP 239 0=some (0,63,5):=by kernel_rfl
theorem ahg:bJ PP 239 1=some (5,131,1):=by kernel_rfl
theorem alT:eL PP #[⟨ "V",63,0,false,"","",0⟩,⟨ "usable",131,5,false,"","parterre/place",88⟩].toList=some [(0,5),(5,1)]:=by kernel_rfl
theorem XY (σ:St) (parts:Array (Nat×Operand)):cI PP σ 239 parts=(match cz σ parts.toList with|some ps=>(match dZ (fun i=>([(0,5),(5,1)]:List (Nat×Nat))[i]?) [(Go.Value.slice none 0 0),(Go.Value.int Go.IntKind.i64 0),(Go.Value.int Go.IntKind.i64 0),(Go.Value.slice none 0 0),(Go.Value.slice none 0 0),(Go.Value.slice none 0 0)] ps with|some out=>some (.agg ⟨out⟩,σ)|none=>none)|none=>none):=by
 unfold cI;rw[Qy];simp only[];rw[alT,Rt];cases cz σ parts.toList<;>rfl
theorem ap0:PP.underlying 240=some (Go.TypeDesc.map 3 3):=by kernel_rfl
theorem aoT:cf PP 240=some 1:=by kernel_rfl
theorem TW:cW PP 240=some false:=by kernel_rfl
theorem Qz:PP.underlying 242=some (Go.TypeDesc.struct #[⟨ "H",239,0,false,"","",0⟩,⟨ "L",66,6,false,"","",112⟩,⟨ "Pins",240,7,false,"","",136⟩]):=by kernel_rfl
theorem aoU:cf PP 242=some 8:=by kernel_rfl
theorem TX:cW PP 242=some true:=by kernel_rfl
theorem Ru:cT PP 242=some [(Go.Value.slice none 0 0),(Go.Value.int Go.IntKind.i64 0),(Go.Value.int Go.IntKind.i64 0),(Go.Value.slice none 0 0),(Go.Value.slice none 0 0),(Go.Value.slice none 0 0),(Go.Value.slice none 0 0),(Go.Value.map none)]:=by kernel_rfl
theorem ahh:bJ PP 242 0=some (0,239,6):=by kernel_rfl
theorem ahi:bJ PP 242 1=some (6,66,1):=by kernel_rfl
theorem ahj:bJ PP 242 2=some (7,240,1):=by kernel_rfl
theorem alU:eL PP #[⟨ "H",239,0,false,"","",0⟩,⟨ "L",66,6,false,"","",112⟩,⟨ "Pins",240,7,false,"","",136⟩].toList=some [(0,6),(6,1),(7,1)]:=by kernel_rfl
theorem XZ (σ:St) (parts:Array (Nat×Operand)):cI PP σ 242 parts=(match cz σ parts.toList with|some ps=>(match dZ (fun i=>([(0,6),(6,1),(7,1)]:List (Nat×Nat))[i]?) [(Go.Value.slice none 0 0),(Go.Value.int Go.IntKind.i64 0),(Go.Value.int Go.IntKind.i64 0),(Go.Value.slice none 0 0),(Go.Value.slice none 0 0),(Go.Value.slice none 0 0),(Go.Value.slice none 0 0),(Go.Value.map none)] ps with|some out=>some (.agg ⟨out⟩,σ)|none=>none)|none=>none):=by
 unfold cI;rw[Qz];simp only[];rw[alU,Ru];cases cz σ parts.toList<;>rfl
theorem aoV:cf PP 247=some 1:=by kernel_rfl
theorem TY:cW PP 247=some false:=by kernel_rfl
theorem aqU:cT PP 247=some [Go.Value.nilFunc]:=by kernel_rfl
theorem ap1:PP.underlying 277=some (Go.TypeDesc.slice 207):=by kernel_rfl
theorem Z6:ep PP 277=some (207,1):=by kernel_rfl
theorem ap2:PP.underlying 283=some (Go.TypeDesc.pointer 334):=by kernel_rfl
theorem aoW:cf PP 283=some 1:=by kernel_rfl
theorem TZ:cW PP 283=some false:=by kernel_rfl
theorem QD:PP.underlying 288=some (Go.TypeDesc.slice 337):=by kernel_rfl
theorem aoX:cf PP 288=some 1:=by kernel_rfl
theorem T6:cW PP 288=some false:=by kernel_rfl
theorem JW:ep PP 288=some (337,2):=by kernel_rfl
theorem QF:PP.underlying 290=some (Go.TypeDesc.struct #[⟨ "p",283,0,false,"","parterre/search",0⟩,⟨ "l",66,1,false,"","parterre/search",8⟩,⟨ "r",155,2,false,"","parterre/search",32⟩,⟨ "most",3,6,false,"","parterre/search",96⟩,⟨ "fuel",3,7,false,"","parterre/search",104⟩,⟨ "stack",288,8,false,"","parterre/search",112⟩]):=by kernel_rfl
theorem Rv:cT PP 290=some [(Go.Value.pointer none),(Go.Value.slice none 0 0),(Go.Value.int Go.IntKind.i64 0),(Go.Value.slice none 0 0),(Go.Value.int Go.IntKind.i64 0),(Go.Value.slice none 0 0),(Go.Value.int Go.IntKind.i64 0),(Go.Value.int Go.IntKind.i64 0),(Go.Value.slice none 0 0)]:=by kernel_rfl
theorem ahk:bJ PP 290 0=some (0,283,1):=by kernel_rfl
theorem ahl:bJ PP 290 1=some (1,66,1):=by kernel_rfl
theorem ahm:bJ PP 290 2=some (2,155,4):=by kernel_rfl
theorem ahn:bJ PP 290 3=some (6,3,1):=by kernel_rfl
theorem aho:bJ PP 290 4=some (7,3,1):=by kernel_rfl
theorem ahp:bJ PP 290 5=some (8,288,1):=by kernel_rfl
theorem alW:eL PP #[⟨ "p",283,0,false,"","parterre/search",0⟩,⟨ "l",66,1,false,"","parterre/search",8⟩,⟨ "r",155,2,false,"","parterre/search",32⟩,⟨ "most",3,6,false,"","parterre/search",96⟩,⟨ "fuel",3,7,false,"","parterre/search",104⟩,⟨ "stack",288,8,false,"","parterre/search",112⟩].toList=some [(0,1),(1,1),(2,4),(6,1),(7,1),(8,1)]:=by kernel_rfl
theorem X6 (σ:St) (parts:Array (Nat×Operand)):cI PP σ 290 parts=(match cz σ parts.toList with|some ps=>(match dZ (fun i=>([(0,1),(1,1),(2,4),(6,1),(7,1),(8,1)]:List (Nat×Nat))[i]?) [(Go.Value.pointer none),(Go.Value.slice none 0 0),(Go.Value.int Go.IntKind.i64 0),(Go.Value.slice none 0 0),(Go.Value.int Go.IntKind.i64 0),(Go.Value.slice none 0 0),(Go.Value.int Go.IntKind.i64 0),(Go.Value.int Go.IntKind.i64 0),(Go.Value.slice none 0 0)] ps with|some out=>some (.agg ⟨out⟩,σ)|none=>none)|none=>none):=by
 unfold cI;rw[QF];simp only[];rw[alW,Rv];cases cz σ parts.toList<;>rfl
theorem ap3:PP.underlying 297=some (Go.TypeDesc.slice 247):=by kernel_rfl
theorem Z8:ep PP 297=some (247,1):=by kernel_rfl
theorem ap4:PP.underlying 329=some (Go.TypeDesc.slice 22):=by kernel_rfl
theorem ao1:cf PP 329=some 1:=by kernel_rfl
theorem FM:PP.cellsOf 329=1:=by kernel_rfl
theorem BI:fX PP 329=some 24:=by kernel_rfl
theorem Ua:cW PP 329=some false:=by kernel_rfl
theorem Rx:cT PP 329=some [(Go.Value.slice none 0 0)]:=by kernel_rfl
theorem Z9:ep PP 329=some (22,1):=by kernel_rfl
theorem QJ:PP.underlying 332=some (Go.TypeDesc.slice 329):=by kernel_rfl
theorem ao3:cf PP 332=some 1:=by kernel_rfl
theorem Uc:cW PP 332=some false:=by kernel_rfl
theorem JY:ep PP 332=some (329,1):=by kernel_rfl
theorem QK:PP.underlying 334=some (Go.TypeDesc.struct #[⟨ "s",242,0,false,"","parterre/prop",0⟩,⟨ "levels",332,8,false,"","parterre/prop",144⟩,⟨ "p",113,9,false,"","parterre/prop",168⟩]):=by kernel_rfl
theorem Ry:cT PP 334=some [(Go.Value.slice none 0 0),(Go.Value.int Go.IntKind.i64 0),(Go.Value.int Go.IntKind.i64 0),(Go.Value.slice none 0 0),(Go.Value.slice none 0 0),(Go.Value.slice none 0 0),(Go.Value.slice none 0 0),(Go.Value.map none),(Go.Value.slice none 0 0),(Go.Value.slice none 0 0)]:=by kernel_rfl
theorem ahw:bJ PP 334 0=some (0,242,8):=by kernel_rfl
theorem ahx:bJ PP 334 1=some (8,332,1):=by kernel_rfl
theorem ahy:bJ PP 334 2=some (9,113,1):=by kernel_rfl
theorem alY:eL PP #[⟨ "s",242,0,false,"","parterre/prop",0⟩,⟨ "levels",332,8,false,"","parterre/prop",144⟩,⟨ "p",113,9,false,"","parterre/prop",168⟩].toList=some [(0,8),(8,1),(9,1)]:=by kernel_rfl
theorem X8 (σ:St) (parts:Array (Nat×Operand)):cI PP σ 334 parts=(match cz σ parts.toList with|some ps=>(match dZ (fun i=>([(0,8),(8,1),(9,1)]:List (Nat×Nat))[i]?) [(Go.Value.slice none 0 0),(Go.Value.int Go.IntKind.i64 0),(Go.Value.int Go.IntKind.i64 0),(Go.Value.slice none 0 0),(Go.Value.slice none 0 0),(Go.Value.slice none 0 0),(Go.Value.slice none 0 0),(Go.Value.map none),(Go.Value.slice none 0 0),(Go.Value.slice none 0 0)] ps with|some out=>some (.agg ⟨out⟩,σ)|none=>none)|none=>none):=by
 unfold cI;rw[QK];simp only[];rw[alY,Ry];cases cz σ parts.toList<;>rfl
theorem QL:PP.underlying 337=some (Go.TypeDesc.struct #[⟨ "l",22,0,false,"","parterre/search",0⟩,⟨ "at",3,1,false,"","parterre/search",24⟩]):=by kernel_rfl
theorem FN:PP.cellsOf 337=2:=by kernel_rfl
theorem BJ:fX PP 337=some 32:=by kernel_rfl
theorem AK:cT PP 337=some [(Go.Value.slice none 0 0),(Go.Value.int Go.IntKind.i64 0)]:=by kernel_rfl
theorem ahz:bJ PP 337 0=some (0,22,1):=by kernel_rfl
theorem ahA:bJ PP 337 1=some (1,3,1):=by kernel_rfl
theorem alZ:eL PP #[⟨ "l",22,0,false,"","parterre/search",0⟩,⟨ "at",3,1,false,"","parterre/search",24⟩].toList=some [(0,1),(1,1)]:=by kernel_rfl
theorem X9 (σ:St) (parts:Array (Nat×Operand)):cI PP σ 337 parts=(match cz σ parts.toList with|some ps=>(match dZ (fun i=>([(0,1),(1,1)]:List (Nat×Nat))[i]?) [(Go.Value.slice none 0 0),(Go.Value.int Go.IntKind.i64 0)] ps with|some out=>some (.agg ⟨out⟩,σ)|none=>none)|none=>none):=by
 unfold cI;rw[QL];simp only[];rw[alZ,AK];cases cz σ parts.toList<;>rfl
attribute [simp] apW rV TP QG aoZ pO yC T8 AJ ap5 ao6 FO BK Uf RC ap6 aqa apf FU BO Uo RF apZ Qv aoP Zj Ym TR aqT JV QA QE aoY FL BE T7 AI anV ahq ahr X0 QH ao0 T9 Rw ahs aht ahu ahv X7 QI ao2 Ub JX QM ao4 Ud Rz aed anW ahB ahC Ya QN ao5 Ue RA ahD ahE ahF Yb QO JZ QP ao7 FP BL Ug AL aee anX ahG ahH ahI ahJ ahK Yc ap7 ap8 ao8 Uh aaa ap9 ao9 Ui aab QQ apa Uj RD ahL ahM ahN ahO ahP Yd QR apb Uk J0 QS J1 QT apc FQ BM Ul AM ahQ ahR Ye QU apd FT BN Um AN aef anY ahS ahT ahU ahV Yf QV ape Un RE ahW ahX ahY ahZ ah0 Yg QW apg Zl Yo Up RG aeg anZ ah1 ah2 ah3 ah4 Yh Qo aoG Zg Yj TH Rm aeb anT agO agP agQ XR AA aoH TI Qp aoI TJ JS Qq JT Qr aoJ TK JU Qs aoK TL Rn agR agS agT agU XS apS Z4 apT aoL TM apU aoM TN Z5 Qt Ro agV agW agX agY agZ XT apV Qu aoN Zh Yk TO Rp ag0 ag1 ag5 ag6 ag7 XU apX aoO Zi Yl TQ aqS apY Qw Rq ag8 aha ahb XV AD aoQ TS Rr aec anU XW Qx aoR Zk Yn TU Rs ahc ahd ahe XX Qy aoS TV Rt ahf ahg XY ap0 aoT TW Qz aoU TX Ru ahh ahi ahj XZ aoV TY aqU ap1 Z6 ap2 aoW TZ QD aoX T6 JW QF Rv ahk ahl ahm ahn aho ahp X6 ap3 Z8 ap4 ao1 FM BI Ua Rx Z9 QJ ao3 Uc JY QK Ry ahw ahx ahy X8 QL FN BJ AK ahz ahA X9 NH E8 Ji KW Cb Gg Lk Cn Gs Lw Cx GC Lz CA GG LL CN GR LY C4 Hd Mc Dd Hn Mi Dj Hy Ms Dv HN MF DG Ia MN DO Io Nr EI IZ Ns EJ I0 Nt EK I5 Nu EL I6 Nv EO I7 Nw EP I8 Nx ER I9 Ny ES Ja Nz ET Jb NA EU Jc NB EV Jd NC EW Je ND EX Jf NF EY Jg NG EZ Jh NI E9 Jj NJ Fb Jk NK Fc Jl NL Fe Jm NM Ff Jn NN Fg Jo NO Fh Jp NP Fi Jq NQ Fj Jr NR Fk Js NS Fl Jt NT Fm Ju NU Fo Jv NV Fp Jw NW Fq Jx NY Fs Jy NZ Ft Jz N0 Fu JA N5 Fv JB N6 Fw JC N7 Fx JD N8 Fy JE N9 Fz JF Oa FA JG Ob FC JH Oc FD JI Od FE JJ KR BW Gc KT BY Gd KU BZ Ge KV Ca Gf KY Cc Gh KZ Cd Gi Lc Ce Gj Ld Cf Gk Le Cg Gl Lf Ch Gm Lg Ci Gn Lh Cj Gp Li Ck Gq Lj Cl Gr Ll Co Gt Lm Cp Gu Lp Cq Gv Lq Cr Gw Lr Cs Gx Ls Ct Gy Lt Cu Gz Lu Cv GA Lv Cw GB Lx Cy GD Ly Cz GF LA CC GH LB CD GI LC CE GJ LD CF GK LF CH GL LG CI GM LH CJ GN LI CK GO LJ CL GP LK CM GQ LM CO GS LO CP GU LP CQ GV LR CT GX LS CU GY LU CV GZ LV CW G8 LX CZ Hc LZ C6 He L4 C7 Hf L7 C8 Hg L8 C9 Hi L9 Da Hj Ma Db Hk Mb Dc Hm Md De Ho Me Df Hq Mf Dg Hr Mg Dh Hw Mh Di Hx Mj Dk Hz Mk Dl HA Ml Dp HC Mm Dq HD Mo Dr HE Mp Ds HI Mq Dt HJ Mr Du HK Mt Dw HO Mu Dx HP Mw Dy HQ rn qV HS Mx Dz HU My DA HV Mz DC HW MA DD HX MC DE HY MI DJ Ie MJ DK Ih MK DL Ii ML DM Ij MM DN Im MO DP Ip MP DQ Iq MQ DR It MR DS Iu MS DT Iv MT DU Iw MU DV Ix MV DW Iy MW DX Iz MX DY IA MY DZ IB MZ Ea IC M0 Eb ID M9 Ef IH Na Eh II Nb Ej IJ Nc El IK Nd Em IL Nf En IM Ng Eo IN Nh Ep IP Ni Es IQ Nj Et IS Nk Eu IT Nl Ev IU Nn Ew IV No Ey IW Np Ez IX Nq EC IY
end Go.Proofs.Ybk
namespace Go.Proofs
open Go.Shelf Go.RowKit Go.Lib Go.Sort
set_option maxRecDepth 100000
def Tryz.aeO:Go.Shelf.Ren:=⟨fun|171=>126|243=>177|246=>226|283=>277|284=>278|285=>279|286=>280|129=>267|317=>306|318=>307|319=>308|320=>309|337=>315|338=>316|n=>n,fun|3=>3|9=>9|2=>2|4=>4|171=>356|0=>0|53=>184|37=>177|5=>5|173=>358|212=>377|51=>348|20=>20|213=>378|46=>50|232=>385|233=>386|n=>n,fun|17=>2|18=>3|19=>4|n=>n⟩
theorem Tryz.itoa:LaysM.n171 Tryz.prog Tryz.aeO:={
 mixed:=by kernel_rfl,
 f129:=Tryz.func267.trans (congrArg some (by kernel_rfl)),
 f171:=Tryz.func126.trans (congrArg some (by kernel_rfl)),
 f243:=Tryz.func177.trans (congrArg some (by kernel_rfl)),
 f246:=Tryz.func226.trans (congrArg some (by kernel_rfl)),
 f283:=Tryz.func277.trans (congrArg some (by kernel_rfl)),
 f284:=Tryz.func278.trans (congrArg some (by kernel_rfl)),
 f285:=Tryz.func279.trans (congrArg some (by kernel_rfl)),
 f286:=Tryz.func280.trans (congrArg some (by kernel_rfl)),
 f317:=Tryz.func306.trans (congrArg some (by kernel_rfl)),
 f318:=Tryz.func307.trans (congrArg some (by kernel_rfl)),
 f319:=Tryz.func308.trans (congrArg some (by kernel_rfl)),
 f320:=Tryz.func309.trans (congrArg some (by kernel_rfl)),
 f337:=Tryz.func315.trans (congrArg some (by kernel_rfl)),
 f338:=Tryz.func316.trans (congrArg some (by kernel_rfl)),
 t0:=Tryz.underlying0,
 a0:=Tryz.isAgg0,
 z0:=Tryz.sizeOf0,
 v0:=Tryz.zeroValue0,
 t2:=Tryz.underlying2,
 a2:=Tryz.isAgg2,
 z2:=Tryz.sizeOf2,
 v2:=Tryz.zeroValue2,
 t3:=Tryz.underlying3,
 a3:=Tryz.isAgg3,
 z3:=Tryz.sizeOf3,
 v3:=Tryz.zeroValue3,
 t4:=Tryz.underlying4,
 a4:=Tryz.isAgg4,
 z4:=Tryz.sizeOf4,
 v4:=Tryz.zeroValue4,
 t5:=Tryz.underlying5,
 a5:=Tryz.isAgg5,
 z5:=Tryz.sizeOf5,
 v5:=Tryz.zeroValue5,
 t9:=Tryz.underlying9,
 a9:=Tryz.isAgg9,
 z9:=Tryz.sizeOf9,
 v9:=Tryz.zeroValue9,
 t20:=Tryz.underlying20,
 a20:=Tryz.isAgg20,
 z20:=Tryz.sizeOf20,
 v20:=Tryz.zeroValue20,
 t37:=Tryz.underlying177,
 a37:=Tryz.isAgg177,
 z37:=Tryz.sizeOf177,
 v37:=Tryz.zeroValue177,
 t46:=Tryz.underlying50,
 a46:=Tryz.isAgg50,
 z46:=Tryz.sizeOf50,
 v46:=Tryz.zeroValue50,
 t51:=Tryz.underlying348,
 a51:=Tryz.isAgg348,
 z51:=Tryz.sizeOf348,
 v51:=Tryz.zeroValue348,
 t53:=Tryz.underlying184,
 a53:=Tryz.isAgg184,
 z53:=Tryz.sizeOf184,
 v53:=Tryz.zeroValue184,
 t171:=Tryz.underlying356,
 a171:=Tryz.isAgg356,
 z171:=Tryz.sizeOf356,
 v171:=Tryz.zeroValue356,
 t173:=Tryz.underlying358,
 a173:=Tryz.isAgg358,
 z173:=Tryz.sizeOf358,
 v173:=Tryz.zeroValue358,
 t212:=Tryz.underlying377,
 a212:=Tryz.isAgg377,
 z212:=Tryz.sizeOf377,
 v212:=Tryz.zeroValue377,
 t213:=Tryz.underlying378,
 a213:=Tryz.isAgg378,
 z213:=Tryz.sizeOf378,
 t232:=Tryz.underlying385,
 a232:=Tryz.isAgg385,
 z232:=Tryz.sizeOf385,
 v232:=Tryz.zeroValue385,
 t233:=Tryz.underlying386,
 a233:=Tryz.isAgg386,
 z233:=Tryz.sizeOf386,
 v233:=Tryz.zeroValue386,
 g17:=by kernel_rfl,
 g18:=by kernel_rfl,
 g19:=by kernel_rfl,
 i0:=by kernel_rfl,
 i2:=by kernel_rfl,
 i3:=by kernel_rfl,
 i4:=by kernel_rfl,
 i5:=by kernel_rfl,
 i9:=by kernel_rfl,
 i20:=by kernel_rfl,
 i37:=by kernel_rfl,
 i46:=by kernel_rfl,
 i51:=by kernel_rfl,
 i53:=by kernel_rfl,
 i171:=by kernel_rfl,
 i173:=by kernel_rfl,
 i212:=by kernel_rfl,
 i232:=by kernel_rfl,
 i233:=by kernel_rfl,
 m17:=by kernel_rfl,
 m18:=by kernel_rfl,
 m19:=by kernel_rfl}
def Tryz.KQ:Go.Shelf.Ren:=⟨fun|156=>87|165=>127|166=>128|169=>129|240=>178|241=>179|276=>227|277=>228|n=>n,fun|31=>122|9=>9|3=>3|4=>4|0=>0|20=>20|72=>179|76=>180|70=>176|37=>177|75=>110|127=>250|164=>265|5=>5|80=>182|n=>n,fun|n=>n⟩
theorem Tryz.join:Lays.n156 Tryz.prog Tryz.KQ:={
 mixed:=by kernel_rfl,
 f156:=Tryz.func87.trans (congrArg some (by kernel_rfl)),
 f165:=Tryz.func127.trans (congrArg some (by kernel_rfl)),
 f166:=Tryz.func128.trans (congrArg some (by kernel_rfl)),
 f169:=Tryz.func129.trans (congrArg some (by kernel_rfl)),
 f240:=Tryz.func178.trans (congrArg some (by kernel_rfl)),
 f241:=Tryz.func179.trans (congrArg some (by kernel_rfl)),
 f276:=Tryz.func227.trans (congrArg some (by kernel_rfl)),
 f277:=Tryz.func228.trans (congrArg some (by kernel_rfl)),
 t0:=Tryz.underlying0,
 a0:=Tryz.isAgg0,
 z0:=Tryz.sizeOf0,
 v0:=Tryz.zeroValue0,
 t3:=Tryz.underlying3,
 a3:=Tryz.isAgg3,
 z3:=Tryz.sizeOf3,
 v3:=Tryz.zeroValue3,
 t4:=Tryz.underlying4,
 a4:=Tryz.isAgg4,
 z4:=Tryz.sizeOf4,
 v4:=Tryz.zeroValue4,
 t9:=Tryz.underlying9,
 a9:=Tryz.isAgg9,
 z9:=Tryz.sizeOf9,
 v9:=Tryz.zeroValue9,
 t20:=Tryz.underlying20,
 a20:=Tryz.isAgg20,
 z20:=Tryz.sizeOf20,
 v20:=Tryz.zeroValue20,
 t31:=Tryz.underlying122,
 a31:=Tryz.isAgg122,
 z31:=Tryz.sizeOf122,
 v31:=Tryz.zeroValue122,
 t37:=Tryz.underlying177,
 a37:=Tryz.isAgg177,
 z37:=Tryz.sizeOf177,
 v37:=Tryz.zeroValue177,
 t70:=Tryz.underlying176,
 a70:=Tryz.isAgg176,
 z70:=Tryz.sizeOf176,
 v70:=Tryz.zeroValue176,
 t72:=Tryz.underlying179,
 a72:=Tryz.isAgg179,
 z72:=Tryz.sizeOf179,
 v72:=Tryz.zeroValue179,
 t75:=Tryz.underlying110,
 a75:=Tryz.isAgg110,
 z75:=Tryz.sizeOf110,
 v75:=Tryz.zeroValue110,
 t76:=Tryz.underlying180,
 a76:=Tryz.isAgg180,
 z76:=Tryz.sizeOf180,
 v76:=Tryz.zeroValue180,
 t127:=Tryz.underlying250,
 a127:=Tryz.isAgg250,
 z127:=Tryz.sizeOf250,
 v127:=Tryz.zeroValue250,
 t164:=Tryz.underlying265,
 a164:=Tryz.isAgg265,
 z164:=Tryz.sizeOf265,
 v164:=Tryz.zeroValue265}
theorem Tryz.zo:Builder.Extra Tryz.prog Tryz.KQ where
 sizeBuilder:=by kernel_rfl
 liesBuilder:=by kernel_rfl
 t5:=Tryz.underlying5
 a5:=Tryz.isAgg5
 z5:=Tryz.sizeOf5
 v5:=Tryz.zeroValue5
 infoByte:=by kernel_rfl
 cellsByte:=by kernel_rfl
 sizeByte:=by kernel_rfl
 neB5:=by decide
end Go.Proofs
namespace Go.Proofs.Ybk.F
open Go.RowKit Go.Extern.Stop Go.Stop Go.Extern
theorem UK (t:Value) (w:World):
  Calls Tryz.prog 147 #[.nilIface,t] w fun e w'=>e= .returned (.bool false)∧w'=w:=by
 go_enter Tryz.func147,Tryz.ntmps147
 go_wp2
 go_ret
 exact⟨rfl,rfl⟩
theorem Fa.aqd (t:Addr) (w:World):(ReflectliteValue.unpack (.iface 209 (.pointer (some t)))).run Tryz.prog w
  = .ok (.agg #[.pointer (some ⟨5,209,none⟩),.pointer (some ⟨w.heap.size,0,none⟩),.int .u64 150]) (w.alloc (.cells #[.pointer (some t)] 209)):=by kernel_rfl
theorem Fa.type27 (a:Addr) (w:World):(ReflectliteValue.methodAny (ReflectliteValue.valueError "reflectlite.Value.Type" 0) (fun t _ _ _=>ReflectliteType.toType t) #[.agg #[.pointer (some ⟨5,209,none⟩),.pointer (some a),.int .u64 150]]).run Tryz.prog w
  = .ok (.iface 316 (.agg #[.pointer (some ⟨5,209,none⟩)])) w:=by kernel_rfl
theorem Fa.af7 (h:Value) (w:World):(Go.method 513 316 (.agg #[h]) "Kind").run Tryz.prog w= .ok (331,h) w:=by kernel_rfl
theorem Fa.aff (w:World):((ReflectliteType.abiMethod fun t=>(fun a:Nat=>Value.int IntKind.u8 (a:Int)) <$> Rtype.kind t) #[.pointer (some ⟨5,209,none⟩)]).run Tryz.prog w= .ok (.int .u8 22) w:=by kernel_rfl
theorem Fa.afe (w:World):((ReflectliteType.abiMethod fun t=>(fun a:Nat=>Value.int IntKind.u8 (a:Int)) <$> Rtype.kind t) #[.pointer (some ⟨5,207,none⟩)]).run Tryz.prog w= .ok (.int .u8 22) w:=by kernel_rfl
theorem PN (z:Sem Value) (f:TypeId→Addr→Nat→Nat→Sem Value) (v:Value):
  ReflectliteValue.method z f #[v]=(do match←ReflectliteValue.parts v with|none=>z|some (t,a,fl)=>f t a fl (fl % 32)):=rfl
theorem Fa.Pt (a:Addr) (w:World):(ReflectliteValue.parts (.agg #[.pointer (some ⟨5,209,none⟩),.pointer (some a),.int .u64 150])).run Tryz.prog w= .ok (some (209,a,150)) w:=by kernel_rfl
theorem Fa.aeK (a p:Addr) (W:World) (ha:W.cell? a=some (.pointer (some p))):
  (ReflectliteValue.method (ReflectliteValue.valueError "reflectlite.Value.IsNil" 0) ReflectliteValue.isNil #[.agg #[.pointer (some ⟨5,209,none⟩),.pointer (some a),.int .u64 150]]).run Tryz.prog W= .ok (.bool false) W:=by
 rw[PN]
 simp only[Sem.run_bind,Fa.Pt,Result.andThen]
 simp[ReflectliteValue.isNil,loadVar,isAgg,underlying,Tryz.underlying209,ha,Result.andThen]
theorem Fa.af5 (h:Value) (w:World):(Go.method 513 316 (.agg #[h]) "Elem").run Tryz.prog w= .ok (344,.agg #[h]) w:=by kernel_rfl
theorem Fa.af6 (h:Value) (w:World):(Go.method 513 316 (.agg #[h]) "Implements").run Tryz.prog w= .ok (345,.agg #[h]) w:=by kernel_rfl
theorem Fa.af4 (h:Value) (w:World):(Go.method 513 316 (.agg #[h]) "AssignableTo").run Tryz.prog w= .ok (342,.agg #[h]) w:=by kernel_rfl
theorem Fa.aae (w:World):(ReflectliteType.method ReflectliteType.elem #[.agg #[.pointer (some ⟨5,209,none⟩)]]).run Tryz.prog w= .ok (.iface 316 (.agg #[.pointer (some ⟨5,207,none⟩)])) w:=by kernel_rfl
theorem Fa.aex (w:World):(ReflectliteType.relation "Implements" ReflectliteType.implements_ #[.agg #[.pointer (some ⟨5,207,none⟩)],.iface 316 (.agg #[.pointer (some ⟨5,110,none⟩)])]).run Tryz.prog w= .ok (.bool true) w:=by kernel_rfl
theorem Fa.apR (v:Value) (w:World):(ReflectliteType.typeOf #[.iface 207 v]).run Tryz.prog w= .ok (.iface 316 (.agg #[.pointer (some ⟨5,207,none⟩)])) w:=by kernel_rfl
theorem Fa.UM (w:World):(ReflectliteType.relation "AssignableTo" ReflectliteType.assignableTo #[.agg #[.pointer (some ⟨5,207,none⟩)],.iface 316 (.agg #[.pointer (some ⟨5,207,none⟩)])]).run Tryz.prog w= .ok (.bool true) w:=by kernel_rfl
theorem Fa.aqc (e:Addr) (w:World):(ReflectliteValue.unpack (.iface 207 (.pointer (some e)))).run Tryz.prog w
  = .ok (.agg #[.pointer (some ⟨5,207,none⟩),.pointer (some ⟨w.heap.size,0,none⟩),.int .u64 150]) (w.alloc (.cells #[.pointer (some e)] 207)):=by kernel_rfl
theorem Fa.aaf (w:World):(Rtype.elem? 209).run Tryz.prog w= .ok (some 207) w:=by kernel_rfl
theorem Fa.af8 (p:Addr) (w:World):(ReflectliteValue.mk 207 p ReflectliteValue.flagAddr).run Tryz.prog w= .ok (.agg #[.pointer (some ⟨5,207,none⟩),.pointer (some p),.int .u64 406]) w:=by kernel_rfl
theorem Fa.aag (a p:Addr) (W:World) (ha:W.cell? a=some (.pointer (some p))):
  (ReflectliteValue.method (ReflectliteValue.valueError "reflectlite.Value.Elem" 0) ReflectliteValue.elem #[.agg #[.pointer (some ⟨5,209,none⟩),.pointer (some a),.int .u64 150]]).run Tryz.prog W
   = .ok (.agg #[.pointer (some ⟨5,207,none⟩),.pointer (some p),.int .u64 406]) W:=by
 rw[PN]
 simp only[Sem.run_bind,Fa.Pt,Result.andThen]
 simp[ReflectliteValue.elem,loadVar,isAgg,underlying,Tryz.underlying209,ha,Result.andThen,Fa.aaf,Fa.af8]
theorem amN (v x:Value):ReflectliteValue.set #[v,x]=(do
  let (some (dst,a,fl),some (src,b,_)):=(←ReflectliteValue.parts v,←ReflectliteValue.parts x)
   |unsupported (.noEntry "extern/(internal/reflectlite.Value).Set.zeroValue")
  if fl / ReflectliteValue.flagAddr % 2==0 then unsupported (.noEntry "extern/(internal/reflectlite.Value).Set.unaddressable")
  let val ←loadVar src b
  if←Rtype.directlyAssignable dst src then storeVar dst a val
  else if←Rtype.implements dst src then
   if(←Rtype.kind src)==20 then
    match val with
    | .nilIface=>unsupported (.noEntry "extern/reflectlite: a nil value of one interface type handed on as a value of another")
    |_=>storeVar dst a val
   else storeVar dst a (.iface src val)
  else panicString ("reflectlite.Set: value of type " ++(←Rtype.spelt src)++ " is not assignable to type " ++(←Rtype.spelt dst))
  pure (.tuple #[])):=rfl
theorem Fa.alB (a:Addr) (w:World):(ReflectliteValue.parts (.agg #[.pointer (some ⟨5,207,none⟩),.pointer (some a),.int .u64 406])).run Tryz.prog w= .ok (some (207,a,406)) w:=by kernel_rfl
theorem Fa.alA (a:Addr) (w:World):(ReflectliteValue.parts (.agg #[.pointer (some ⟨5,207,none⟩),.pointer (some a),.int .u64 150])).run Tryz.prog w= .ok (some (207,a,150)) w:=by kernel_rfl
theorem Fa.ZD (w:World):(Rtype.directlyAssignable 207 207).run Tryz.prog w= .ok true w:=by kernel_rfl
theorem Fa.anl (ta b e:Addr) (old:Value) (W:World) (hb:W.cell? b=some (.pointer (some e))) (ht:W.cell? ta=some old) (hf:W.frozen? ta=false):
  (ReflectliteValue.set #[.agg #[.pointer (some ⟨5,207,none⟩),.pointer (some ta),.int .u64 406],.agg #[.pointer (some ⟨5,207,none⟩),.pointer (some b),.int .u64 150]]).run Tryz.prog W
   = .ok (.tuple #[]) (W.setCell ta (.pointer (some e))):=by
 rw[amN]
 simp only[Sem.run_bind,Fa.alB,Fa.alA,Result.andThen]
 simp[ReflectliteValue.flagAddr,loadVar,isAgg,underlying,Tryz.underlying207,hb,Result.andThen,Fa.ZD,storeVar,Value.cells,storeCells,Addr.add]
 rw[run_store Tryz.prog W ta _ _ (by rfl)]
 simp[ht,hf]
set_option maxHeartbeats 4000000 in
theorem UJ (e t:Addr) (old:Value) (w:World) (hg:w.cell? ⟨0,0,none⟩=some (.iface 316 (.agg #[.pointer (some ⟨5,110,none⟩)]))) (ht0:w.cell? t=some old) (hf0:w.frozen? t=false):
  Calls Tryz.prog 147 #[.iface 207 (.pointer (some e)),.iface 209 (.pointer (some t))] w fun ev w'=>ev= .returned (.bool true)∧w'=((((w.alloc (.cells #[.pointer (some t)] 209)).alloc (.cells #[.pointer (some ⟨5,209,none⟩),.pointer (some ⟨w.heap.size,0,none⟩),.int .u64 150] 268)).alloc (.cells #[.pointer (some ⟨5,209,none⟩),.pointer (some ⟨w.heap.size,0,none⟩),.int .u64 150] 268)).alloc (.cells #[.pointer (some e)] 207)).setCell t (.pointer (some e)):=by
 have h6:=@run_callFunc_extern Tryz.prog 198 _ (fun args=>ReflectliteValue.unpack (args.getD 0 (.tuple #[]))) Tryz.func198 (by kernel_rfl) (by kernel_rfl) (by kernel_rfl) (by kernel_rfl)
 have h7:=@run_callFunc_extern Tryz.prog 199 _ (ReflectliteValue.methodAny (ReflectliteValue.valueError "reflectlite.Value.Type" 0) (fun t _ _ _=>ReflectliteType.toType t)) Tryz.func199 (by kernel_rfl) (by kernel_rfl) (by kernel_rfl) (by kernel_rfl)
 have h8:=@run_callFunc_extern Tryz.prog 200 _ (ReflectliteValue.method (ReflectliteValue.valueError "reflectlite.Value.IsNil" 0) ReflectliteValue.isNil) Tryz.func200 (by kernel_rfl) (by kernel_rfl) (by kernel_rfl) (by kernel_rfl)
 have h27:=@run_callFunc_extern Tryz.prog 331 _ (ReflectliteType.abiMethod fun t=>do pure (.int .u8 (←Rtype.kind t))) Tryz.func331 (by kernel_rfl) (by kernel_rfl) (by kernel_rfl) (by kernel_rfl)
 have h37:=@run_callFunc_extern Tryz.prog 344 _ (ReflectliteType.method ReflectliteType.elem) Tryz.func344 (by kernel_rfl) (by kernel_rfl) (by kernel_rfl) (by kernel_rfl)
 have h38:=@run_callFunc_extern Tryz.prog 345 _ (ReflectliteType.relation "Implements" ReflectliteType.implements_) Tryz.func345 (by kernel_rfl) (by kernel_rfl) (by kernel_rfl) (by kernel_rfl)
 have h10:=@run_callFunc_extern Tryz.prog 242 _ ReflectliteType.typeOf Tryz.func242 (by kernel_rfl) (by kernel_rfl) (by kernel_rfl) (by kernel_rfl)
 have h35:=@run_callFunc_extern Tryz.prog 342 _ (ReflectliteType.relation "AssignableTo" ReflectliteType.assignableTo) Tryz.func342 (by kernel_rfl) (by kernel_rfl) (by kernel_rfl) (by kernel_rfl)
 have h11:=@run_callFunc_extern Tryz.prog 243 _ (ReflectliteValue.method (ReflectliteValue.valueError "reflectlite.Value.Elem" 0) ReflectliteValue.elem) Tryz.func243 (by kernel_rfl) (by kernel_rfl) (by kernel_rfl) (by kernel_rfl)
 have h12:=@run_callFunc_extern Tryz.prog 244 _ ReflectliteValue.set Tryz.func244 (by kernel_rfl) (by kernel_rfl) (by kernel_rfl) (by kernel_rfl)
 have tO:=Fa.apR
 have mA:=Fa.af4
 have a25:=Fa.UM
 have v25:=Fa.aqc
 have f6:=Fa.aqd
 have f7:=Fa.type27
 have mK:=Fa.af7
 have mE:=Fa.af5
 have mI:=Fa.af6
 have k27:=Fa.aff
 have k25:=Fa.afe
 have e27:=Fa.aae
 have i25:=Fa.aex
 have n8:=Fa.aeK ⟨w.heap.size,0,none⟩ t ((w.alloc (.cells #[.pointer (some t)] 209)).alloc (.cells #[.pointer (some ⟨5,209,none⟩),.pointer (some ⟨w.heap.size,0,none⟩),.int .u64 150] 268)) (by simp)
 have hlt:0<w.heap.size:=by
  rcases Nat.eq_zero_or_pos w.heap.size with h0|h
  ·simp[World.cell?,h0]at hg
  ·exact h
 have hg2:((w.alloc (.cells #[.pointer (some t)] 209)).alloc (.cells #[.pointer (some ⟨5,209,none⟩),.pointer (some ⟨w.heap.size,0,none⟩),.int .u64 150] 268)).cell? ⟨0,0,none⟩=some (.iface 316 (.agg #[.pointer (some ⟨5,110,none⟩)])):=by
  rw[World.cell?_alloc_lt _ _ ⟨0,0,none⟩ (by simp),World.cell?_alloc_lt _ _ ⟨0,0,none⟩ hlt];exact hg
 have htl:t.block<w.heap.size:=by
  rcases Nat.lt_or_ge t.block w.heap.size with h|h
  ·exact h
  ·simp[World.cell?,Array.getElem?_eq_none h]at ht0
 have el:=Fa.aag ⟨w.heap.size,0,none⟩ t (((w.alloc (.cells #[.pointer (some t)] 209)).alloc (.cells #[.pointer (some ⟨5,209,none⟩),.pointer (some ⟨w.heap.size,0,none⟩),.int .u64 150] 268)).alloc (.cells #[.pointer (some ⟨5,209,none⟩),.pointer (some ⟨w.heap.size,0,none⟩),.int .u64 150] 268)) (by rw[World.cell?_alloc_lt _ _ ⟨w.heap.size,0,none⟩ (by simp;omega)];simp)
 have st:=Fa.anl t ⟨w.heap.size+1+1+1,0,none⟩ e old ((((w.alloc (.cells #[.pointer (some t)] 209)).alloc (.cells #[.pointer (some ⟨5,209,none⟩),.pointer (some ⟨w.heap.size,0,none⟩),.int .u64 150] 268)).alloc (.cells #[.pointer (some ⟨5,209,none⟩),.pointer (some ⟨w.heap.size,0,none⟩),.int .u64 150] 268)).alloc (.cells #[.pointer (some e)] 207))
  (by rw[World.cell?_alloc_at _ _ _ _ (by simp)];rfl)
  (by rw[World.cell?_alloc_lt _ _ t (by simp;omega),World.cell?_alloc_lt _ _ t (by simp;omega),World.cell?_alloc_lt _ _ t (by simp;omega),World.cell?_alloc_lt _ _ t htl];exact ht0)
  (by rw[World.frozen?_alloc_old _ _ t (by simp;omega),World.frozen?_alloc_old _ _ t (by simp;omega),World.frozen?_alloc_old _ _ t (by simp;omega),World.frozen?_alloc_old _ _ t (Nat.ne_of_lt htl)];exact hf0)
 go_enter Tryz.func147,Tryz.ntmps147
 go_wp2
 refine wp_loop_rounds 1 ?_
 rw[rounds_succ]
 go_wp2
 go_ret
 exact⟨rfl,rfl⟩
end Go.Proofs.Ybk.F
namespace Go.Am
open Go
def oh (P:Program):List Nat→Nat→List Oper→Bool
 |[],_,[]=>true
 |i::r,k,o::l=>decide (i=k)&&(dj P o.op&&oh P r (k+1) l)
 |_,_,_=>false
theorem afu (pre:List Oper) (o:Oper) (l:List Oper):gD default (pre++o::l) pre.length=o:=by
 induction pre with
 |nil=>rfl
 |cons a r ih=>exact ih
theorem aet {P:Program}:∀(perm:List Nat) (k:Nat) (l pre:List Oper),pre.length=k→oh P perm k l=true→perm.map (gD default (pre++l))=l∧perm.all (fun i=>dj P (gD default (pre++l) i).op)=true:=by
 intro perm
 induction perm with
 |nil=>intro k l pre hk h;cases l with
  |nil=>exact⟨rfl,rfl⟩
  |cons o l=>simp[oh]at h
 |cons i r ih=>intro k l pre hk h;cases l with
  |nil=>simp[oh]at h
  |cons o l=>
   simp only[oh,Bool.and_eq_true,decide_eq_true_eq]at h
   obtain⟨rfl,h2,h3⟩:=h
   have:=ih (i+1) l (pre++[o]) (by simp[hk]) h3
   rw[List.append_assoc]at this
   have e:gD default (pre++o::l) i=o:=by rw[←hk];exact afu pre o l
   refine⟨?_,?_⟩
   ·rw[List.map_cons,e];congr 1;exact this.1
   ·rw[List.all_cons,e,h2];exact this.2
theorem aqt {P:Program} {cfg:au} {Q:Ex→St→Prop} {σ:St} (id:Nat) (l:List Oper) (h:oh P (cfg.draw id).perm 0 l=true) (ha:(cfg.draw id).alts=[]):vc P cfg (.region id l.toArray true) Q σ=eh P cfg.loc l.toArray (o0 Q cfg id) l (mN (jE P l.toArray (cfg.draw id)) σ):=by
 obtain⟨h1,h2⟩:=aet (cfg.draw id).perm 0 l [] rfl h
 simp only[List.nil_append]at h1 h2
 rw[Q6,ha]
 simp only[Po]
 rw[if_pos h2,h1]
section
variable {P:Program} {loc:List Nat} {σ:St} {d:Option Nat} {ty:TypeId} {pos:String} {aft:Array Edge} {g:Option (Nat×Bool)}
theorem aon (t:TypeId) (r:Option Operand):bU P loc σ ⟨d,.makeMap t r,ty,pos,aft,g⟩=mi P σ t r:=rfl
theorem aok (t:TypeId) (x i:Operand) (ok:Bool):bU P loc σ ⟨d,.lookup t x i ok,ty,pos,aft,g⟩=lH P σ t x i ok:=rfl
theorem aop (t:TypeId) (x i y:Operand):bU P loc σ ⟨d,.mapUpdate t x i y,ty,pos,aft,g⟩=kM P σ t x i y:=rfl
theorem aoh (t:TypeId) (x i y:Operand):bU P loc σ ⟨d,.insert t x i y,ty,pos,aft,g⟩=kM P σ t x i y:=rfl
theorem YP (t:TypeId) (r:Option Operand):cN σ ⟨d,.makeMap t r,ty,pos,aft,g⟩=none:=rfl
theorem YM (t:TypeId) (x i:Operand) (ok:Bool):cN σ ⟨d,.lookup t x i ok,ty,pos,aft,g⟩=none:=rfl
theorem YR (t:TypeId) (x i y:Operand):cN σ ⟨d,.mapUpdate t x i y,ty,pos,aft,g⟩=none:=rfl
theorem YK (t:TypeId) (x i y:Operand):cN σ ⟨d,.insert t x i y,ty,pos,aft,g⟩=none:=rfl
end
attribute [simp] aon aok aop aoh YP YM YR YK mi lH kM
end Go.Am
namespace Go.Am
open Go Go.RowKit
theorem UI {α:Type} {a b:Array α} (hs:a.size≤b.size) (h:∀i,i<a.size→b[i]? =a[i]?):b=a++b.extract a.size b.size:=by
 apply Array.ext'
 rw[Array.toList_append,Array.toList_extract]
 apply List.ext_getElem?
 intro i
 by_cases hi:i<a.size
 ·rw[List.getElem?_append_left (by simpa using hi)]
  have:=h i hi
  simpa using this
 ·rw[List.getElem?_append_right (by simpa using Nat.le_of_not_lt hi)]
  simp only[List.extract,Array.length_toList,List.getElem?_take,List.getElem?_drop]
  rw[show a.size+(i-a.size)=i by omega]
  split
  ·rfl
  ·rw[List.getElem?_eq_none];simp;omega
theorem ai.grown {P:Program} {f:FuncId} {args:List Value} {post:Value→aa→Prop} {r:Value} (H:ai P f args h0 post) (hp:∀v h',post v h'→v=r) (hr:bM r=true) (ha:∀v∈args,bM v=true) (W:World):
  Calls P f ⟨args⟩ W fun e w'=>e= .returned r∧∃q os',w'=Sort.grow (W.drewN q) os':=by
 refine(H.2 nr W args (fun _=>rfl) (agh P W h0 rfl) ⟨rfl,fun i v hi=>⟨v,hi,.eC (ha v (List.mem_of_getElem? hi))⟩⟩).mono ?_
 rintro e w' ⟨v,v',h',ρ',rfl,q,_,_,T,hv⟩
 obtain rfl:=hp _ _ q
 have hv:=hv.bM hr
 subst hv
 refine⟨rfl,w'.drawn-W.drawn,w'.heap.extract W.heap.size w'.heap.size,?_⟩
 have hh:=UI T.size (fun i hi=>T.frame i hi (fun⟨b,pl,q,_⟩=>by simp[nr]at q))
 obtain⟨heap,tape,drawn,os,output⟩:=w'
 have h1:=T.os;have h2:=T.tape;have h3:=T.output;have h4:=T.drawn rfl
 simp only at h1 h2 h3 h4 hh
 subst h1;subst h2;subst h3
 simp only[Sort.grow,World.drewN]
 congr 1
 omega
theorem nD {P:Program} {ρ:aw} {h:aa} {w w':World} {b:Nat} {pl:Pl} {e:TypeId} {cs cs':List Value} (R:fW P ρ ⟨bI.nil,h⟩ w) (hk:ρ (false,b)=some pl) (hrow:h.f b= .row true e cs) (hl:cs'.length=cs.length)
  (os:w'.os=w.os) (tape:w'.tape=w.tape) (output:w'.output=w.output) (drawn:w.drawn≤w'.drawn) (size:w.heap.size≤w'.heap.size)
  (hother:∀B,B<w.heap.size→B≠pl.B→w'.heap[B]? =w.heap[B]?)
  (hcells:∀C e' fz,w.heap[pl.B]? =some (.cells C e' fz)→∃C',w'.heap[pl.B]? =some (.cells C' e' fz)∧C'.size=C.size∧∀(i:Nat) (v:Value),cs'[i]? =some v→∃v',C'[pl.o+i]? =some v'∧VR ρ v v'):
  fW P ρ ⟨bI.nil,h.set b (.row true e cs')⟩ w'∧Tr ρ h w ρ (h.set b (.row true e cs')) w':=by
 have hbn:=R.cU b pl hk
 have hbound:=R.bound _ _ hk
 have hf:∀b',b'≠b→(h.set b (.row true e cs')).f b'=h.f b':=fun b' hb'=>by rw[eT,if_neg hb']
 have hfb:(h.set b (.row true e cs')).f b= .row true e cs':=by rw[eT,if_pos rfl]
 have hwr:Mem.wr ⟨bI.nil,h⟩ (false,b):=by simp[Mem.wr,aa.wr,hrow]
 have hlive:∀k,Mem.live ⟨bI.nil,h.set b (.row true e cs')⟩ k→Mem.live ⟨bI.nil,h⟩ k:=by
  rintro⟨t,b'⟩ hl
  cases t with
  |true=>exact hl
  |false=>
   by_cases hb':b'=b
   ·subst hb';simp[Mem.live,hrow]
   ·simp only[Mem.live,hf b' hb']at hl;exact hl
 have hwr':∀k,Mem.wr ⟨bI.nil,h.set b (.row true e cs')⟩ k→Mem.wr ⟨bI.nil,h⟩ k:=by
  rintro⟨t,b'⟩ hl
  cases t with
  |true=>exact hl
  |false=>
   by_cases hb':b'=b
   ·subst hb';exact hwr
   ·simp only[Mem.wr,aa.wr,hf b' hb']at hl;exact hl
 have hsame:∀k pl',k≠(false,b)→ρ k=some pl'→Mem.live ⟨bI.nil,h⟩ k→w'.heap[pl'.B]? =w.heap[pl'.B]? :=fun k pl' hne q hlv=>
  hother _ (R.bound _ _ q) (fun e=>R.sep (false,b) k pl pl' (Ne.symm hne) hk q hwr hlv e.symm)
 refine⟨⟨fun k pl' q=>Nat.lt_of_lt_of_le (R.bound k pl' q) size,fun b' pl' q=>by rw[OM];exact R.cU b' pl' q,?_,?_,fun k k' p p' hne q q' hw hlv=>R.sep k k' p p' hne q q' (hwr' k hw) (hlive k' hlv),fun i hi=>R.gM i hi⟩,?_⟩
 ·intro k pl' wr e1 cs1 q hr
  by_cases hkb:k=(false,b)
  ·subst hkb
   rw[hk]at q
   obtain rfl:=Option.some.inj q
   simp only[Mem.row?,hfb,Option.some.injEq,Prod.mk.injEq]at hr
   obtain⟨rfl,rfl,rfl⟩:=hr
   obtain⟨C,e',fz,c1,c2,c3,c4,c5,c6⟩:=R.row (false,b) pl true e cs hk (by simp[Mem.row?,hrow])
   obtain⟨C',d1,d2,d3⟩:=hcells C e' fz c1
   exact⟨C',e',fz,d1,c2,by omega,by omega,c5,d3⟩
  ·have hr':Mem.row? ⟨bI.nil,h⟩ k=some (wr,e1,cs1):=by
    obtain⟨t,b'⟩:=k
    cases t with
    |true=>exact hr
    |false=>
     have:b'≠b:=fun e=>hkb (by rw[e])
     simp only[Mem.row?,hf b' this]at hr;exact hr
   obtain⟨C,e',fz,c1,c2⟩:=R.row k pl' wr e1 cs1 q hr'
   have hlv:Mem.live ⟨bI.nil,h⟩ k:=by
    obtain⟨t,b'⟩:=k
    cases t with
    |true=>simp[Mem.row?,bI.nil,bI.look]at hr'
    |false=>
     simp only[Mem.row?]at hr'
     simp only[Mem.live]
     split at hr'
     ·rename_i hx;simp[hx]
     ·simp at hr'
   exact⟨C,e',fz,by rw[hsame k pl' hkb q hlv];exact c1,c2⟩
 ·intro b' pl' o q ho
  by_cases hb':b'=b
  ·subst hb';rw[hfb]at ho;cases ho
  ·rw[hf b' hb']at ho
   obtain⟨c1,c2⟩:=R.obj b' pl' o q ho
   exact⟨by rw[hsame (false,b') pl' (by simpa using hb') q (by simp[Mem.live,ho])];exact c1,c2⟩
 ·refine⟨os,tape,output,fun _=>drawn,size,fun _ _ q=>q,Nat.le_refl _,rfl,fun b' pl' q q'=>(by rw[q]at q';cases q'),fun b' hb' hd=>?_,fun b' hb' hw=>?_,fun B hB hO=>hother B hB (fun e=>hO ⟨b,pl,hk,e.symm,by simp[aa.wr,hrow]⟩)⟩
  ·by_cases e:b'=b
   ·subst e;rw[hrow];simp
   ·rwa[hf b' e]at hd
  ·by_cases e:b'=b
   ·subst e;simp[aa.wr,hrow]
   ·simp only[aa.wr,hf b' e]at hw;exact hw
end Go.Am
namespace Go.Am
open Go
structure Wk (h h':aa):Prop where
 n:h'.n=h.n
 g:h'.g=h.g
 f:∀b,h'.f b=h.f b∨∃e cs,h.f b= .row true e cs∧h'.f b= .row false e cs
theorem Wk.refl (h:aa):Wk h h:=⟨rfl,rfl,fun _=>.inl rfl⟩
theorem Wk.trans {h h' h'':aa} (a:Wk h h') (b:Wk h' h''):Wk h h'':=by
 refine⟨b.n.trans a.n,b.g.trans a.g,fun i=>?_⟩
 rcases a.f i with q|⟨e,cs,q1,q2⟩
 ·rcases b.f i with p|⟨e,cs,p1,p2⟩
  ·exact .inl (p.trans q)
  ·exact .inr ⟨e,cs,by rw[←q];exact p1,p2⟩
 ·rcases b.f i with p|⟨e',cs',p1,p2⟩
  ·exact .inr ⟨e,cs,q1,p.trans q2⟩
  ·rw[q2]at p1;cases p1
theorem Wk.wr {h h':aa} (W:Wk h h') {b:Nat} (q:h'.wr b):h.wr b:=by
 rcases W.f b with e|⟨e,cs,q1,q2⟩
 ·unfold aa.wr at q ⊢;rwa[e]at q
 ·unfold aa.wr;rw[q1]
theorem Wk.live {h h':aa} (W:Wk h h') {b:Nat}:h'.f b≠.dead↔h.f b≠.dead:=by
 rcases W.f b with e|⟨e,cs,q1,q2⟩
 ·rw[e]
 ·rw[q1,q2];simp
theorem Wk.agi {h h':aa} (W:Wk h h') {k:Key} (q:(Mem.mk bI.nil h').wr k):(Mem.mk bI.nil h).wr k:=by
 obtain⟨t,b⟩:=k
 cases t with
 |true=>exact q
 |false=>exact W.wr q
theorem Wk.aga {h h':aa} (W:Wk h h') {k:Key} (q:(Mem.mk bI.nil h').live k):(Mem.mk bI.nil h).live k:=by
 obtain⟨t,b⟩:=k
 cases t with
 |true=>exact q
 |false=>exact W.live.1 q
variable {P:Program} {ρ ρ':aw} {w w':World}
theorem Wk.rel {h h':aa} (W:Wk h h') (R:fW P ρ ⟨bI.nil,h⟩ w):fW P ρ ⟨bI.nil,h'⟩ w:=by
 refine⟨R.bound,fun b pl q=>by show b<h'.n;rw[W.n];exact R.cU b pl q,?_,?_,fun k k' pl pl' hne q q' hw hl=>R.sep k k' pl pl' hne q q' (W.agi hw) (W.aga hl),fun i hi=>R.gM i (by show i<h.g;rw[←W.g];exact hi)⟩
 ·rintro⟨t,b⟩ pl wr e cs q r
  cases t with
  |true=>simp[Mem.row?,bI.nil,bI.look]at r
  |false=>
   rcases W.f b with p|⟨e1,cs1,p1,p2⟩
   ·refine R.row (false,b) pl wr e cs q ?_
    simp only[Mem.row?]at r ⊢
    rwa[p]at r
   ·simp only[Mem.row?,p2,Option.some.injEq,Prod.mk.injEq]at r
    obtain⟨rfl,rfl,rfl⟩:=r
    obtain⟨C,e',fz,c1,c2,c3,c4,c5,c6⟩:=R.row (false,b) pl true e1 cs1 q (by simp[Mem.row?,p1])
    exact⟨C,e',fz,c1,fun z=>(by cases z),c3,c4,c5,c6⟩
 ·intro b pl o q r
  rcases W.f b with p|⟨e1,cs1,p1,p2⟩
  ·exact R.obj b pl o q (by show h.f b=_;rw[←p];exact r)
  ·simp only[p2]at r;cases r
theorem Wk.tr {h0 h h':aa} (W:Wk h h') (T:Tr ρ h0 w ρ' h w'):Tr ρ h0 w ρ' h' w':=
 ⟨T.os,T.tape,T.output,T.drawn,T.size,T.ext,by rw[W.n];exact T.hn,by rw[W.g];exact T.hg,fun b pl q q'=>⟨(T.new b pl q q').1,fun z=>(T.new b pl q q').2 (W.live.1 z)⟩,
  fun b hb z=>T.dead b hb (W.live.1 z),fun b hb z=>T.jk b hb (W.wr z),T.frame⟩
theorem ai.gK {f:FuncId} {args:List Value} {h:aa} {post post':Value→aa→Prop} (H:ai P f args h post) (hp:∀v h',post v h'→∃h'',Wk h' h''∧post' v h''):ai P f args h post':=by
 refine⟨H.1,fun ρ w args' hb R V=>(H.2 ρ w args' hb R V).mono ?_⟩
 rintro e w' ⟨v,v',h',ρ',q1,q2,q3,q4,q5,q6⟩
 obtain⟨h'',W,q⟩:=hp v h' q2
 exact⟨v,v',h'',ρ',q1,q,q3,W.rel q4,W.tr q5,q6⟩
def aO.cG:aO→aO
 | .row _ e cs=>.row false e cs
 |x=>x
def aa.cG (h:aa) (b:Nat):aa:=h.set b (h.f b).cG
theorem aa.ma (h:aa) (b:Nat):Wk h (h.cG b):=by
 refine⟨rfl,rfl,fun i=>?_⟩
 unfold aa.cG
 rw[eT]
 split
 ·rename_i e
  subst e
  cases q:h.f i with
  |dead=>exact .inl rfl
  |row w e cs=>cases w with
   |true=>exact .inr ⟨e,cs,rfl,rfl⟩
   |false=>exact .inl rfl
  |obj o=>exact .inl rfl
 ·exact .inl rfl
structure b8 (S:List Nat) (h h':aa):Prop where
 g:h'.g=h.g
 n:h.n≤h'.n
 f:∀b,b<h.n→b∉S→h'.f b=h.f b
theorem b8.dR {S:List Nat} {h h':aa} (E:Ext h h'):b8 S h h':=⟨E.g,E.n,fun b hb _=>E.f b hb⟩
theorem b8.bu (S:List Nat) (h:aa):b8 S h h:=⟨rfl,Nat.le_refl _,fun _ _ _=>rfl⟩
theorem b8.mono {S S':List Nat} {h h':aa} (C:b8 S h h') (hs:∀b∈S,b<h.n→b∈S'):b8 S' h h':=⟨C.g,C.n,fun b hb q=>C.f b hb (fun z=>q (hs b z hb))⟩
theorem b8.trans {S S':List Nat} {h h' h'':aa} (a:b8 S h h') (b:b8 S' h' h'') (hs:∀i∈S',i<h.n→i∈S):b8 S h h'':=
 ⟨b.g.trans a.g,Nat.le_trans a.n b.n,fun i hi q=>(b.f i (Nat.lt_of_lt_of_le hi a.n) (fun z=>q (hs i z hi))).trans (a.f i hi q)⟩
theorem b8.wk {S:List Nat} {h h' h'':aa} (a:b8 S h h') (W:Wk h' h'') (hs:∀b,b<h.n→b∉S→h''.f b=h'.f b):b8 S h h'':=
 ⟨W.g.trans a.g,by rw[W.n];exact a.n,fun b hb q=>(hs b hb q).trans (a.f b hb q)⟩
theorem Ext.cG {h h':aa} (E:Ext h h') {b:Nat} (hb:h.n≤b):Ext h (h'.cG b):=E.cq hb _
def eZ (S:List Nat) (h:aa):Prop:=∀b∈S,∃e cs,h.f b= .row true e cs
theorem eZ.nil (h:aa):eZ [] h:=fun b q=>by cases q
theorem eZ.cons {S:List Nat} {h:aa} {b:Nat} {e:TypeId} {cs:List Value} (q:h.f b= .row true e cs) (H:eZ S h):eZ (b::S) h:=by
 intro i hi
 rcases List.mem_cons.1 hi with z|z
 ·subst z;exact⟨e,cs,q⟩
 ·exact H i z
theorem b8.obj {S:List Nat} {h h':aa} (C:b8 S h h') (hs:eZ S h) {b:Nat} {o:Obj} (hb:h.f b= .obj o) (hn:b<h.n):h'.f b= .obj o:=by
 rw[C.f b hn (fun z=>by obtain⟨e,cs,q⟩:=hs b z;rw[hb]at q;cases q),hb]
section
variable {α:Type}
def aF (e:TypeId) (enc:α→List Value) (h:aa) (v:Value) (xs:List α):Prop:=∃ad c,v= .slice ad xs.length c∧(ad=none→c=0)∧
 (xs=[]∨∃b off cells rest,ad=some ⟨b,off,none⟩∧h.f b= .row false e cells∧cells.drop off=xs.flatMap enc++rest∧off≤cells.length∧b<h.n)
variable {e:TypeId} {enc:α→List Value} {h0 h h':aa} {v:Value} {xs:List α}
theorem aF.sl (H:aF e enc h v xs):cm e enc h v xs:=by
 obtain⟨ad,c,q,n,z⟩:=H
 refine⟨ad,c,q,n,?_⟩
 rcases z with z|⟨b,off,cells,rest,z1,z2,z3,z4,z5⟩
 ·exact .inl z
 ·exact .inr ⟨b,off,false,cells,rest,z1,z2,z3,z4,z5⟩
theorem aF.nil:aF e enc h (.slice none 0 0) []:=⟨none,0,rfl,fun _=>rfl,.inl rfl⟩
theorem aF.shape (H:aF e enc h v xs):∃ad c,v= .slice ad xs.length c:=by obtain⟨ad,c,q,_⟩:=H;exact⟨ad,c,q⟩
theorem aF.ext (H:aF e enc h v xs) (E:Ext h h'):aF e enc h' v xs:=by
 obtain⟨ad,c,q,n,z⟩:=H
 refine⟨ad,c,q,n,?_⟩
 rcases z with z|⟨b,off,cells,rest,z1,z2,z3,z4,z5⟩
 ·exact .inl z
 ·exact .inr ⟨b,off,cells,rest,z1,by rw[E.f b z5,z2],z3,z4,Nat.lt_of_lt_of_le z5 E.n⟩
theorem aF.dt (H:aF e enc h v xs) {S:List Nat} (C:b8 S h h') (hs:eZ S h):aF e enc h' v xs:=by
 obtain⟨ad,c,q,n,z⟩:=H
 refine⟨ad,c,q,n,?_⟩
 rcases z with z|⟨b,off,cells,rest,z1,z2,z3,z4,z5⟩
 ·exact .inl z
 ·refine .inr ⟨b,off,cells,rest,z1,?_,z3,z4,Nat.lt_of_lt_of_le z5 C.n⟩
  rw[C.f b z5 (fun z=>?_),z2]
  obtain⟨e1,cs,q⟩:=hs b z
  rw[z2]at q
  cases q
theorem aF.wk (H:aF e enc h v xs) (W:Wk h h'):aF e enc h' v xs:=by
 obtain⟨ad,c,q,n,z⟩:=H
 refine⟨ad,c,q,n,?_⟩
 rcases z with z|⟨b,off,cells,rest,z1,z2,z3,z4,z5⟩
 ·exact .inl z
 ·refine .inr ⟨b,off,cells,rest,z1,?_,z3,z4,by rw[W.n];exact z5⟩
  rcases W.f b with q|⟨e1,cs,q,_⟩
  ·rw[q,z2]
  ·rw[z2]at q;cases q
theorem cm.cG (H:cm e enc h v xs):∃h',Wk h h'∧aF e enc h' v xs∧(∀b,h'.f b≠h.f b→v= .slice (some ⟨b,(match v with| .slice (some ad) _ _=>ad.off|_=>0),none⟩) xs.length (match v with| .slice _ _ c=>c|_=>0)):=by
 obtain⟨ad,c,rfl,n,z⟩:=H
 rcases z with z|⟨b,off,w,cells,rest,rfl,z2,z3,z4,z5⟩
 ·exact⟨h,Wk.refl h,⟨ad,c,rfl,n,.inl z⟩,fun b q=>absurd rfl q⟩
 ·refine⟨h.cG b,h.ma b,⟨_,c,rfl,n,.inr ⟨b,off,cells,rest,rfl,?_,z3,z4,z5⟩⟩,fun b' q=>?_⟩
  ·unfold aa.cG;rw[eT,if_pos rfl,z2];rfl
  ·unfold aa.cG at q
   rw[eT]at q
   split at q
   ·rename_i e1;subst e1;rfl
   ·exact absurd rfl q
theorem bS.cG (H:bS e enc h0 h v xs) (E:Ext h0 h):∃h',Wk h h'∧Ext h0 h'∧aF e enc h' v xs:=by
 obtain⟨ad,rfl,z⟩:=H
 rcases z with⟨rfl,rfl⟩|⟨b,rfl,z2,z3,z4⟩
 ·exact⟨h,Wk.refl h,E,aF.nil⟩
 ·refine⟨h.cG b,h.ma b,E.cG z3,⟨_,_,rfl,fun q=>(by cases q),.inr ⟨b,0,xs.flatMap enc,[],rfl,?_,by simp,by simp,z4⟩⟩⟩
  unfold aa.cG;rw[eT,if_pos rfl,z2];rfl
theorem aF.at (k:Nat) (hk:∀x,(enc x).length=k) {ad:Option Addr} {n c:Nat} (H:aF e enc h (.slice ad n c) xs) {i:Nat} {t:α} (hi:xs[i]? =some t):
  n=xs.length∧∃b off cells rest,ad=some ⟨b,off,none⟩∧h.f b= .row false e cells∧cells.drop (off+i*k)=enc t++rest∧off+i*k+k≤cells.length∧b<h.n:=by
 have hf:=H
 obtain⟨ad',c',q,_,z⟩:=hf
 obtain⟨h1,b,off,w,cells,rest,h2,h3,h4,h5,h6⟩:=H.sl.at k hk hi
 refine⟨h1,b,off,cells,rest,h2,?_,h4,h5,h6⟩
 simp only[Value.slice.injEq]at q
 obtain⟨rfl,rfl,rfl⟩:=q
 rcases z with rfl|⟨b',off',cells',rest',z1,z2,z3,z4,z5⟩
 ·simp at hi
 ·rw[h2]at z1
  simp only[Option.some.injEq,Addr.mk.injEq,and_true]at z1
  obtain⟨rfl,rfl⟩:=z1
  rw[h3]at z2
  simp only[aO.row.injEq]at z2
  rw[h3,z2.1]
end
end Go.Am
namespace Go.Proofs.Ybk.F
open Go Go.Am Go.RowKit
theorem gu:PP=Tryz.prog:=by unfold PP;rfl
section
variable {P:Program} {ρ:aw} {h:aa} {w w':World} {m:Mem}
theorem amC (R:fW P ρ m w) (size:w.heap.size≤w'.heap.size) (same:∀B,B<w.heap.size→w'.heap[B]? =w.heap[B]?):fW P ρ m w':=
 ⟨fun k pl q=>Nat.lt_of_lt_of_le (R.bound k pl q) size,R.cU,fun k pl wr e cs q r=>by rw[same _ (R.bound k pl q)];exact R.row k pl wr e cs q r,
  fun b pl o q r=>by rw[same _ (R.bound _ pl q)];exact R.obj b pl o q r,R.sep,R.gM⟩
theorem apP (hb:Below w.heap.size w w') (hg:h.g≠0):Tr ρ h w ρ h w':=
 ⟨hb.os,hb.tape,hb.output,fun e=>absurd e hg,hb.size,fun _ _ q=>q,Nat.le_refl _,rfl,fun b pl q q'=>(by rw[q]at q';cases q'),fun _ _ q=>q,fun _ _ q=>q,fun B hB _=>hb.block B hB⟩
theorem uN {f:FuncId} {args:List Value} {post:Value→Prop} (hE:uE P f) (hg:h.g≠0)
  (H:∀(ρ:aw) (w:World) (args':List Value),fW P ρ ⟨bI.nil,h⟩ w→jP ρ args args'→Calls P f ⟨args'⟩ w fun e w'=>∃v,e= .returned v∧bM v=true∧post v∧Below w.heap.size w w'):
  ai P f args h (fun v h'=>h'=h∧post v):=by
 refine⟨hE,fun ρ w args' hb R V=>(H ρ w args' R V).mono ?_⟩
 rintro e w' ⟨v,rfl,hf,hp,bel⟩
 exact⟨v,v,h,ρ,rfl,⟨rfl,hp⟩,hb,amC R bel.size bel.block,apP bel hg,.eC hf⟩
theorem UQ (w:World) (n:Nat) (os:Array Obj):Below w.heap.size w (Sort.grow (w.drewN n) os):=by
 refine⟨rfl,rfl,rfl,?_,fun k hk=>?_⟩
 ·show w.heap.size≤(w.heap++os).size
  simp
 ·show(w.heap++os)[k]? =_
  rw[Array.getElem?_append_left hk]
end
def bQ (h:aa):Prop:=h.g=3∧3≤h.n∧(∃t f,h.f 0= .obj (.cells #[.iface 316 (.agg #[.pointer (some ⟨5,110,none⟩)])] t f))∧
 (∃t f,h.f 2= .obj (.cells (Lib.pow10Tab.map fun z=>Value.int .u64 z).toArray t f))
theorem bQ.ext {h h':aa} (G:bQ h) (E:Ext h h'):bQ h':=by
 obtain⟨g1,g2,⟨t0,f0,g3⟩,⟨t1,f1,g4⟩⟩:=G
 exact⟨by rw[E.g];exact g1,Nat.le_trans g2 E.n,⟨t0,f0,by rw[E.f 0 (by omega)];exact g3⟩,⟨t1,f1,by rw[E.f 2 (by omega)];exact g4⟩⟩
theorem bQ.ne {h:aa} (G:bQ h):h.g≠0:=by rw[G.1];decide
theorem bQ.ael {h:aa} {ρ:aw} {w:World} (G:bQ h) (R:fW PP ρ ⟨bI.nil,h⟩ w):w.cell? ⟨0,0,none⟩=some (.iface 316 (.agg #[.pointer (some ⟨5,110,none⟩)])):=by
 obtain⟨g1,g2,⟨t0,f0,g3⟩,_⟩:=G
 obtain⟨pl,q1,q2,q3⟩:=R.gM 0 (by show 0<h.g;omega)
 obtain⟨r1,_⟩:=R.obj 0 pl _ q1 g3
 replace r1:=r1.plain rfl
 rw[q2]at r1
 simp[World.cell?,r1]
theorem bQ.Ax {h:aa} {ρ:aw} {w:World} (G:bQ h) (R:fW PP ρ ⟨bI.nil,h⟩ w):Lib.TabIs Tryz.prog w "internal/strconv.uint64pow10" .u64 Lib.pow10Tab:=by
 obtain⟨g1,g2,_,⟨t1,f1,g4⟩⟩:=G
 obtain⟨pl,q1,q2,q3⟩:=R.gM 2 (by show 2<h.g;omega)
 obtain⟨r1,_⟩:=R.obj 2 pl _ q1 g4
 replace r1:=r1.plain rfl
 rw[q2]at r1
 unfold Lib.TabIs World.var?
 have:Tryz.prog.globalNamed "internal/strconv.uint64pow10"=some 2:=by kernel_rfl
 rw[this]
 simp only[Option.bind_some,r1]
theorem aeN (n:Int) (hn: -9223372036854775808≤n∧n≤9223372036854775807) (h:aa) (G:bQ h):ai PP 126 [.int .i64 n] h (fun v h'=>h'=h∧v= .string (B (Lib.itoa n))):=by
 refine uN ⟨Tryz.f126,by rw[gu];exact Tryz.func126,by kernel_rfl,by kernel_rfl⟩ G.ne fun ρ w args' R V=>?_
 have hargs:args'=[.int .i64 n]:=by
  obtain⟨v0,hv0,V0⟩:=V.2 0 _ rfl
  have:=V.1
  match args',hv0,this with
  |[p],h0,_=>simp at h0;rw[h0,V0.cA rfl]
 subst hargs
 have htab:=G.Ax R
 rw[gu]
 refine(Any.strconv_Itoa Tryz.itoa n hn.1 hn.2 w htab).mono ?_
 rintro e w' ⟨rfl,k,os,rfl⟩
 exact⟨_,rfl,rfl,rfl,UQ w k os⟩
def bz {α:Type} (e:TypeId) (enc:α→List Value) (h0 h:aa) (o:Option Nat) (xs:List α) (v:Value):Prop:=
 v= .slice (o.map fun b=>⟨b,0,none⟩) xs.length xs.length∧(match o with
  |none=>xs=[]
  |some b=>h.f b= .row true e (xs.flatMap enc)∧h0.n≤b∧b<h.n)
theorem bz.own {α:Type} {e:TypeId} {enc:α→List Value} {h0 h:aa} {o:Option Nat} {xs:List α} {v:Value} (H:bz e enc h0 h o xs v):bS e enc h0 h v xs:=by
 obtain⟨rfl,z⟩:=H
 cases o with
 |none=>exact⟨none,rfl,.inl ⟨rfl,z⟩⟩
 |some b=>exact⟨_,rfl,.inr ⟨b,rfl,z.1,z.2.1,z.2.2⟩⟩
theorem bz.ext {α:Type} {e:TypeId} {enc:α→List Value} {h0 h h':aa} {o:Option Nat} {xs:List α} {v:Value} (H:bz e enc h0 h o xs v) (E:Ext h h'):bz e enc h0 h' o xs v:=by
 obtain⟨rfl,z⟩:=H
 refine⟨rfl,?_⟩
 cases o with
 |none=>exact z
 |some b=>exact⟨by rw[E.f b z.2.2];exact z.1,z.2.1,Nat.lt_of_lt_of_le z.2.2 E.n⟩
theorem bz.ki {α:Type} {e:TypeId} {enc:α→List Value} {h0 h:aa} {o:Option Nat} {xs:List α} {v:Value} (H:bz e enc h0 h o xs v) {b:Nat} (c:aO) (hb:o≠some b):bz e enc h0 (h.set b c) o xs v:=by
 obtain⟨rfl,z⟩:=H
 refine⟨rfl,?_⟩
 cases o with
 |none=>exact z
 |some b'=>exact⟨by rw[eT,if_neg (fun q=>hb (by rw[q]))];exact z.1,z.2.1,z.2.2⟩
theorem bz.lt {α:Type} {e:TypeId} {enc:α→List Value} {h0 h:aa} {o:Option Nat} {xs:List α} {v:Value} (H:bz e enc h0 h o xs v) {m:Nat} (hm:h.n≤m):o≠some m:=by
 intro q;subst q;have:=H.2.2.2;omega
theorem bz.nil {α:Type} {e:TypeId} {enc:α→List Value} {h0 h:aa}:bz e enc h0 h none ([]:List α) (.slice none 0 0):=⟨rfl,rfl⟩
theorem bz.keep {α:Type} {e:TypeId} {enc:α→List Value} {h0 h:aa} {o:Option Nat} {xs:List α} {v:Value} (H:bz e enc h0 h o xs v) {b:Nat} (c0 c1:aO) (hb:o≠some b):bz e enc h0 (((h.new c0).set b .dead).new c1) o xs v:=
 ((H.ext (Ext.new _ _)).ki _ hb).ext (Ext.new _ _)
theorem bz.push {α:Type} {e:TypeId} {enc:α→List Value} {h0 h:aa} {b:Nat} {xs:List α} {v:Value} (H:bz e enc h0 h (some b) xs v) (c0:aO) (x:α) {cells:List Value} (hc:cells=(xs++[x]).flatMap enc):
  bz e enc h0 (((h.new c0).set b .dead).new (.row true e cells)) (some (h.n+1)) (xs++[x]) (.slice (some ⟨h.n+1,0,none⟩) (xs.length+1) (xs.length+1)):=by
 obtain⟨_,_,h1,h2⟩:=H
 refine⟨by simp,?_,?_,?_⟩
 ·simp[hc]
 ·omega
 ·simp
theorem bz.tL {α:Type} {e:TypeId} {enc:α→List Value} {h0 h:aa} (hn:h0.n≤h.n) (c0:aO) (x:α) {cells:List Value} (hc:cells=enc x):
  bz e enc h0 ((h.new c0).new (.row true e cells)) (some (h.n+1)) [x] (.slice (some ⟨h.n+1,0,none⟩) 1 1):=by
 refine⟨by simp,?_,?_,?_⟩
 ·simp[hc]
 ·omega
 ·simp
def jd (l:List UInt8):List Value:=[.string (B l)]
theorem aoD (xs:List (List UInt8)):xs.flatMap jd=xs.map fun l=>Value.string (B l):=by
 induction xs with
 |nil=>rfl
 |cons a r ih=>rw[List.flatMap_cons,ih];rfl
theorem aeT (v:Value) (xs:List (List UInt8)) (sep:List UInt8) (hl:xs.length≤1000000) (hj:(Lib.join xs sep).length≤140737488355328) (h0 h:aa) (G:bQ h) (o:Option Nat) (H:bz 9 jd h0 h o xs v):
  ai PP 87 [v,.string (B sep)] h (fun r h'=>h'=h∧r= .string (B (Lib.join xs sep))):=by
 refine uN ⟨Tryz.f87,by rw[gu];exact Tryz.func87,by kernel_rfl,by kernel_rfl⟩ G.ne fun ρ w args' R V=>?_
 obtain⟨v0,hv0,V0⟩:=V.2 0 _ rfl
 obtain⟨v1,hv1,V1⟩:=V.2 1 _ rfl
 have e1:v1= .string (B sep):=V1.cA rfl
 subst e1
 have hargs:args'=[v0,.string (B sep)]:=by
  have:=V.1
  match args',hv0,hv1,this with
  |[p,q],h0,h1,_=>simp at h0 h1;rw[h0,h1]
 subst hargs
 obtain⟨rfl,ho⟩:=H
 have em:(xs.map B).map (fun x:ByteArray=>x.data.toList)=xs:=by
  rw[List.map_map]
  exact(List.map_congr_left (fun a _=>rfl)).trans (List.map_id _)
 rw[gu]
 cases o with
 |none=>
  simp only at ho
  subst ho
  cases V0
  refine(Any.strings_Join_none Tryz.join Tryz.zo none 0 (B sep) w).mono ?_
  rintro e w' ⟨rfl,rfl⟩
  exact⟨_,rfl,rfl,rfl,Below.refl _ _⟩
 |some b=>
  simp only at ho
  obtain⟨hb,bq,bC⟩:=ho
  rcases V0.kj with⟨a',e,rfl⟩|⟨b',off,pl,cap,e,hk,hc,hn',rfl⟩
  ·have hx:xs=[]:=List.length_eq_zero_iff.1 e
   subst hx
   refine(Any.strings_Join_none Tryz.join Tryz.zo (some a') 0 (B sep) w).mono ?_
   rintro e w' ⟨rfl,rfl⟩
   exact⟨_,rfl,rfl,rfl,Below.refl _ _⟩
  ·simp only[Addr.mk.injEq,and_true]at e
   obtain⟨rfl,rfl⟩:=e
   obtain⟨C,e',fz,c1,c2,c3,c4,c5,c6⟩:=R.row (false,b) pl true 9 (xs.flatMap jd) hk (by simp[Mem.row?,hb])
   have hcells:∀(j:Nat) x,(xs.map B)[j]? =some x→w.cell? ⟨pl.B,pl.o+0+j,none⟩=some (.string x):=by
    intro j x hx
    rw[List.getElem?_map]at hx
    cases hxj:xs[j]? with
    |none=>rw[hxj]at hx;cases hx
    |some l=>
     rw[hxj]at hx
     simp only[Option.map_some,Option.some.injEq]at hx
     subst hx
     obtain⟨v',q1,q2⟩:=c6 j (.string (B l)) (by rw[aoD,List.getElem?_map,hxj];rfl)
     rw[q2.cA rfl]at q1
     unfold World.cell?
     simp only[c1,Option.isSome_none]
     simpa using q1
   have hbound:=R.bound _ _ hk
   have hj':(Lib.join ((xs.map B).map (·.data.toList)) (B sep).data.toList).length≤140737488355328:=by rw[em];exact hj
   have:=Any.strings_Join Tryz.join Tryz.zo pl.B (pl.o+0) cap (xs.map B) (B sep) w hcells hbound (by rw[List.length_map];omega) (by rw[List.length_map];exact hc) hj'
   rw[List.length_map,em]at this
   refine this.mono ?_
   rintro e w' ⟨rfl,bel⟩
   exact⟨_,rfl,rfl,rfl,bel⟩
structure FR where
 code:Int
 line:Int
 aj:Int
deriving DecidableEq
inductive dp (h:aa) (n:Nat):Value→List FR→Prop
 |nil:dp h n .nilIface []
 |cons (b:Nat) (f:FR) (E:Value) (l:List FR):h.f b= .row true 223 [.int .i64 f.code,.int .i64 f.line,.int .i64 f.aj,E]→b<n→dp h n E l→dp h n (.iface 207 (.pointer (some ⟨b,0,none⟩))) (f::l)
theorem dp.up {h h':aa} {n n':Nat} {E:Value} {l:List FR} (H:dp h n E l) (hn:n≤n') (hf:∀b,b<n→h'.f b=h.f b):dp h' n' E l:=by
 induction H with
 |nil=>exact .nil
 |cons b f E l h1 h2 _ ih=>exact .cons b f E l (by rw[hf b h2];exact h1) (by omega) ih
theorem dp.ext {h h':aa} {E:Value} {l:List FR} (H:dp h h.n E l) (X:Ext h h'):dp h' h'.n E l:=H.up X.n X.f
theorem Bp (tv:Value) (h:aa) (G:bQ h):ai PP 147 [.nilIface,tv] h (fun v h'=>h'=h∧v= .bool false):=by
 refine uN ⟨Tryz.f147,by rw[gu];exact Tryz.func147,by kernel_rfl,by kernel_rfl⟩ G.ne fun ρ w args' R V=>?_
 obtain⟨v0,hv0,V0⟩:=V.2 0 _ rfl
 obtain⟨v1,hv1,V1⟩:=V.2 1 _ rfl
 have e0:v0= .nilIface:=V0.cA rfl
 subst e0
 have hargs:args'=[.nilIface,v1]:=by
  have:=V.1
  match args',hv0,hv1,this with
  |[p,q],h0,h1,_=>simp at h0 h1;rw[h0,h1]
 subst hargs
 rw[gu]
 refine(UK v1 w).mono ?_
 rintro e w' ⟨rfl,rfl⟩
 exact⟨_,rfl,rfl,rfl,Below.refl _ _⟩
theorem Bo (b t:Nat) (old:Value) (h:aa) (G:bQ h) (ht:h.f t= .row true 207 [old]):
  ai PP 147 [.iface 207 (.pointer (some ⟨b,0,none⟩)),.iface 209 (.pointer (some ⟨t,0,none⟩))] h (fun v h'=>v= .bool true∧h'=h.set t (.row true 207 [.pointer (some ⟨b,0,none⟩)])):=by
 refine⟨⟨Tryz.f147,by rw[gu];exact Tryz.func147,by kernel_rfl,by kernel_rfl⟩,fun ρ w args' hbx R V=>?_⟩
 obtain⟨v0,hv0,V0⟩:=V.2 0 _ rfl
 obtain⟨v1,hv1,V1⟩:=V.2 1 _ rfl
 have hargs:args'=[v0,v1]:=by
  have:=V.1
  match args',hv0,hv1,this with
  |[p,q],h0,h1,_=>simp at h0 h1;rw[h0,h1]
 subst hargs
 cases V0 with
 |iface _ _ u0 V0=>
 cases V1 with
 |iface _ _ u1 V1=>
 have V0':=V0
 cases V0 with
 |ptr _ _ plb hkb=>
 cases V1 with
 |ptr _ _ plt hkt=>
 obtain⟨C,e',fz,c1,c2,c3,c4,c5,c6⟩:=R.row (false,t) plt true 207 [old] hkt (by simp[Mem.row?,ht])
 obtain rfl:=c2 rfl
 obtain⟨old',o1,o2⟩:=c6 0 old rfl
 have hbt:=R.bound _ _ hkt
 have ht0:w.cell? ⟨plt.B,plt.o+0,none⟩=some old':=by
  unfold World.cell?
  simp only[c1,Option.isSome_none]
  simpa using o1
 have hf0:w.frozen? ⟨plt.B,plt.o+0,none⟩=false:=by
  unfold World.frozen?
  simp only[c1]
  simp
 have hg:=G.ael R
 have key:=UJ ⟨plb.B,plb.o+0,none⟩ ⟨plt.B,plt.o+0,none⟩ old' w hg ht0 hf0
 rw[←gu]at key
 refine key.mono ?_
 rintro e w' ⟨rfl,hw⟩
 have hpush:∀(B:Nat) (o1 o2 o3 o4:Obj),B<w.heap.size→((((w.heap.push o1).push o2).push o3).push o4)[B]? =w.heap[B]? :=by
  intro B o1 o2 o3 o4 hB
  rw[Array.getElem?_push,if_neg (by simp;omega),Array.getElem?_push,if_neg (by simp;omega),Array.getElem?_push,if_neg (by simp;omega),Array.getElem?_push,if_neg (by omega)]
 obtain⟨q1,q2⟩:=nD (w':=w') R hkt ht (cs':=[.pointer (some ⟨b,0,none⟩)]) rfl (by rw[hw];rfl) (by rw[hw];rfl) (by rw[hw];rfl) (by rw[hw];exact Nat.le_refl _)
  (by rw[hw];simp only[World.setCell,World.alloc,Array.size_modify,Array.size_push];omega)
  (fun B hB hne=>by
   rw[hw]
   simp only[World.setCell,World.alloc]
   rw[Array.getElem?_modify,if_neg (Ne.symm hne),hpush B _ _ _ _ hB])
  (fun C2 e2 fz2 hC2=>by
   rw[c1]at hC2
   simp only[Option.some.injEq,Obj.cells.injEq]at hC2
   obtain⟨rfl,rfl,rfl⟩:=hC2
   refine⟨C.setIfInBounds (plt.o+0) (.pointer (some ⟨plb.B,plb.o+0,none⟩)),?_,by simp,fun i v hi=>?_⟩
   ·rw[hw]
    simp only[World.setCell,World.alloc]
    rw[Array.getElem?_modify,if_pos rfl,hpush plt.B _ _ _ _ hbt,c1]
    rfl
   ·cases i with
    |succ i=>simp at hi
    |zero=>
     simp at hi
     subst hi
     have hlt:plt.o<C.size:=by
      rcases Nat.lt_or_ge plt.o C.size with z|z
      ·exact z
      ·rw[Nat.add_zero,Array.getElem?_eq_none z]at o1;cases o1
     exact⟨_,by simp[hlt],V0'⟩)
 exact⟨.bool true,.bool true,_,ρ,rfl,⟨rfl,rfl⟩,hbx,q1,q2,.bool true⟩
end Go.Proofs.Ybk.F
namespace Go.Am
open Go Go.RowKit
def qw (g:Nat):aw:=fun k=>match k with
 |(false,i)=>if i<g then some ⟨i,0,0,0⟩else none
 |(true,_)=>none
def hN (g:Nat) (os:Nat→Obj):aa:=⟨g,g,fun b=>if b<g then .obj (os b)else .dead⟩
theorem pa {g:Nat} {k:Key} {pl:Pl} (h:qw g k=some pl):∃i,i<g∧k=(false,i)∧pl=⟨i,0,0,0⟩:=by
 obtain⟨t,i⟩:=k
 cases t with
 |true=>simp[qw]at h
 |false=>
  simp only[qw]at h
  split at h
  ·exact⟨i,by assumption,rfl,(Option.some.inj h).symm⟩
  ·cases h
structure nG (P:Program) (g:Nat) (lay:Nat→Bool) (w:World) (ρ:aw) (h:aa):Prop where
 box:∀s,ρ (true,s)=none
 rel:fW P ρ ⟨bI.nil,h⟩ w
 gl:h.g=g
 own:∀B,mD ρ h B→B<g∧lay B=true
 Bq:∀i,i<g→lay i=true→ρ (false,i)=some ⟨i,0,0,0⟩∧i<h.n∧∃o,nj o=true∧h.f i= .obj o∧w.heap[i]? =some o
 no:∀i,i<g→lay i=true→∀C t f,w.heap[i]? =some (.cells C t f)→∀(j:Nat) (z:Int),C[j]?≠some (.int .i64 z)
def hX (g:Nat) (lay:Nat→Bool) (os:Nat→Obj):aa:=⟨g,g,fun b=>if b<g∧lay b=true then .obj (os b)else .dead⟩
def PB:Value→Bool
 | .int _ _=>true
 | .string _=>true
 |_=>false
theorem amc {ρ:aw} {v:Value} (h:PB v=true):VR ρ v v:=by
 cases v with
 |int k n=>exact .int _ _
 |string s=>exact .string _
 |_=>cases h
def pF (w:World) (sz:Nat) (a:Option Addr) (len cap:Nat) (zs:List Value):Prop:=
 (a=none∧len=0∧cap=0∧zs=[])∨
 ∃x,a=some x∧len≤cap∧zs.length=cap*sz∧(∀i,i<zs.length→w.cell? (x.add i)=some (zs.getD i (.bool false)))∧zs.all PB=true∧(zs=[]∨∃n r,zs= .int .i64 n::r)
def qL (e:TypeId) (h:aa) (v:Value) (len:Nat) (zs:List Value):Prop:=∃ad c,v= .slice ad len c∧(ad=none→c=0)∧(len=0∨∃b cs,ad=some ⟨b,0,none⟩∧h.f b= .row false e (zs++cs)∧b<h.n)
theorem qL.ext {e:TypeId} {h h':aa} {v:Value} {len:Nat} {zs:List Value} (H:qL e h v len zs) (E:Ext h h'):qL e h' v len zs:=by
 obtain⟨ad,c,rfl,hc,z⟩:=H
 refine⟨ad,c,rfl,hc,?_⟩
 rcases z with z|⟨b,cs,rfl,h2,h3⟩
 ·exact .inl z
 ·exact .inr ⟨b,cs,rfl,by rw[E.f b h3];exact h2,Nat.lt_of_lt_of_le h3 E.n⟩
theorem nG.start (P:Program) {g:Nat} (lay:Nat→Bool) {w:World} (os:Nat→Obj) (hpl:∀i,nj (os i)=true) (hsz:g≤w.heap.size) (H:∀i,i<g→lay i=true→w.heap[i]? =some (os i)) (no:∀i,i<g→lay i=true→∀C t f,w.heap[i]? =some (.cells C t f)→∀(j:Nat) (z:Int),C[j]?≠some (.int .i64 z)):nG P g lay w (qw g) (hX g lay os):=by
 refine⟨fun s=>rfl,⟨?_,?_,?_,?_,?_,?_⟩,rfl,?_,?_,no⟩
 ·intro k pl q
  obtain⟨i,hi,rfl,rfl⟩:=pa q
  exact Nat.lt_of_lt_of_le hi hsz
 ·intro b pl q
  obtain⟨i,hi,e,rfl⟩:=pa q
  simp only[Prod.mk.injEq,true_and]at e
  subst e
  exact hi
 ·intro k pl wr e cs q r
  obtain⟨i,hi,rfl,rfl⟩:=pa q
  simp only[Mem.row?,hX]at r
  split at r
  ·rename_i z;split at z
   ·cases z
   ·cases z
  ·cases r
 ·intro b pl o q r
  obtain⟨i,hi,e,rfl⟩:=pa q
  simp only[Prod.mk.injEq,true_and]at e
  subst e
  simp only[hX]at r
  split at r
  ·rename_i z
   cases r
   exact⟨.zO (hpl b) (H b hi z.2),rfl⟩
  ·cases r
 ·intro k k' pl pl' hne q q' _ _
  obtain⟨i,hi,rfl,rfl⟩:=pa q
  obtain⟨j,hj,rfl,rfl⟩:=pa q'
  intro e
  simp only at e
  exact hne (by rw[e])
 ·intro i hi
  have hi':i<g:=hi
  exact⟨⟨i,0,0,0⟩,by simp[qw,hi'],rfl,rfl⟩
 ·rintro B ⟨b,pl,q,rfl,hw⟩
  obtain⟨i,hi,e,rfl⟩:=pa q
  simp only[Prod.mk.injEq,true_and]at e
  subst e
  refine⟨hi,?_⟩
  cases z:lay b with
  |true=>rfl
  |false=>simp[aa.wr,hX,z]at hw
 ·intro i hi hl
  exact⟨by simp[qw,hi],hi,os i,hpl i,by simp[hX,hi,hl],H i hi hl⟩
theorem zc {P:Program} {g:Nat} {lay:Nat→Bool} {e:TypeId} {sz:Nat} (hc:P.cellsOf e=sz) (hs0:0<sz) {w:World} {ρ:aw} {h:aa} (L:nG P g lay w ρ h) {a:Option Addr} {len cap:Nat} {zs:List Value} (H:pF w sz a len cap zs):
  ∃(h':aa) (v:Value) (ρ':aw),nG P g lay w ρ' h'∧Ext h h'∧(∀b pl,ρ (false,b)=some pl→ρ' (false,b)=some pl)∧VR ρ' v (.slice a len cap)∧qL e h' v len (zs.take (len*sz))∧(zs.take (len*sz)).length=len*sz:=by
 rcases H with⟨rfl,rfl,rfl,rfl⟩|⟨x,rfl,hl,hz,hcell,hpv,hfst⟩
 ·exact⟨h,_,ρ,L,Ext.bu h,fun _ _ q=>q,.pe,⟨none,0,rfl,fun _=>rfl,.inl rfl⟩,by simp⟩
 ·by_cases hcap:cap=0
  ·subst hcap
   have:len=0:=by omega
   subst this
   exact⟨h,_,ρ,L,Ext.bu h,fun _ _ q=>q,.lO default x 0,⟨_,_,rfl,fun _=>rfl,.inl rfl⟩,by simp⟩
  ·have hpos:0<zs.length:=by rw[hz];exact Nat.mul_pos (by omega) hs0
   have hc0:=hcell 0 hpos
   obtain⟨blk,off,spot⟩:=x
   have key:∀i,i<zs.length→∃C e fz,w.heap[blk]? =some (.cells C e fz)∧C[off+i]? =some (zs.getD i (.bool false))∧(i=0→spot=none):=by
    intro i hi
    have:=hcell i hi
    unfold World.cell? at this
    rw[Go.Am.add_add]at this
    split at this
    ·rename_i C e fz hh
     split at this
     ·simp at this
     ·rename_i hs
      refine⟨C,e,fz,hh,?_,fun e0=>?_⟩
      ·by_cases hi0:i=0
       ·subst hi0;simpa[Addr.add]using this
       ·simpa[Addr.add,hi0]using this
      ·subst e0;simpa[Addr.add]using hs
    ·simp at this
   obtain⟨C,e0,fz,hh,_,hsp⟩:=key 0 hpos
   obtain rfl:=hsp rfl
   have hC:∀i,i<zs.length→C[off+i]? =some (zs.getD i (.bool false)):=fun i hi=>by
    obtain⟨C',e',fz',q1,q2,_⟩:=key i hi
    rw[hh]at q1;simp only[Option.some.injEq,Obj.cells.injEq]at q1
    rw[q1.1];exact q2
   have hsz:off+zs.length≤C.size:=by
    have:=hC (zs.length-1) (by omega)
    have h2:off+(zs.length-1)<C.size:=by rcases Nat.lt_or_ge (off+(zs.length-1)) C.size with z|z;exact z;rw[Array.getElem?_eq_none z]at this;cases this
    omega
   have hblk:blk<w.heap.size:=by
    rcases Nat.lt_or_ge blk w.heap.size with z|z
    ·exact z
    ·rw[Array.getElem?_eq_none z]at hh;cases hh
   obtain⟨pl,hpl⟩:∃pl:Pl,pl=⟨blk,off,zs.length,sz⟩:=⟨_,rfl⟩
   obtain⟨h',hh'⟩:∃h',h'=h.new (.row false e zs):=⟨_,rfl⟩
   obtain⟨ρ',hρ'⟩:∃ρ':aw,ρ'=fun k=>if k=(false,h.n)then some pl else ρ k:=⟨_,rfl⟩
   have E:Ext h h':=by rw[hh'];exact Ext.new h _
   have hold:∀k pl',ρ k=some pl'→ρ' k=some pl':=fun k pl' q=>by
    obtain⟨t,b⟩:=k
    rw[hρ']
    cases t with
    |true=>rw[L.box]at q;cases q
    |false=>
     have:=L.rel.cU b pl' q
     simp only at this
     show(if((false,b):Key)=(false,h.n)then some pl else ρ (false,b))=some pl'
     rw[if_neg (by simp;omega)];exact q
   have hcase:∀k pl',ρ' k=some pl'→(k=(false,h.n)∧pl'=pl)∨(k≠(false,h.n)∧ρ k=some pl'):=fun k pl' q=>by
    rw[hρ']at q
    simp only at q
    split at q
    ·rename_i e1;exact .inl ⟨e1,(Option.some.inj q).symm⟩
    ·rename_i e1;exact .inr ⟨e1,q⟩
   have hfold:∀b pl',ρ (false,b)=some pl'→h'.f b=h.f b:=fun b pl' q=>E.f b (L.rel.cU b pl' q)
   have hfnew:h'.f h.n= .row false e zs:=by rw[hh'];simp[aa.new]
   have hblkg:∀B,B<g∧lay B=true→B≠blk:=by
    rintro B ⟨z1,z2⟩ rfl
    have q:=hC 0 hpos
    rcases hfst with e|⟨n,r,e⟩
    ·rw[e]at hpos;simp at hpos
    ·rw[e]at q
     exact absurd q (L.no B z1 z2 C e0 fz hh _ n)
   have nowr:∀k pl',ρ' k=some pl'→(Mem.mk bI.nil h').wr k→∃b,k=(false,b)∧ρ (false,b)=some pl'∧h.wr b:=by
    intro k pl' q hw
    obtain⟨t,b⟩:=k
    rcases hcase _ _ q with⟨e1,_⟩|⟨_,q'⟩
    ·simp only[Prod.mk.injEq]at e1
     obtain⟨rfl,rfl⟩:=e1
     simp[Mem.wr,aa.wr,hfnew]at hw
    ·cases t with
     |true=>rw[L.box]at q';cases q'
     |false=>
      refine⟨b,rfl,q',?_⟩
      simp only[Mem.wr,aa.wr]at hw
      rw[hfold b pl' q']at hw
      exact hw
   have hn':h'.n=h.n+1:=by rw[hh'];rfl
   have R:fW P ρ' ⟨bI.nil,h'⟩ w:=by
    refine⟨fun k pl' q=>?_,fun b pl' q=>?_,fun k pl' wr e' cs q r=>?_,fun b pl' o q r=>?_,fun k k' pl1 pl2 hne q q' hw hl=>?_,fun i hi=>?_⟩
    ·rcases hcase _ _ q with⟨_,rfl⟩|⟨_,q'⟩
     ·rw[hpl];exact hblk
     ·exact L.rel.bound k pl' q'
    ·rcases hcase _ _ q with⟨e1,_⟩|⟨_,q'⟩
     ·simp only[Prod.mk.injEq,true_and]at e1
      show b<h'.n
      omega
     ·have:=L.rel.cU b pl' q'
      exact Nat.lt_of_lt_of_le this E.n
    ·rcases hcase _ _ q with⟨rfl,rfl⟩|⟨_,q'⟩
     ·simp only[Mem.row?,hfnew,Option.some.injEq,Prod.mk.injEq]at r
      obtain⟨rfl,rfl,rfl⟩:=r
      subst hpl
      refine⟨C,e0,fz,hh,by simp,by simp,hsz,hc.symm,fun i v hi=>?_⟩
      have hlt:i<zs.length:=by rw[List.getElem?_eq_some_iff]at hi;exact hi.1
      refine⟨_,hC i hlt,?_⟩
      rw[List.getD_eq_getElem?_getD,hi]
      exact amc (List.all_eq_true.1 hpv v (List.mem_of_getElem? hi))
     ·obtain⟨t,b⟩:=k
      cases t with
      |true=>rw[L.box]at q';cases q'
      |false=>
       have r':(Mem.mk bI.nil h).row? (false,b)=some (wr,e',cs):=by
        simp only[Mem.row?]at r ⊢
        rw[hfold b pl' q']at r;exact r
       obtain⟨C1,e1,fz1,c1,c2,c3,c4,c5,c6⟩:=L.rel.row _ _ _ _ _ q' r'
       exact⟨C1,e1,fz1,c1,c2,c3,c4,c5,fun i v hi=>let ⟨v',z1,z2⟩:=c6 i v hi;⟨v',z1,z2.mono fun b pl z=>hold _ _ z⟩⟩
    ·rcases hcase _ _ q with⟨e1,rfl⟩|⟨_,q'⟩
     ·simp only[Prod.mk.injEq,true_and]at e1
      subst e1
      simp only at r
      rw[hfnew]at r;cases r
     ·have r:=L.rel.obj b pl' o q' (by simp only at r ⊢;rw[hfold b pl' q']at r;exact r)
      exact⟨r.1.mono (fun b pl z=>hold _ _ z),r.2⟩
    ·obtain⟨b,rfl,q1,hwb⟩:=nowr _ _ q hw
     have h1:=L.own pl1.B ⟨b,pl1,q1,rfl,hwb⟩
     rcases hcase _ _ q' with⟨_,rfl⟩|⟨_,q2⟩
     ·rw[hpl];simp only;exact hblkg _ h1
     ·obtain⟨t,b'⟩:=k'
      cases t with
      |true=>rw[L.box]at q2;cases q2
      |false=>
       refine L.rel.sep (false,b) (false,b') pl1 pl2 hne q1 q2 hwb ?_
       simp only[Mem.live]at hl ⊢
       rw[hfold b' pl2 q2]at hl
       exact hl
    ·have hg':h'.g=h.g:=by rw[hh'];rfl
     obtain⟨pl',z1,z2⟩:=L.rel.gM i (by simp only at hi ⊢;omega)
     exact⟨pl',hold _ _ z1,z2⟩
   refine⟨h',.slice (some ⟨h.n,0,none⟩) len len,ρ',⟨fun s=>?_,R,by rw[hh'];exact L.gl,fun B ⟨b,pl',q,e2,hw⟩=>?_,fun i hi hlay=>?_,L.no⟩,E,fun b pl' q=>hold _ _ q,?_,?_,?_⟩
   ·rw[hρ']
    show(if((true,s):Key)=(false,h.n)then some pl else ρ (true,s))=none
    rw[if_neg (by simp)];exact L.box s
   ·obtain⟨b',e3,q1,hwb⟩:=nowr (false,b) pl' q hw
    simp only[Prod.mk.injEq,true_and]at e3
    subst e3
    rw[←e2]
    exact L.own pl'.B ⟨b,pl',q1,rfl,hwb⟩
   ·obtain⟨z1,z2,o,zp,z3,z4⟩:=L.Bq i hi hlay
    exact⟨hold _ _ z1,by omega,o,zp,by rw[E.f i z2];exact z3,z4⟩
   ·have hk:ρ' (false,h.n)=some pl:=by rw[hρ'];simp
    have:=VR.sl (ρ:=ρ') h.n 0 len len pl cap hk hl (by rw[hpl];simp only;omega)
    rw[hpl]at this
    simpa using this
   ·refine⟨_,_,rfl,fun q=>by simp at q,?_⟩
    by_cases hl0:len=0
    ·exact .inl hl0
    ·exact .inr ⟨h.n,zs.drop (len*sz),rfl,by rw[hfnew,List.take_append_drop],by omega⟩
   ·rw[List.length_take,hz]
    have:=Nat.mul_le_mul_right sz hl
    omega
theorem pF.zN {w:World} {a:Option Addr} {len cap:Nat} {zs:List Int} (H:qJ w a len cap zs):pF w 1 a len cap (zs.map (Value.int .i64)):=by
 rcases H with⟨h1,h2,h3,h4⟩|⟨x,h1,h2,h3,h4⟩
 ·exact .inl ⟨h1,h2,h3,by rw[h4];rfl⟩
 ·refine .inr ⟨x,h1,h2,by rw[List.length_map];omega,fun i hi=>?_,?_,?_⟩
  ·rw[List.length_map]at hi
   rw[h4 i hi,List.getD_eq_getElem?_getD,List.getD_eq_getElem?_getD,List.getElem?_map,List.getElem?_eq_getElem hi];rfl
  ·rw[List.all_eq_true]
   intro v hv
   obtain⟨n,_,rfl⟩:=List.mem_map.1 hv
   rfl
  ·cases zs with
   |nil=>exact .inl rfl
   |cons n r=>exact .inr ⟨n,r.map (Value.int .i64),rfl⟩
theorem afk {P:Program} {g:Nat} {lay:Nat→Bool} {f:FuncId} {args args':List Value} {h:aa} {ρ:aw} {w:World} (L:nG P g lay w ρ h) (H:ai P f args h (fun v h'=>Ext h h'∧v= .bool true)) (V:jP ρ args args'):
  Calls P f ⟨args'⟩ w fun e w'=>e= .returned (.bool true)∧Below w.heap.size w w':=by
 refine(H.2 ρ w args' L.box L.rel V).mono ?_
 rintro e w' ⟨v,v',h',ρ',rfl,⟨E,rfl⟩,_,R,T,hv⟩
 cases hv
 refine⟨rfl,T.os,T.tape,T.output,T.size,fun k hk=>?_⟩
 by_cases z:k<g∧lay k=true
 ·obtain⟨z1,z2,o,zp,z3,z4⟩:=L.Bq k z.1 z.2
  rw[z4]
  exact(R.obj k _ o (T.ext k _ z1) (by show h'.f k=_;rw[E.f k z2];exact z3)).1.plain zp
 ·exact T.frame k hk (fun o=>z (L.own k o))
end Go.Am
namespace Go.Proofs.Ybk.K
open Go Go.Am Go.RowKit
def s6 (i:Nat):Bool:= !(i==1)
def isLaid (w:World):Prop:=(∃t f,w.heap[0]? =some (.cells #[.iface 316 (.agg #[.pointer (some ⟨5,110,none⟩)])] t f))∧
 (∃t f,w.heap[2]? =some (.cells (Lib.pow10Tab.map fun z=>Value.int .u64 z).toArray t f))
theorem start_of {w:World} (L:isLaid w):∃h ρ,nG PP 3 s6 w ρ h∧F.bQ h:=by
 obtain⟨⟨t,f,L⟩,t2,f2,L2⟩:=L
 have hs:3≤w.heap.size:=by
  rcases Nat.lt_or_ge 2 w.heap.size with z|z
  ·exact z
  ·rw[Array.getElem?_eq_none z]at L2;cases L2
 refine⟨_,_,nG.start PP (g:=3) s6 (fun i=>if i=0 then .cells #[.iface 316 (.agg #[.pointer (some ⟨5,110,none⟩)])] t f else .cells (Lib.pow10Tab.map fun z=>Value.int .u64 z).toArray t2 f2) (fun i=>?_) hs (fun i hi hl=>?_) (fun i hi hl C t' f' hC j z=>?_),rfl,Nat.le_refl _,⟨t,f,?_⟩,t2,f2,?_⟩
 ·split<;>rfl
 ·match i,hi,hl with
  |0,_,_=>exact L
  |1,_,hl=>cases hl
  |2,_,_=>exact L2
 ·match i,hi,hl with
  |0,_,_=>
   rw[L]at hC
   simp only[Option.some.injEq,Obj.cells.injEq]at hC
   rw[←hC.1]
   rcases j with _|j
   ·simp
   ·simp
  |1,_,hl=>cases hl
  |2,_,_=>
   rw[L2]at hC
   simp only[Option.some.injEq,Obj.cells.injEq]at hC
   rw[←hC.1]
   simp only[List.getElem?_toArray,List.getElem?_map]
   cases Lib.pow10Tab[j]? <;>simp
 ·simp[hX,s6]
 ·simp[hX,s6]
end Go.Proofs.Ybk.K
namespace Go.Proofs.YtbcdmljanolkeaaGreatDoor.AmBR
open Go Go.Am
def list:List (String×DataW Unit):=[("math/bits.deBruijn32tab",Rows.laid_math_bits_deBruijn32tab),("math/bits.deBruijn64tab",Rows.laid_math_bits_deBruijn64tab),("internal/strconv.uint64pow10",Rows.laid_internal_strconv_uint64pow10),("errors.errorType",Rows.laid_errors_errorType)]
theorem et:Tryz.prog.globalNamed "errors.errorType"=some 0:=by kernel_rfl
theorem pt:Tryz.prog.globalNamed "internal/strconv.uint64pow10"=some 2:=by kernel_rfl
theorem rt:(Tryz.prog.cutTypes.find? (·.1== "internal/reflectlite.rtype")).map (·.2)=some 316:=by kernel_rfl
theorem akJ:((List.range 413).filter fun t=>Tryz.prog.rowNamed t [101,114,114,111,114])=[110]:=by kernel_rfl
theorem size:Tryz.prog.types.size=413:=by kernel_rfl
theorem KG:(list.filter fun x=>x.2.handleName?.isSome)=[("errors.errorType",Rows.laid_errors_errorType)]:=by rfl
theorem rest:(list.filter fun x=>x.2.handleName?.isNone)=[("math/bits.deBruijn32tab",Rows.laid_math_bits_deBruijn32tab),("math/bits.deBruijn64tab",Rows.laid_math_bits_deBruijn64tab),("internal/strconv.uint64pow10",Rows.laid_internal_strconv_uint64pow10)]:=by rfl
theorem Ax:(Rows.laid_internal_strconv_uint64pow10:DataW Unit)=Lib.tabData .u64 Lib.pow10Tab:=by rfl
theorem BV {P:Program} {w:World} {n:String} {g:Nat} {cs:Array Value} (hg:P.globalNamed n=some g) (h:w.var? P n=some cs):∃t f,w.heap[g]? =some (.cells cs t f):=by
 simp only[World.var?,hg,Option.bind_some]at h
 split at h
 ·rename_i C t f e
  simp only[Option.some.injEq]at h
  subst h
  exact⟨t,f,e⟩
 ·cases h
theorem isLaid_of {W:World} (h:laidMetH Tryz.prog list W):Ybk.K.isLaid W:=by
 obtain⟨h1,h2⟩:=laidMetH_iff.1 h
 rw[KG]at h2
 rw[rest]at h1
 constructor
 ·obtain⟨name,u,ty,e1,e2,e3,e4,e5⟩:=h2 _ (List.mem_singleton.2 rfl)
  have en:name=[101,114,114,111,114]:=(Option.some.inj e1).symm
  subst en
  obtain rfl:=Option.some.inj (rt.symm.trans e2)
  have hm:ty∈(List.range 413).filter fun t=>Tryz.prog.rowNamed t [101,114,114,111,114]:=List.mem_filter.2 ⟨List.mem_range.2 (by rw[←size];exact e3),e4⟩
  rw[akJ]at hm
  obtain rfl:=List.mem_singleton.1 hm
  have hh:typeHandle Tryz.prog 110= .pointer (some ⟨5,110,none⟩):=by kernel_rfl
  rw[hh]at e5
  exact BV et e5
 ·have h3:=h1.tail.tail
  rw[Ax]at h3
  have h4:=Lib.tabIs_of_head (g:=2) (t:=377) (e:=184) (n:=20) pt (by kernel_rfl) (by kernel_rfl) (by kernel_rfl) (by kernel_rfl) (by kernel_rfl) h3
  exact BV pt h4
noncomputable def laidWorld (os:Os):World:=
 let w0:=World.holding Tryz.prog os ⟨#[],#[],[]⟩
 {w0 with heap:=(((w0.heap.modify 0 fun
   | .cells _ t frozen=>.cells #[.iface 316 (.agg #[.pointer (some ⟨5,110,none⟩)])] t frozen
   |o=>o).modify 2 fun
   | .cells _ t frozen=>.cells (Lib.pow10Tab.map fun z=>Value.int .u64 z).toArray t frozen
   |o=>o).modify 3 fun
   | .cells _ t frozen=>.cells (([0,1,28,2,29,14,24,3,30,22,20,15,25,17,4,8,31,27,13,23,21,19,16,7,26,12,18,6,11,5,10,9]:List Int).map fun z=>Value.int .u8 z).toArray t frozen
   |o=>o).modify 4 fun
   | .cells _ t frozen=>.cells (([0,1,56,2,57,49,28,3,61,58,42,50,38,29,17,4,62,47,59,36,45,43,51,22,53,39,33,30,24,18,12,5,63,55,48,27,60,41,37,16,46,35,44,21,52,32,23,11,54,26,40,15,34,20,31,10,25,14,19,9,13,8,7,6]:List Int).map fun z=>Value.int .u8 z).toArray t frozen
   |o=>o}
theorem laidWorld_met (os:Os) (args:Array Value):laidMetH Tryz.prog list ((laidWorld os).forCall (fun _ _=>0) ⟨#[],args,[]⟩).memory:=
 laidMetH_of_parts (by rw[rest];exact laidMet_of_run' 8 (by kernel_rfl) (by kernel_rfl)) (by rw[KG];kernel_rfl)
end Go.Proofs.YtbcdmljanolkeaaGreatDoor.AmBR
namespace Go.Proofs.Ybk.Sized
open Go.ChangeShapes Go.WideShapes
theorem sized_ints {H:Type} {enc:TypeId×Value→H} {P:Program} {W:World} {base:Nat} {spare:Nat→Bool} {held:Bool} {t e:TypeId} {k:IntKind} {a:Option Addr} {len cap:Nat} {d:DataW H} {ps:List MemPlace} {ts:List TypeId} {ds:List (DataW H)} {j:Nat}
  (hsz:(DataW.weightsEach P ts ds).all (·≤reachBytes)=true) (ht:ts[j]? =some t) (hd:ds[j]? =some d) (hu:P.underlying t=some (.slice e)) (he:P.underlying e=some (.int k)) (hc:P.cellsOf e=1) {B:Nat} (hB:P.bytesOf e=B)
  (h:DataW.Trod enc P W base spare held t (.slice a len cap) d ps):len*B≤140737488351232:=by
 obtain⟨fuel,hf⟩:=h
 rcases open_ints hu he hc hf with⟨hcs,_⟩|⟨x,l,c,zs,hcs,_,hl,_,hz,hx,_,_⟩
 ·simp[Value.cells]at hcs
  obtain⟨rfl,rfl,rfl⟩:=hcs
  simp
 ·simp[Value.cells]at hcs
  obtain⟨rfl,rfl,rfl⟩:=hcs
  obtain⟨hx,_⟩:=Prod.mk.inj hx
  subst hx
  have z:=sized_slice hsz ht hd hu
  rw[hB]at z
  have hl2:len≤zs.length:=by
   rw[hz]
   split
   ·exact hl
   ·exact Nat.le_refl _
  have h1:(lits (H:=H) k (zs.take len)).length+(lits (H:=H) k (zs.drop len)).length=zs.length:=by
   simp[lits]
   omega
  rw[h1]at z
  exact Nat.le_trans (Nat.mul_le_mul_right _ hl2) z
end Go.Proofs.Ybk.Sized
namespace Go.Proofs.Ybk.V
open Go Go.Am
set_option maxHeartbeats 2000000
structure aq where
 row:Int
 x:Int
 y:Int
 kind:Int
deriving DecidableEq
structure aP where
 x:Int
 y:Int
 r:Int
deriving DecidableEq
def al (s:aq):List Value:=[.int .i64 s.row,.int .i64 s.x,.int .i64 s.y,.int .i64 s.kind]
def aQ (p:aP):List Value:=[.int .i64 p.x,.int .i64 p.y,.int .i64 p.r]
def ab (n:Int):List Value:=[.int .i64 n]
def aX (s:aq):Value:=.agg ⟨al s⟩
theorem eM (s:aq):(al s).length=4:=rfl
theorem mj (s:aP):(aQ s).length=3:=rfl
theorem cY (s:Int):(ab s).length=1:=rfl
abbrev bT:=cm 99 al
abbrev bX:=cm 103 aQ
abbrev aZ:=cm 3 ab
def dB (a b:aq):Bool:=decide (a.row<b.row) || (decide (a.row=b.row)&&decide (a.x<b.x))
theorem zC (a b:aq) (h:aa):ai PP 165 [aX a,aX b] h (fun v h'=>h'=h∧v= .bool (dB a b)):=by
 refine az mix aby VF rfl (by show 2≤24;decide) aiM ?_
 simp only[vP,Tryz.f165]
 unfold dB
 by_cases h1:a.row<b.row
 ·simp[aX,al,h1]
 ·by_cases h2:a.row=b.row
  ·simp[aX,al,h1,h2]
  ·simp[aX,al,h1,h2]
def aB (n lo hi:Int):Bool:=decide (lo≤n)&&decide (n≤hi)
theorem sX (n lo hi:Int) (h:aa):ai PP 174 [.int .i64 n,.int .i64 lo,.int .i64 hi] h (fun v h'=>h'=h∧v= .bool (aB n lo hi)):=by
 refine az mix abI VP rfl (by show 3≤15;decide) aiW ?_
 simp only[vZ,Tryz.f174]
 unfold aB
 by_cases h1:lo≤n
 ·simp[h1]
 ·simp[h1]
theorem PR (n:Int) (h:aa):ai PP 257 [.int .i64 n] h (fun v h'=>h'=h∧v= .bool (aB n 0 999)):=by
 refine az mix acv WI rfl (by show 1≤5;decide) ajG ?_
 simp only[xj,Tryz.f257]
 simp
 refine(sX n 0 999 h).mono ?_
 rintro v h' ⟨rfl,rfl⟩
 simp[ae]
theorem nW (n:Int) (h:aa):ai PP 225 [.int .i64 n] h (fun v h'=>h'=h∧v= .bool (aB n (-1048576) 1048576)):=by
 refine az mix acf Wt rfl (by show 1≤5;decide) ajs ?_
 simp only[wY,Tryz.f225]
 simp
 refine(sX n (-1048576) 1048576 h).mono ?_
 rintro v h' ⟨rfl,rfl⟩
 simp[ae]
theorem tP (n:Int) (h:aa):ai PP 173 [.int .i64 n] h (fun v h'=>h'=h∧v= .bool (aB n 1 1048576)):=by
 refine az mix abH VO rfl (by show 1≤5;decide) aiV ?_
 simp only[vY,Tryz.f173]
 simp
 refine(sX n 1 1048576 h).mono ?_
 rintro v h' ⟨rfl,rfl⟩
 simp[ae]
def gF (s:aq):Bool:=aB s.kind 0 2&&(aB s.row 0 999&&(aB s.x (-1048576) 1048576&&aB s.y (-1048576) 1048576))
theorem anc (s:aq) (h:aa):ai PP 224 [aX s] h (fun v h'=>h'=h∧v= .bool (gF s)):=by
 refine az mix ace Ws rfl (by show 1≤24;decide) ajr ?_
 simp only[wX,Tryz.f224]
 by_cases hk:s.kind=0∨s.kind=1∨s.kind=2
 ·have hkk:aB s.kind 0 2=true:=by simp[aB];omega
  unfold gF
  rw[hkk]
  rcases hk with hk|hk|hk
  all_goals
   simp[aX,al,hk]
   refine(PR s.row h).mono ?_
   rintro v h' ⟨rfl,rfl⟩
   simp[ae]
   intro _
   by_cases h1:aB s.row 0 999=true
   ·simp[h1]
    refine(nW s.x h').mono ?_
    rintro v h2 ⟨rfl,rfl⟩
    simp[ae]
    intro _
    by_cases h3:aB s.x (-1048576) 1048576=true
    ·simp[h3]
     refine(nW s.y h2).mono ?_
     rintro v h4 ⟨rfl,rfl⟩
     simp[ae]
    ·simp[h3]
   ·simp[h1]
 ·have hkk:aB s.kind 0 2=false:=by simp[aB];omega
  have h0:¬s.kind=0:=by omega
  have h1:¬s.kind=1:=by omega
  have h2:¬s.kind=2:=by omega
  simp[aX,al,h0,h1,h2,gF,hkk]
theorem all_false {f:Nat→Bool} {n i:Nat} (hi:i<n) (h:f i=false):(List.range n).all f=false:=by
 rw[Bool.eq_false_iff]
 intro q
 rw[List.all_eq_true]at q
 have:=q i (List.mem_range.2 hi)
 rw[h]at this;cases this
theorem all_succ {f:Nat→Bool} {i:Nat} (h:(List.range i).all f=true) (hf:f i=true):(List.range (i+1)).all f=true:=by
 rw[List.range_succ,List.all_append,h];simp[hf]
def dN (l:List aq) (i:Nat):Bool:=match l[i]? with
 |some s=>gF s&&(decide (i=0) || (match l[i-1]? with|some p=>dB p s|none=>true))
 |none=>true
def eE (l:List aq):Bool:=(List.range l.length).all (dN l)&&(decide (0<l.length)&&decide (l.length≤4096))
def SH (s:Value) (l:List aq) (m:Nat) (h:aa) (n:Nat) (σ:St):Prop:=∃i:Nat,n=m-i∧i≤m∧σ.m.h=h∧σ.t.get 0=some s∧σ.t.get 5=some s∧σ.t.get 6=some (.int .i64 (m:Nat))∧σ.t.get 7=some (.int .i64 (i:Nat))∧(List.range i).all (dN l)=true
theorem anj (s:Value) (l:List aq) (hl:l.length≤1073741824) (h:aa) (hs:bT h s l):ai PP 172 [s] h (fun v h'=>h'=h∧v= .bool (eE l)):=by
 refine az mix abG VN rfl (by show 1≤38;decide) aiU ?_
 simp only[vX,Tryz.f172]
 obtain⟨ad,c,rfl⟩:=hs.shape
 obtain⟨m,hm⟩:∃m,m=l.length:=⟨_,rfl⟩
 rw[←hm]at hs ⊢
 simp -implicitDefEqProofs
 refine bD (SH (.slice ad m c) l m h) _ ⟨0,rfl,by omega,rfl,by simp,by simp,by simp,by simp,rfl⟩ ?_
 rintro n ⟨T,⟨x,H⟩⟩ ⟨i,rfl,hi,hH,g0,g5,g6,g7,aL⟩
 simp at hH g0 g5 g6 g7
 subst hH
 simp -implicitDefEqProofs[g0,g5,g6,g7]
 refine bB (fun hc=>?_) (fun hc=>?_)<;>simp only[decide_eq_true_eq,decide_eq_false_iff_not]at hc
 ·have hil:i<m:=by omega
  have hti:l[i]? =some l[i]:=List.getElem?_eq_getElem (by omega)
  obtain⟨_,b,o,wb,cs,r,rfl,hb,hd,hlc,_⟩:=hs.at 4 eM hti
  obtain⟨t,ht⟩:∃t,t=l[i]:=⟨_,rfl⟩
  rw[←ht]at hd hti
  have w1:IntKind.wrap .i64 ((i:Int)+1)=((i+1:Nat):Int):=by rw[aA (by omega)];omega
  have hlc':o+i*4+4≤cs.length:=hlc
  have fin:dN l i=false→eE l=false:=fun hp=>by unfold eE;rw[all_false (by omega) hp];rfl
  simp -implicitDefEqProofs[g0,g5,g6,g7,hil,hb,hd,hlc',al]
  refine(anc t H).mono ?_
  rintro v h' ⟨rfl,rfl⟩
  simp -implicitDefEqProofs[aC]
  intro _
  by_cases h1:gF t=true
  ·by_cases h2:i=0
   ·subst h2
    have hp:dN l 0=true:=by simp[dN,hti,h1]
    simp -implicitDefEqProofs[h1]
    exact⟨m-1,by omega,1,rfl,by omega,rfl,by simp[g0],by simp[g5],by simp[g6],by simp[aA],all_succ aL hp⟩
   ·have eJ:i-1<m:=by omega
    have htp:l[i-1]? =some l[i-1]:=List.getElem?_eq_getElem (by omega)
    obtain⟨p,hp⟩:∃p,p=l[i-1]:=⟨_,rfl⟩
    rw[←hp]at htp
    obtain⟨_,b',o',wb',cs',r',e1,hb',hd',hlc2,_⟩:=hs.at 4 eM htp
    simp only[Option.some.injEq,Addr.mk.injEq,and_true]at e1
    obtain⟨rfl,rfl⟩:=e1
    rw[hb]at hb'
    simp only[aO.row.injEq,true_and]at hb'
    obtain⟨rfl,rfl⟩:=hb'
    obtain⟨j,hj⟩:∃j,j=i-1:=⟨_,rfl⟩
    rw[←hj]at hd' hlc2 eJ
    have w2:IntKind.wrap .i64 ((i:Int)-1)=(j:Int):=by rw[aA (by omega)];omega
    have h0:(0:Int)<(i:Int):=by omega
    have hlc3:o+j*4+4≤cs.length:=hlc2
    simp -implicitDefEqProofs[h1,h0,h2,w2,eJ,hb,hd',hlc3,al,show 0<i by omega]
    refine(zC p t h').mono ?_
    rintro v h'' ⟨rfl,rfl⟩
    simp -implicitDefEqProofs[aC]
    intro _
    by_cases h3:dB p t=true
    ·have hp:dN l i=true:=by simp[dN,hti,h1,htp,h3]
     simp -implicitDefEqProofs[h3,g0,g5,g6,g7,w1]
     exact⟨m-(i+1),by omega,i+1,rfl,by omega,rfl,by simp[g0],by simp[g5],by simp[g6],by simp,all_succ aL hp⟩
    ·have hp:dN l i=false:=by simp[dN,hti,h1,htp,h3,h2]
     simp -implicitDefEqProofs[h3,fin hp]
  ·have hp:dN l i=false:=by simp[dN,hti,h1]
   simp -implicitDefEqProofs[h1,fin hp]
 ·have:i=m:=by omega
  subst this
  rw[hm]at aL
  have he:eE l=(decide (0<l.length)&&decide (l.length≤4096)):=by unfold eE;rw[aL];rfl
  rw[he,←hm]
  by_cases h1:0<i
  ·by_cases h2:(i:Int)≤4096
   ·have h2':i≤4096:=by omega
    simp -implicitDefEqProofs[g0,h1,h2,h2']
   ·have h2':¬i≤4096:=by omega
    simp -implicitDefEqProofs[g0,h1,h2,h2']
  ·have:i=0:=by omega
   subst this
   simp -implicitDefEqProofs[g0]
def eV (l:List Int) (n:Int) (i:Nat):Bool:=match l[i]? with
 |some x=>decide (0≤x)&&(decide (x<n)&&(decide (i=0) || (match l[i-1]? with|some p=>decide (p<x)|none=>true)))
 |none=>true
def ft (l:List Int) (n:Int):Bool:=(List.range l.length).all (eV l n)&&decide (l.length≤200)
def SI (s:Value) (l:List Int) (k:Int) (m:Nat) (h:aa) (n:Nat) (σ:St):Prop:=∃i:Nat,n=m-i∧i≤m∧σ.m.h=h∧σ.t.get 0=some s∧σ.t.get 1=some (.int .i64 k)∧σ.t.get 7=some s∧σ.t.get 8=some (.int .i64 (m:Nat))∧σ.t.get 9=some (.int .i64 (i:Nat))∧(List.range i).all (eV l k)=true
theorem afc (s:Value) (l:List Int) (k:Int) (hl:l.length≤1073741824) (h:aa) (hs:aZ h s l):ai PP 175 [s,.int .i64 k] h (fun v h'=>h'=h∧v= .bool (ft l k)):=by
 refine az mix abJ VQ rfl (by show 2≤38;decide) aiX ?_
 simp only[v7,Tryz.f175]
 obtain⟨ad,c,rfl⟩:=hs.shape
 obtain⟨m,hm⟩:∃m,m=l.length:=⟨_,rfl⟩
 rw[←hm]at hs ⊢
 simp -implicitDefEqProofs
 refine bD (SI (.slice ad m c) l k m h) _ ⟨0,rfl,by omega,rfl,by simp,by simp,by simp,by simp,by simp,rfl⟩ ?_
 rintro n ⟨T,⟨x,H⟩⟩ ⟨i,rfl,hi,hH,g0,g1,g7,g8,g9,aL⟩
 simp at hH g0 g1 g7 g8 g9
 subst hH
 simp -implicitDefEqProofs[g0,g1,g7,g8,g9]
 refine bB (fun hc=>?_) (fun hc=>?_)<;>simp only[decide_eq_true_eq,decide_eq_false_iff_not]at hc
 ·have hil:i<m:=by omega
  have hti:l[i]? =some l[i]:=List.getElem?_eq_getElem (by omega)
  obtain⟨_,b,o,wb,cs,r,rfl,hb,hd,hlc,_⟩:=hs.at 1 cY hti
  obtain⟨t,ht⟩:∃t,t=l[i]:=⟨_,rfl⟩
  rw[←ht]at hd hti
  have w1:IntKind.wrap .i64 ((i:Int)+1)=((i+1:Nat):Int):=by rw[aA (by omega)];omega
  have hlc':o+i+1≤cs.length:=by omega
  rw[Nat.mul_one]at hd
  have fin:eV l k i=false→ft l k=false:=fun hp=>by unfold ft;rw[all_false (by omega) hp];rfl
  by_cases h1:t<0
  ·have hp:eV l k i=false:=by simp[eV,hti];omega
   simp -implicitDefEqProofs[g0,g1,g7,g8,g9,hil,hb,hd,hlc',ab,h1,fin hp]
  ·by_cases h2:k≤t
   ·have hp:eV l k i=false:=by simp[eV,hti];omega
    simp -implicitDefEqProofs[g0,g1,g7,g8,g9,hil,hb,hd,hlc',ab,h1,h2,fin hp]
   ·by_cases h3:i=0
    ·subst h3
     have hp:eV l k 0=true:=by simp[eV,hti];omega
     simp only[Nat.add_zero]at hd hlc'
     simp -implicitDefEqProofs[g0,g1,g7,g8,g9,hil,hb,hd,hlc',ab,h1,h2]
     exact⟨m-1,by omega,1,rfl,by omega,rfl,by simp[g0],by simp[g1],by simp[g7],by simp[g8],by simp[aA],all_succ aL hp⟩
    ·have eJ:i-1<m:=by omega
     have htp:l[i-1]? =some l[i-1]:=List.getElem?_eq_getElem (by omega)
     obtain⟨p,hp⟩:∃p,p=l[i-1]:=⟨_,rfl⟩
     rw[←hp]at htp
     obtain⟨_,b',o',wb',cs',r',e1,hb',hd',hlc2,_⟩:=hs.at 1 cY htp
     simp only[Option.some.injEq,Addr.mk.injEq,and_true]at e1
     obtain⟨rfl,rfl⟩:=e1
     rw[hb]at hb'
     simp only[aO.row.injEq,true_and]at hb'
     obtain⟨rfl,rfl⟩:=hb'
     obtain⟨j,hj⟩:∃j,j=i-1:=⟨_,rfl⟩
     rw[←hj,Nat.mul_one]at hd' hlc2
     have hjm:j<m:=by omega
     have w2:IntKind.wrap .i64 ((i:Int)-1)=(j:Int):=by rw[aA (by omega)];omega
     have h0:(0:Int)<(i:Int):=by omega
     have h0':0<i:=by omega
     by_cases h4:t≤p
     ·have hp:eV l k i=false:=by simp[eV,hti,htp,h3];omega
      simp -implicitDefEqProofs[g0,g1,g7,g8,g9,hil,hb,hd,hlc',ab,h1,h2,h0,h0',h3,w2,hjm,hd',hlc2,h4,fin hp]
     ·have hp:eV l k i=true:=by simp[eV,hti,htp,h3];omega
      simp -implicitDefEqProofs[g0,g1,g7,g8,g9,hil,hb,hd,hlc',ab,h1,h2,h0,h0',h3,w2,hjm,hd',hlc2,h4,w1]
      exact⟨m-(i+1),by omega,i+1,rfl,by omega,rfl,by simp[g0],by simp[g1],by simp[g7],by simp[g8],by simp,all_succ aL hp⟩
 ·have:i=m:=by omega
  subst this
  rw[hm]at aL
  have he:ft l k=decide (l.length≤200):=by unfold ft;rw[aL];rfl
  rw[he,←hm]
  by_cases h2:(i:Int)≤200
  ·have h2':i≤200:=by omega
   simp -implicitDefEqProofs[g0,g1,h2,h2']
  ·have h2':¬i≤200:=by omega
   simp -implicitDefEqProofs[g0,g1,h2,h2']
def ij (p:aP):Bool:=aB p.x (-1048576) 1048576&&(aB p.y (-1048576) 1048576&&aB p.r 1 1048576)
def fy (l:List aP) (i:Nat):Bool:=match l[i]? with
 |some p=>ij p
 |none=>true
def fS (l:List aP):Bool:=(List.range l.length).all (fy l)&&decide (l.length≤200)
def SJ (s:Value) (l:List aP) (m:Nat) (h:aa) (n:Nat) (σ:St):Prop:=∃i:Nat,n=m-i∧i≤m∧σ.m.h=h∧σ.t.get 0=some s∧σ.t.get 5=some s∧σ.t.get 6=some (.int .i64 (m:Nat))∧σ.t.get 7=some (.int .i64 (i:Nat))∧(List.range i).all (fy l)=true
theorem amf (s:Value) (l:List aP) (hl:l.length≤1073741824) (h:aa) (hs:bX h s l):ai PP 176 [s] h (fun v h'=>h'=h∧v= .bool (fS l)):=by
 refine az mix abK VS rfl (by show 1≤31;decide) aiY ?_
 simp only[v8,Tryz.f176]
 obtain⟨ad,c,rfl⟩:=hs.shape
 obtain⟨m,hm⟩:∃m,m=l.length:=⟨_,rfl⟩
 rw[←hm]at hs ⊢
 simp -implicitDefEqProofs
 refine bD (SJ (.slice ad m c) l m h) _ ⟨0,rfl,by omega,rfl,by simp,by simp,by simp,by simp,rfl⟩ ?_
 rintro n ⟨T,⟨x,H⟩⟩ ⟨i,rfl,hi,hH,g0,g5,g6,g7,aL⟩
 simp at hH g0 g5 g6 g7
 subst hH
 simp -implicitDefEqProofs[g0,g5,g6,g7]
 refine bB (fun hc=>?_) (fun hc=>?_)<;>simp only[decide_eq_true_eq,decide_eq_false_iff_not]at hc
 ·have hil:i<m:=by omega
  have hti:l[i]? =some l[i]:=List.getElem?_eq_getElem (by omega)
  obtain⟨_,b,o,wb,cs,r,rfl,hb,hd,hlc,_⟩:=hs.at 3 mj hti
  obtain⟨t,ht⟩:∃t,t=l[i]:=⟨_,rfl⟩
  rw[←ht]at hd hti
  have w1:IntKind.wrap .i64 ((i:Int)+1)=((i+1:Nat):Int):=by rw[aA (by omega)];omega
  have hlc':o+i*3+3≤cs.length:=hlc
  have fin:fy l i=false→fS l=false:=fun hp=>by unfold fS;rw[all_false (by omega) hp];rfl
  simp -implicitDefEqProofs[g0,g5,g6,g7,hil,hb,hd,hlc',aQ]
  refine(nW t.x H).mono ?_
  rintro v h' ⟨rfl,rfl⟩
  simp -implicitDefEqProofs[ae]
  intro _
  by_cases h1:aB t.x (-1048576) 1048576=true
  ·simp -implicitDefEqProofs[h1]
   refine(nW t.y h').mono ?_
   rintro v h2 ⟨rfl,rfl⟩
   simp -implicitDefEqProofs[ae]
   intro _
   by_cases h3:aB t.y (-1048576) 1048576=true
   ·simp -implicitDefEqProofs[h3]
    refine(tP t.r h2).mono ?_
    rintro v h4 ⟨rfl,rfl⟩
    simp -implicitDefEqProofs[ae]
    intro _
    by_cases h5:aB t.r 1 1048576=true
    ·have hp:fy l i=true:=by simp[fy,hti,ij,h1,h3,h5]
     simp -implicitDefEqProofs[h5,g0,g5,g6,g7,w1]
     exact⟨m-(i+1),by omega,i+1,rfl,by omega,rfl,by simp[g0],by simp[g5],by simp[g6],by simp,all_succ aL hp⟩
    ·have hp:fy l i=false:=by simp[fy,hti,ij,h1,h3,h5]
     simp -implicitDefEqProofs[h5,fin hp]
   ·have hp:fy l i=false:=by simp[fy,hti,ij,h1,h3]
    simp -implicitDefEqProofs[h3,fin hp]
  ·have hp:fy l i=false:=by simp[fy,hti,ij,h1]
   simp -implicitDefEqProofs[h1,fin hp]
 ·have:i=m:=by omega
  subst this
  rw[hm]at aL
  have he:fS l=decide (l.length≤200):=by unfold fS;rw[aL];rfl
  rw[he,←hm]
  by_cases h2:(i:Int)≤200
  ·have h2':i≤200:=by omega
   simp -implicitDefEqProofs[g0,h2,h2']
  ·have h2':¬i≤200:=by omega
   simp -implicitDefEqProofs[g0,h2,h2']
structure ah where
 af:List aq
 aV:Int
 bg:Int
 aD:List Int
 aE:List aP
def bF (h:aa) (v:ah) (cs:List Value):Prop:=∃s k p,cs=[s,.int .i64 v.aV,.int .i64 v.bg,k,p]∧bT h s v.af∧aZ h k v.aD∧bX h p v.aE
theorem bF.ext {h h':aa} {v:ah} {cs:List Value} (H:bF h v cs) (E:Ext h h'):bF h' v cs:=by
 obtain⟨s,k,p,rfl,h1,h2,h3⟩:=H
 exact⟨s,k,p,rfl,h1.ext E,h2.ext E,h3.ext E⟩
def ji (v:ah):Prop:=v.af.length≤1073741824∧v.aD.length≤1073741824∧v.aE.length≤1073741824
def jL (v:ah):List UInt8:=
 if eE v.af=false then[115,101,97,116,115]
 else if aB v.aV 1 1048576=false then[103,97,112]
 else if aB v.bg 0 1048576=false then[114,97,100,105,117,115]
 else if ft v.aD v.af.length=false then[107,105,108,108,115]
 else if fS v.aE=false then[112,111,108,101,115]
 else[]
theorem jM (v:ah) (cs:List Value) (hv:ji v) (h:aa) (H:bF h v cs):ai PP 125 [.agg ⟨cs⟩] h (fun r h'=>h'=h∧r= .string (B (jL v))):=by
 refine az mix abb Vj rfl (by show 1≤31;decide) aiq ?_
 simp only[vt,Tryz.f125]
 obtain⟨s,k,p,rfl,h1,h2,h3⟩:=H
 obtain⟨ad1,c1,e1⟩:=h1.shape
 obtain⟨ad2,c2,e2⟩:=h2.shape
 obtain⟨ad3,c3,e3⟩:=h3.shape
 subst e1;subst e2;subst e3
 unfold jL
 simp -implicitDefEqProofs
 refine(anj _ v.af hv.1 h h1).mono ?_
 rintro r h' ⟨rfl,rfl⟩
 simp -implicitDefEqProofs[ae]
 intro _
 by_cases q1:eE v.af=true
 ·simp -implicitDefEqProofs[q1]
  refine(tP v.aV h').mono ?_
  rintro r h' ⟨rfl,rfl⟩
  simp -implicitDefEqProofs[ae]
  intro _
  by_cases q2:aB v.aV 1 1048576=true
  ·simp -implicitDefEqProofs[q2]
   refine(sX v.bg 0 1048576 h').mono ?_
   rintro r h' ⟨rfl,rfl⟩
   simp -implicitDefEqProofs[ae]
   intro _
   by_cases q3:aB v.bg 0 1048576=true
   ·simp -implicitDefEqProofs[q3]
    refine(afc _ v.aD v.af.length hv.2.1 h' h2).mono ?_
    rintro r h' ⟨rfl,rfl⟩
    simp -implicitDefEqProofs[ae]
    intro _
    by_cases q4:ft v.aD v.af.length=true
    ·simp -implicitDefEqProofs[q4]
     refine(amf _ v.aE hv.2.2 h' h3).mono ?_
     rintro r h' ⟨rfl,rfl⟩
     simp -implicitDefEqProofs[ae]
     intro _
     by_cases q5:fS v.aE=true
     ·simp -implicitDefEqProofs[q5]
     ·simp -implicitDefEqProofs[q5]
    ·simp -implicitDefEqProofs[q4]
   ·simp -implicitDefEqProofs[q3]
  ·simp -implicitDefEqProofs[q2]
 ·simp -implicitDefEqProofs[q1]
def aM (v:ah):Bool:=decide (jL v=[])
theorem j7 (v:ah) (cs:List Value) (hv:ji v) (h:aa) (H:bF h v cs):ai PP 84 [.agg ⟨cs⟩] h (fun r h'=>h'=h∧r= .bool (aM v)):=by
 refine az mix adD XI rfl (by show 1≤6;decide) akB ?_
 simp only[yr,Tryz.f84]
 have hw:=jM v cs hv h H
 obtain⟨s,k,p,rfl,h1,h2,h3⟩:=H
 simp -implicitDefEqProofs
 refine hw.mono ?_
 rintro r h' ⟨rfl,rfl⟩
 simp -implicitDefEqProofs[ae,aM]
end Go.Proofs.Ybk.V
namespace Go.Proofs.Ybk.K
open Go Go.Am
open V (aq aP ah aM aB)
structure aU where
 size:Int
 cL:Int
deriving DecidableEq,Inhabited
structure aN where
 id:Int
 state:Int
 aR:aU
 gT:Int
 first:Int
deriving DecidableEq,Inhabited
structure dQ where
 kind:Int
 a:Int
 aR:aU
 text:List UInt8
deriving DecidableEq,Inhabited
structure im where
 code:Int
 n:Int
 spot:Int×Int
 af:List Int
deriving DecidableEq,Inhabited
structure dh where
 kind:Int
 text:List UInt8
 order:aN
 time:Int
deriving DecidableEq,Inhabited
def ko:aN:=⟨0,0,⟨0,0⟩,0,0⟩
def dM (p:aU):Bool:=decide (1≤p.size)&&(decide (p.size≤8)&&(decide (0≤p.cL)&&(decide (p.cL≤2)&&decide (2*p.cL≤p.size))))
def iG (l:List aU):Bool:=decide (l.length≤512)&&l.all dM
def gY (n:Int):Bool:=aB n (-1048576) 1048576
def pT (a b:aq):Int:=if gY a.x&&gY a.y&&gY b.x&&gY b.y then(a.x-b.x)*(a.x-b.x)+(a.y-b.y)*(a.y-b.y)else 0
def k9 (a b:aq) (r:Int):Bool:=decide (pT a b<r*r)
def gj (v:ah) (k:Nat):aq:=v.af.getD k ⟨0,0,0,0⟩
def pJ (v:ah) (s:Nat):List Int:=(if v.aD.contains (s:Int)then[-1]else[])++(((List.range v.aE.length).filter fun k=>match v.aE[k]? with
 |some p=>k9 (gj v s) ⟨0,p.x,p.y,0⟩ p.r
 |none=>false).map fun k:Nat=>(k:Int))
def cJ (v:ah):List Bool:=if aM v then(List.range v.af.length).map fun k=>(pJ v k).isEmpty else[]
def fb (v:ah):List Int:=((List.range (cJ v).length).filter fun k=> !(cJ v).getD k true).map fun k:Nat=>(k:Int)
def rz (v:ah) (a:Int):Bool:=decide (0≤a)&&(decide (a<(v.af.length:Int)-1)&&(decide ((gj v (a.toNat+1)).row=(gj v a.toNat).row)&&decide ((gj v (a.toNat+1)).x-(gj v a.toNat).x≤v.aV)))
def mS (v:ah) (us:List Bool) (a:Int):Bool:=decide (0≤a)&&(decide (a<v.af.length)&&(decide (a<us.length)&&us.getD a.toNat false))
def iI (v:ah) (us:List Bool) (a:Int):Nat→Nat→Nat
 |0,n=>n
 |m+1,n=>if mS v us (a+n)&&(decide (n=0) || rz v (a+n-1))then iI v us a m (n+1)else n
def jF (first:Int) (size:Nat):List Int:=(List.range size).map fun k:Nat=>first+k
def lQ (v:ah) (us:List Bool) (first size:Int):Option (List Int):=if size<1∨(v.af.length:Int)<size∨(iI v us first size.toNat 0:Int)<size then none else some (jF first size.toNat)
def ic (v:ah) (l:List Int) (k:Int):Int:=if k<0∨(l.length:Int)≤k then 0 else(gj v (l.getD k.toNat 0).toNat).kind
def oy (v:ah) (l:List Int) (cL:Int):Bool:=
 ((List.range l.length).all fun k:Nat=>decide (ic v l k≠1) || (decide (ic v l ((k:Int)-1)=2) || decide (ic v l ((k:Int)+1)=2)))&&
 (!(decide (cL=0)&&decide (0<((List.range l.length).filter fun k:Nat=>decide (ic v l k=2)).length))&&
  decide ((((List.range l.length).filter fun k:Nat=>decide (ic v l k=1)).length:Int)=cL))
def cD (v:ah) (us:List Bool) (p:aU) (first:Int):Option (List Int):=if dM p then match lQ v us first p.size with
  |some l=>if oy v l p.cL then some l else none
  |none=>none
 else none
def fB (v:ah) (us:List Bool) (p:aU):List Int:=((List.range v.af.length).filter fun k:Nat=>(cD v us p k).isSome).map fun k:Nat=>(k:Int)
def dK (v:ah) (p:aU) (a:Int) (q:aU) (b:Int):Bool:=(List.range p.size.toNat).all fun i:Nat=>(List.range q.size.toNat).all fun k:Nat=>
 decide (a+i≠b+k)&& !k9 (gj v (a+i).toNat) (gj v (b+k).toNat) v.bg
structure bO where
 v:ah
 us:List Bool
 l:List aU
 pins:List (Int×Int)
def eW (s:bO) (k:Int):Option Int:=(s.pins.find? fun p=>decide (p.1=k)).map fun p=>p.2
def iY (acc:List (Int×Int)) (p:Int):Bool:=match acc.getLast? with
 |some q=>decide (p≤q.1)
 |none=>false
def gP (v:ah) (us:List Bool) (l:List aU):List (Int×Int)→List (Int×Int)→Option (List (Int×Int))
 |acc,[]=>some acc
 |acc,(p,f)::r=>
  if iY acc p || decide (p<0) || decide ((l.length:Int)≤p)then none
  else if(cD v us (l.getD p.toNat default) f).isNone then none
  else if acc.all fun q=>dK v (l.getD p.toNat default) f (l.getD q.1.toNat default) q.2 then gP v us l (acc++[(p,f)]) r else none
def eu (v:ah) (l:List aU) (pins:List (Int×Int)):Option bO:=if aM v&&iG l then(gP v (cJ v) l [] pins).map fun a=>⟨v,cJ v,l,a⟩else none
def dz (s:bO) (p:List Int) (k:Nat):Bool:=
 let f:=p.getD k 0
 if(match eW s k with
  |some x=>decide (f≠x)
  |none=>false)then true
 else if f= -1 then false
 else if(cD s.v s.us (s.l.getD k default) f).isNone then true
 else(List.range k).any fun j=>decide (p.getD j 0≠-1)&& !dK s.v (s.l.getD k default) f (s.l.getD j default) (p.getD j 0)
def l8 (s:bO) (p:List Int):Int:=match(List.range p.length).find? (dz s p)with
 |some k=>k
 |none=>-1
def ix (v:ah) (l:List aU) (p:List Int) (pins:List (Int×Int)):Bool:=match eu v l pins with
 |some s=>if p.length=l.length then decide (l8 s p= -1)else decide ((l.length:Int)= -1)
 |none=>decide ((l.length:Int)= -1)
def jH (l:List aU) (p:List Int):Int:=if l.length=p.length∧iG l=true then((List.range p.length).map fun k=>if 0≤p.getD k 0 then(l.getD k default).size else 0).foldl (· + ·) 0 else 0
def jW (l:List aU) (p:List Int):Bool:=p.all (fun f=>decide (0≤f))&&decide (l.length=p.length)
structure cd where
 s:bO
 levels:List (List (List Int))
 p:List Int
def ei (s:bO) (l:List Int) (k other:Nat) (at_:Int):List Int:=l.filter fun f=>dK s.v (s.l.getD k default) f (s.l.getD other default) at_
def gQ (s:bO):cd:=⟨s,[(List.range s.l.length).map fun k:Nat=>match eW s k with
 |some a=>[a]
 |none=>s.pins.foldl (fun d q=>ei s d k q.1.toNat q.2) (fB s.v s.us (s.l.getD k default))],[]⟩
def bZ (p:cd):List (List Int):=p.levels.getLastD []
def jG (p:cd) (k:Nat):Bool:=decide (k<p.s.l.length)&&(eW p.s k).isSome
def gI (p:cd) (k:Nat):List Int:=if k<p.s.l.length then(bZ p).getD k []else[]
def gJ (p:cd) (f:Int):cd:=
 let k:=p.p.length
 if !decide (k<p.s.l.length) || (decide (f= -1)&&jG p k) || (decide (f≠-1)&& !(gI p k).contains f)then p
 else
  let now:=bZ p
  let nx:=(List.range now.length).map fun j=>if j=k then(if f= -1 then[]else[f])else if f≠-1∧k<j then ei p.s (now.getD j []) j k f else now.getD j []
  ⟨p.s,p.levels++[nx],p.p++[f]⟩
def gf (p:cd):cd:=if p.p.length=0 then p else⟨p.s,p.levels.dropLast,p.p.dropLast⟩
def j8 (p:cd):Int:=((List.range (bZ p).length).map fun k=>if((bZ p).getD k []).length>0 then(p.s.l.getD k default).size else 0).foldl (· + ·) 0
structure df where
 p:cd
 l:List aU
 aW:List Int
 nodes:Int
 tree:List Bool
 cM:Int
 fuel:Int
 stack:List (List Int×Nat)
def gh (p:cd):List Int:=let k:=p.p.length;if jG p k then gI p k else gI p k++[-1]
def cO (h:df):df×Bool:=
 if h.fuel≤h.nodes then(h,false)
 else
  let h:={h with nodes:=h.nodes+1}
  if h.p.p.length=h.l.length then
   if h.cM<j8 h.p then({h with aW:=h.p.p,cM:=j8 h.p,p:=gf h.p},true)else({h with p:=gf h.p},true)
  else if h.cM<j8 h.p then({h with stack:=(gh h.p,0)::h.stack,tree:=h.tree++[true]},true)
  else({h with tree:=h.tree++[false],p:=gf h.p},true)
def dO:Nat→df→Bool→df×Bool
 |0,h,g=>(h,g)
 |n+1,h,g=>if g then match h.stack with
   |[]=>(h,g)
   |(l,a)::r=>if a=l.length then dO n {h with stack:=r,p:=gf h.p} g
    else
     let h1:={h with stack:=(l,a+1)::r,p:=gJ h.p (l.getD a 0)}
     dO n (cO h1).1 (cO h1).2
  else(h,g)
structure nK where
 answer:Int
 aW:List Int
 nodes:Int
 tree:List Bool
deriving Inhabited
def dG (l:List aU) (pins:List (Int×Int)):List Int:=pins.foldl (fun p q=>p.set q.1.toNat q.2) (List.replicate l.length (-1))
def lX (steps:Nat) (v:ah) (l:List aU) (pins:List (Int×Int)) (fuel:Int):Option nK:=match eu v l pins with
 |none=>none
 |some s=>if fuel<0∨1073741824<fuel then none else
  let least:=dG l pins
  let h0:df:=⟨gQ s,l,least,0,[],jH l least,fuel,[]⟩
  let r:=dO steps (cO h0).1 (cO h0).2
  some ⟨if !r.2 then 3 else if jW l r.1.aW then 1 else 2,r.1.aW,r.1.nodes,r.1.tree⟩
def eO (steps:Nat) (v:ah) (l:List aU) (pins:List (Int×Int)) (old:List Int) (fuel:Int):nK×Int:=
 if !ix v l old pins then(⟨0,[],0,[]⟩,1)
 else match lX steps v l pins fuel with
  |none=>(⟨0,[],0,[]⟩,1)
  |some r=>if r.answer=3∧jH l r.aW≤jH l old then({r with aW:=old},0)else(r,0)
end Go.Proofs.Ybk.K
namespace Go.Am
open Go
section
variable {α:Type}
def Ow (e:TypeId) (enc:α→List Value) (h0 h:aa) (o:Option Nat) (xs:List α) (v:Value):Prop:=
 v= .slice (o.map fun b=>⟨b,0,none⟩) xs.length xs.length∧(match o with
  |none=>xs=[]
  |some b=>h.f b= .row true e (xs.flatMap enc)∧h0.n≤b∧b<h.n)
variable {e:TypeId} {enc:α→List Value} {h0 h h':aa} {o o':Option Nat} {v:Value} {xs:List α}
theorem Ow.nil:Ow e enc h0 h none ([]:List α) (.slice none 0 0):=⟨rfl,rfl⟩
theorem Ow.keep (H:Ow e enc h0 h o xs v) (hs:∀b,o=some b→h'.f b=h.f b) (hn:h.n≤h'.n):Ow e enc h0 h' o xs v:=by
 obtain⟨rfl,z⟩:=H
 refine⟨rfl,?_⟩
 cases o with
 |none=>exact z
 |some b=>exact⟨by rw[hs b rfl];exact z.1,z.2.1,Nat.lt_of_lt_of_le z.2.2 hn⟩
theorem Ow.lt (H:Ow e enc h0 h o xs v):∀b,o=some b→h0.n≤b∧b<h.n:=by
 rintro b rfl
 exact⟨H.2.2.1,H.2.2.2⟩
theorem Ow.ext (H:Ow e enc h0 h o xs v) (E:Ext h h'):Ow e enc h0 h' o xs v:=H.keep (fun b hb=>E.f b (H.lt b hb).2) E.n
theorem Ow.own (H:Ow e enc h0 h o xs v):bS e enc h0 h v xs:=by
 obtain⟨rfl,z⟩:=H
 cases o with
 |none=>exact⟨none,rfl,.inl ⟨rfl,z⟩⟩
 |some b=>exact⟨_,rfl,.inr ⟨b,rfl,z.1,z.2.1,z.2.2⟩⟩
theorem Ow.fw (H:bS e enc h0 h v xs):∃o,Ow e enc h0 h o xs v:=by
 obtain⟨ad,rfl,z⟩:=H
 rcases z with⟨rfl,rfl⟩|⟨b,rfl,z2,z3,z4⟩
 ·exact⟨none,rfl,rfl⟩
 ·exact⟨some b,rfl,z2,z3,z4⟩
theorem Ow.sl (H:Ow e enc h0 h o xs v):cm e enc h v xs:=H.own.sl
theorem Ow.row {b:Nat} (H:Ow e enc h0 h (some b) xs v):h.f b= .row true e (xs.flatMap enc):=H.2.1
def bK (h:aa) (o:Option Nat) (c:aO):aa:=match o with
 |none=>h.new c
 |some b=>(h.set b .dead).new c
theorem cn (h:aa) (o:Option Nat) (c:aO):(bK h o c).n=h.n+1:=by cases o<;>rfl
theorem uR (h:aa) (o:Option Nat) (c:aO):(bK h o c).g=h.g:=by cases o<;>rfl
theorem mG (h:aa) (o:Option Nat) (c:aO) {b:Nat} (hb:b<h.n) (ho:o≠some b):(bK h o c).f b=h.f b:=by
 have n1:¬b=h.n:=by omega
 cases o with
 |none=>simp[bK,n1]
 |some x=>
  have n3:¬b=x:=fun q=>ho (by rw[q])
  simp[bK,n1,n3]
theorem jq (h:aa) (o:Option Nat) (c:aO):(bK h o c).f h.n=c:=by cases o<;>simp[bK]
theorem Ext.app (E:Ext h0 h) (ho:∀b,o=some b→h0.n≤b∧b<h.n) (c:aO):Ext h0 (bK h o c):=by
 cases o with
 |none=>exact E.bA _
 |some b=>exact(E.cq (ho b rfl).1 _).bA _
theorem Ow.other {β:Type} {e':TypeId} {enc':β→List Value} {ys:List β} {u:Value} (H:Ow e enc h0 h o xs v) (hne:∀b,o=some b→o'≠some b) (c:aO):Ow e enc h0 (bK h o' c) o xs v:=
 H.keep (fun b hb=>mG h o' c (H.lt b hb).2 (hne b hb)) (by rw[cn];omega)
theorem Ow.app (H:Ow e enc h0 h o xs v) (hn:h0.n≤h.n) (ys:List α) {cells:List Value} (hc:cells=xs.flatMap enc++ys.flatMap enc) {n:Nat} (hl:n=ys.length):
  Ow e enc h0 (bK h o (.row true e cells)) (some h.n) (xs++ys) (.slice (some ⟨h.n,0,none⟩) (xs.length+n) (xs.length+n)):=by
 refine⟨by subst hl;simp,?_,hn,by rw[cn];omega⟩
 rw[jq,hc,List.flatMap_append]
theorem Ph {P:Program} {σ:St} {t u:TypeId} {s y:Operand} {sz by_:Nat} {zl l:List Value} {n:Nat} (H:Ow e enc h0 σ.m.h o xs v) (hel:ep P t=some (e,sz)) (hz:cT P e=some zl) (hby:fX P e=some by_) (hco:P.cellsOf e=sz)
  (hs0:0<sz) (hb0:0<by_) (hzl:zl.length=sz) (hk:∀x,(enc x).length=sz) (hs:aG σ s=some v) (hsrc:cQ P σ u sz y=some (l,n)) (hone:l.all one=true) (hn:n≠0) (hmax:(xs.length+n)*by_≤cH):
  cB P σ t u s y=some (.slice (some ⟨σ.m.h.n,0,none⟩) (xs.length+n) (xs.length+n),⟨σ.t,⟨σ.m.x,bK σ.m.h o (.row true e (xs.flatMap enc++l))⟩⟩):=by
 obtain⟨rfl,z⟩:=H
 cases o with
 |none=>
  simp only at z
  subst z
  simp only[List.length_nil,Nat.zero_add]at hmax
  simp[cB,hel,hz,hby,hsrc,hone,hs0,hb0,hzl,hs,hn,hmax,bK]
 |some b=>
  obtain⟨z1,z2,z3⟩:=z
  have hfl:=dA sz hk xs
  have htk:(xs.flatMap enc).take (xs.length*sz)=xs.flatMap enc:=List.take_of_length_le (by omega)
  have hone':l.all one=true:=hone
  simp[cB,hel,hz,hby,hsrc,hs0,hb0,hzl,hs,hmax,bK,z1,hco,hfl,htk]
  simpa using hone
end
end Go.Am
namespace Go.Proofs.Ybk.V
open Go Go.Am
set_option maxHeartbeats 2000000
theorem ane (xs:List aq):(xs.flatMap al).all one=true:=by
 rw[List.all_eq_true];intro v hv
 obtain⟨s,_,hs⟩:=List.mem_flatMap.1 hv
 simp[al]at hs
 rcases hs with rfl|rfl|rfl|rfl<;>rfl
theorem ame (xs:List aP):(xs.flatMap aQ).all one=true:=by
 rw[List.all_eq_true];intro v hv
 obtain⟨s,_,hs⟩:=List.mem_flatMap.1 hv
 simp[aQ]at hs
 rcases hs with rfl|rfl|rfl<;>rfl
theorem Zb (s:Value) (xs:List aq) (hl:xs.length≤1073741824) (h:aa) (hs:bT h s xs):ai PP 59 [s] h (fun v h'=>Ext h h'∧bS 99 al h h' v xs):=by
 refine az mix ac5 Xn rfl (by show 1≤8;decide) akg ?_
 simp only[xW,Tryz.f59]
 obtain⟨ad,c,rfl,hn,hz⟩:=hs
 cases ad with
 |none=>
  have:xs=[]:=by
   rcases hz with z|⟨b,off,w,cells,rest,z,_⟩
   ·exact z
   ·simp at z
  subst this
  have:=hn rfl
  subst this
  simp -implicitDefEqProofs
  exact⟨Ext.bu h,bS.nil⟩
 |some ad=>
  by_cases h0:xs=[]
  ·subst h0
   simp -implicitDefEqProofs[aI,cB,cQ,cH]
   exact⟨(Ext.new h _).cq (Nat.le_refl _) _ |>.bA _,_,rfl,.inr ⟨_,rfl,by simp,by simp,by simp⟩⟩
  ·obtain⟨b,off,w,cells,rest,e,z2,z3,z4,z5⟩:∃b off w cells rest,some ad=some (⟨b,off,none⟩:Addr)∧h.f b= .row w 99 cells∧cells.drop off=xs.flatMap al++rest∧off≤cells.length∧b<h.n:=by
    rcases hz with z|z
    ·exact absurd z h0
    ·exact z
   obtain rfl:=Option.some.inj e
   obtain⟨m,hm⟩:∃m,m=xs.length:=⟨_,rfl⟩
   have hm0:¬m=0:=by rw[hm];simpa using h0
   obtain⟨F,hF⟩:∃F,F=xs.flatMap al:=⟨_,rfl⟩
   have hFl:F.length=m*4:=by rw[hF,dA 4 eM,hm]
   have hone:=ane xs
   rw[←hF]at z3 hone
   have hlen:off+m*4≤cells.length:=by
    have:=congrArg List.length z3
    rw[List.length_drop,List.length_append,hFl]at this;omega
   have htk:(cells.drop off).take (m*4)=F:=by rw[z3,List.take_append_of_le_length (by omega),List.take_of_length_le (by omega)]
   have hbn:¬b=h.n:=by omega
   have hmx:m*32≤140737488355328:=by omega
   rw[←hm]
   simp -implicitDefEqProofs[aI,cB,cQ,cH,hm0,hbn,z2,hlen,htk,hone,hmx]
   exact⟨(Ext.new h _).cq (Nat.le_refl _) _ |>.bA _,_,by rw[hm],.inr ⟨_,rfl,by simp[hF],by simp,by simp⟩⟩
theorem Y9 (s:Value) (xs:List aP) (hl:xs.length≤1073741824) (h:aa) (hs:bX h s xs):ai PP 61 [s] h (fun v h'=>Ext h h'∧bS 103 aQ h h' v xs):=by
 refine az mix ac7 Xp rfl (by show 1≤8;decide) aki ?_
 simp only[xY,Tryz.f61]
 obtain⟨ad,c,rfl,hn,hz⟩:=hs
 cases ad with
 |none=>
  have:xs=[]:=by
   rcases hz with z|⟨b,off,w,cells,rest,z,_⟩
   ·exact z
   ·simp at z
  subst this
  have:=hn rfl
  subst this
  simp -implicitDefEqProofs
  exact⟨Ext.bu h,bS.nil⟩
 |some ad=>
  by_cases h0:xs=[]
  ·subst h0
   simp -implicitDefEqProofs[aI,cB,cQ,cH]
   exact⟨(Ext.new h _).cq (Nat.le_refl _) _ |>.bA _,_,rfl,.inr ⟨_,rfl,by simp,by simp,by simp⟩⟩
  ·obtain⟨b,off,w,cells,rest,e,z2,z3,z4,z5⟩:∃b off w cells rest,some ad=some (⟨b,off,none⟩:Addr)∧h.f b= .row w 103 cells∧cells.drop off=xs.flatMap aQ++rest∧off≤cells.length∧b<h.n:=by
    rcases hz with z|z
    ·exact absurd z h0
    ·exact z
   obtain rfl:=Option.some.inj e
   obtain⟨m,hm⟩:∃m,m=xs.length:=⟨_,rfl⟩
   have hm0:¬m=0:=by rw[hm];simpa using h0
   obtain⟨F,hF⟩:∃F,F=xs.flatMap aQ:=⟨_,rfl⟩
   have hFl:F.length=m*3:=by rw[hF,dA 3 mj,hm]
   have hone:=ame xs
   rw[←hF]at z3 hone
   have hlen:off+m*3≤cells.length:=by
    have:=congrArg List.length z3
    rw[List.length_drop,List.length_append,hFl]at this;omega
   have htk:(cells.drop off).take (m*3)=F:=by rw[z3,List.take_append_of_le_length (by omega),List.take_of_length_le (by omega)]
   have hbn:¬b=h.n:=by omega
   have hmx:m*24≤140737488355328:=by omega
   rw[←hm]
   simp -implicitDefEqProofs[aI,cB,cQ,cH,hm0,hbn,z2,hlen,htk,hone,hmx]
   exact⟨(Ext.new h _).cq (Nat.le_refl _) _ |>.bA _,_,by rw[hm],.inr ⟨_,rfl,by simp[hF],by simp,by simp⟩⟩
def nV (a b:aq):Int:=if dB a b=true then -1 else if dB b a=true then 1 else 0
theorem Zd (a b:aq) (h:aa):ai PP 164 [aX a,aX b] h (fun v h'=>h'=h∧v= .int .i64 (nV a b)):=by
 refine az mix abx VE rfl (by show 2≤13;decide) aiL ?_
 simp only[vO,Tryz.f164]
 unfold nV
 have e1:[Value.int .i64 a.row,.int .i64 a.x,.int .i64 a.y,.int .i64 a.kind]=al a:=rfl
 simp -implicitDefEqProofs[aX,al]
 refine(zC a b h).mono ?_
 rintro v h' ⟨rfl,rfl⟩
 simp -implicitDefEqProofs[ae]
 intro _
 by_cases h1:dB a b=true
 ·simp -implicitDefEqProofs[h1]
 ·simp -implicitDefEqProofs[h1]
  refine(zC b a h').mono ?_
  rintro v h' ⟨rfl,rfl⟩
  simp -implicitDefEqProofs[ae]
  intro _
  by_cases h2:dB b a=true
  ·simp -implicitDefEqProofs[h2]
  ·simp -implicitDefEqProofs[h2]
def eo (s x:aq):Bool:=decide (x.row=s.row)&&decide (x.x=s.x)
theorem UN (s x:aq) (b:Nat) (w:Bool) (h:aa) (hb:h.f b= .row w 99 (al s)):ai PP 167 [aX x,.pointer (some ⟨b,0,none⟩)] h (fun v h'=>h'=h∧v= .bool (eo s x)):=by
 refine az mix abA VH rfl (by show 2≤16;decide) aiO ?_
 simp only[vR,Tryz.f167]
 unfold eo
 by_cases h1:x.row=s.row
 ·simp -implicitDefEqProofs[aX,al,hb,h1]
 ·simp -implicitDefEqProofs[aX,al,hb,h1]
def dL {α:Type} (f:α→Bool) (l:List α):Int:=if l.any f=true then(l.findIdx f:Int)else -1
def Sv (s:Value) (fv:Value) (l:List aq) (p:aq→Bool) (m:Nat) (h:aa) (n:Nat) (σ:St):Prop:=∃i:Nat,n=m-i∧i≤m∧σ.m.h=h∧σ.t.get 0=some s∧σ.t.get 1=some fv∧σ.t.get 7=some (.int .i64 (m:Nat))∧σ.t.get 8=some (.int .i64 (i:Nat))∧∀j t,j<i→l[j]? =some t→p t=false
theorem yT {α:Type} {p:α→Bool} {l:List α} {i:Nat} {t:α} (h:l[i]? =some t) (hp:p t=true) (hb:∀j t,j<i→l[j]? =some t→p t=false):dL p l=i:=by
 have hlt:=(List.getElem?_eq_some_iff.mp h).1
 have hm:t∈l:=List.mem_of_getElem? h
 have ha:l.any p=true:=List.any_eq_true.2 ⟨t,hm,hp⟩
 unfold dL
 rw[if_pos ha]
 congr 1
 rw[List.findIdx_eq hlt]
 refine⟨by rw[(List.getElem?_eq_some_iff.mp h).2];exact hp,fun j hj=>?_⟩
 exact hb j _ hj (List.getElem?_eq_getElem (by omega))
theorem yU {α:Type} {p:α→Bool} {l:List α} (hb:∀j t,j<l.length→l[j]? =some t→p t=false):dL p l= -1:=by
 unfold dL
 rw[if_neg]
 intro q
 obtain⟨t,ht,hp⟩:=List.any_eq_true.1 q
 obtain⟨j,hj,rfl⟩:=List.mem_iff_getElem.1 ht
 rw[hb j _ hj (List.getElem?_eq_getElem hj)]at hp
 cases hp
theorem aeA (s:Value) (l:List aq) (t:aq) (b:Nat) (w:Bool) (hl:l.length≤1073741824) (h:aa) (hs:bT h s l) (hb:h.f b= .row w 99 (al t)):
  ai PP 166 [s,.func (.func 167) #[] #[.pointer (some ⟨b,0,none⟩)]] h (fun v h'=>h'=h∧v= .int .i64 (dL (eo t) l)):=by
 refine az mix abz VG rfl (by show 2≤19;decide) aiN ?_
 simp only[vQ,Tryz.f166]
 obtain⟨ad,c,rfl⟩:=hs.shape
 obtain⟨m,hm⟩:∃m,m=l.length:=⟨_,rfl⟩
 rw[←hm]at hs ⊢
 simp -implicitDefEqProofs
 refine bD (Sv (.slice ad m c) (.func (.func 167) #[] #[.pointer (some ⟨b,0,none⟩)]) l (eo t) m h) _ ⟨0,rfl,by omega,rfl,by simp,by simp,by simp,by simp,by omega⟩ ?_
 rintro n ⟨T,⟨x,H⟩⟩ ⟨i,rfl,hi,hH,g0,g1,g7,g8,aL⟩
 simp at hH g0 g1 g7 g8
 subst hH
 simp -implicitDefEqProofs[g0,g1,g7,g8]
 refine bB (fun hc=>?_) (fun hc=>?_)<;>simp only[decide_eq_true_eq,decide_eq_false_iff_not]at hc
 ·have hil:i<m:=by omega
  have hti:l[i]? =some l[i]:=List.getElem?_eq_getElem (by omega)
  obtain⟨_,b',o,wb,cs,r,rfl,hb',hd,hlc,_⟩:=hs.at 4 eM hti
  obtain⟨u,hu⟩:∃u,u=l[i]:=⟨_,rfl⟩
  rw[←hu]at hd hti
  have w1:IntKind.wrap .i64 ((i:Int)+1)=((i+1:Nat):Int):=by rw[aA (by omega)];omega
  simp -implicitDefEqProofs[g0,g1,g7,g8,hil,hb',hd,hlc,al]
  refine(UN t u b w H hb).mono ?_
  rintro v h' ⟨rfl,rfl⟩
  simp -implicitDefEqProofs[ae]
  intro _
  by_cases h1:eo t u=true
  ·simp -implicitDefEqProofs[h1,g0,g1,g7,g8]
   exact(yT hti h1 aL).symm
  ·simp -implicitDefEqProofs[h1,g0,g1,g7,g8,w1]
   refine⟨m-(i+1),by omega,i+1,rfl,by omega,rfl,by simp[g0],by simp[g1],by simp[g7],by simp,fun j z hj hz=>?_⟩
   rcases Nat.lt_or_ge j i with q|q
   ·exact aL j z q hz
   ·have:j=i:=by omega
    subst this
    rw[hti]at hz
    obtain rfl:=Option.some.inj hz
    simpa using h1
 ·simp -implicitDefEqProofs[g0,g1,g7,g8]
  exact(yU (fun j z hj hz=>aL j z (by omega) hz)).symm
end Go.Proofs.Ybk.V

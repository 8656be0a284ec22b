import Derived.Test.YtbcdmljanolkeaaGreatDoorMb
import Derived.KernelRfl
import Derived.Shelf.Strconv.Itoa3
import Derived.Shelf.Strings.OnBuilder
import Derived.Test.YtbcdmljanolkeaaGreatDoorProg
import Derived.WalkKit
import Derived.LaidEql
import Derived.Stop.Asserts
import Derived.RowKitTokens
import Derived.Sort.Grow
import Derived.Deep.Draws
import Derived.Deep.Slices
import Derived.Deep.Fields
import Derived.Test.YtbcdmljanolkeaaGreatDoorRows
import Derived.LaidLaws
import Derived.LaidHandle
import Derived.LaidSub
import Derived.Stop.LaidErr
import Derived.Lib.LaidTab
import Derived.SizedLaws
import Derived.ChangeSlices
set_option linter.unusedVariables false
set_option linter.unusedSimpArgs false
set_option linter.unusedSectionVars false
set_option linter.constructorNameAsVariable false
set_option linter.defProp false
set_option maxRecDepth 20000
namespace Go.Proofs.Ybk
open Go Go.Am
def Kt (i:Nat):List Nat:=if i<3 then if i<1 then[0,1]else if i<2 then[0,1,5]else[4]else if i<4 then[0,1,9]else if i<5 then[4]else[4]
def DH:az:=⟨[],Kt,aX⟩
theorem ady:aA PP DH Tryz.f157.ntmps (ai Tryz.f157)=true:=by kernel_rfl
def Ku (i:Nat):List Nat:=if i<4 then if i<2 then if i<1 then[0,1]else[0,1,14]else if i<3 then[4,5]else[0,1,6]else if i<6 then if i<5 then[0,1,6,20]else[0,1,6]else if i<7 then[0,1,6,28]else if i<8 then[4,5]else[4,5]
def DI:az:=⟨[],Ku,aX⟩
theorem adz:aA PP DI Tryz.f158.ntmps (ai Tryz.f158)=true:=by kernel_rfl
def Kv (i:Nat):List Nat:=if i<1 then[1,2]else[2]
def DJ:az:=⟨[1,2],Kv,aX⟩
theorem adC:aA PP DJ Tryz.f159.ntmps (ai Tryz.f159)=true:=by kernel_rfl
def Kx (i:Nat):List Nat:=if i<11 then if i<5 then if i<2 then if i<1 then[0,3]else[0,3,6,7]else if i<3 then[0,3,6,28]else if i<4 then[4,5]else[0,3,6,8]else if i<8 then if i<6 then[0,3,6,8,35,36]else if i<7 then[0,3,6,8,35,36,37]else[0,3,6,8,9,35,36]else if i<9 then[0,3,6,8,9,35,36,39]else if i<10 then[4,5]else[0,3,6,8,9,35,36,47]else if i<17 then if i<14 then if i<12 then[4,5]else if i<13 then[0,3,6,8,35,36]else[0,3,6,8,35,36]else if i<15 then[0,6,8,77]else if i<16 then[4,5]else[0,8,86,87,88]else if i<20 then if i<18 then[0,8,86,87,88,89]else if i<19 then[0,8,10,11,86,87,88]else[0,8,10,86,87,88,99]else if i<21 then[4,5]else if i<22 then[0,8,86,87,88]else[4,5]
def DL:az:=⟨[3],Kx,aX⟩
theorem adE:aA PP DL Tryz.f160.ntmps (ai Tryz.f160)=true:=by kernel_rfl
def Ky (i:Nat):List Nat:=if i<12 then if i<6 then if i<3 then if i<1 then[0,1,2]else if i<2 then[0,1,2,13]else[0,1,2,7]else if i<4 then[0,1,2,7,9]else if i<5 then[0,1,2,7,30]else[6]else if i<9 then if i<7 then[0,1,2]else if i<8 then[0]else[6]else if i<10 then[0,1,2,13,75]else if i<11 then[0,2,82]else[6]else if i<18 then if i<15 then if i<13 then[]else if i<14 then[0,1,2,13,90]else[0,2,95]else if i<16 then[6]else if i<17 then[]else[0,1,2,13,106]else if i<21 then if i<19 then[0]else if i<20 then[6]else[0,1,2,139]else if i<22 then[0]else if i<23 then[6]else[6]
def Hw (i:Nat):cf:=if i=18 then⟨[],[0,1,2,3,4,5,6,7,8,9,10,11,12,13,14,16,17,18,15,19,20,21,22,23,24,25],[(0,[]),(0,[]),(0,[1]),(0,[1,2]),(0,[1,2,3]),(0,[]),(0,[5]),(0,[5,6]),(0,[]),(0,[8]),(0,[8,9]),(0,[5,6,7,8,9,10]),(0,[]),(0,[12]),(0,[12,13]),(0,[12,13,14]),(0,[]),(0,[16]),(0,[16,17]),(0,[12,13,14,15,16,17,18]),(0,[5,6,7,8,9,10,11,12,13,14,15,16,17,18,19]),(0,[5,6,7,8,9,10,11,12,13,14,15,16,17,18,19,20]),(0,[1,2,3,4,5,6,7,8,9,10,11,12,13,14,15,16,17,18,19,20,21]),(23,[]),(24,[]),(25,[])],[]⟩else if i=21 then⟨[],[0,1,2,3,4,5,6,7,8,9,10,11,12,13,14,15,16,17,18,19,20,21],[(0,[]),(0,[]),(0,[1]),(0,[1,2]),(0,[1,2,3]),(0,[1,2,3,4]),(0,[]),(0,[6]),(0,[6,7]),(0,[]),(0,[9]),(0,[9,10]),(0,[]),(0,[12]),(0,[12,13]),(0,[6,7,8,9,10,11,12,13,14]),(0,[6,7,8,9,10,11,12,13,14,15]),(0,[1,2,3,4,5,6,7,8,9,10,11,12,13,14,15,16]),(18,[]),(19,[]),(20,[]),(21,[])],[]⟩else if i=2 then⟨[7],[0,1,2,3,4,5,6,8],[(0,[]),(1,[]),(2,[]),(0,[]),(0,[3]),(0,[3,4]),(6,[]),(0,[]),(8,[])],[]⟩else if i=3 then⟨[],[0,1,2,3,4,5,6,7,8,9,10],[(0,[]),(1,[]),(2,[]),(3,[]),(0,[]),(5,[]),(6,[]),(7,[]),(7,[]),(8,[]),(10,[])],[]⟩else if i=6 then⟨[],[0,1,2,3,4,5,6,7,8,9,10,11],[(0,[]),(1,[]),(2,[]),(3,[]),(0,[]),(0,[]),(0,[5]),(0,[5,6]),(0,[5,6,7]),(0,[5,6,7,8]),(0,[5,6,7,8,9]),(11,[])],[]⟩else if i=7 then⟨[],[0,1,2,3,4,5,6,7,8,9,10,11,12,13,14,15,16,17,18,19,20,21,22,23,24,25,26],[(0,[]),(0,[]),(0,[1]),(0,[1,2]),(0,[1,2,3]),(0,[1,2,3,4]),(0,[]),(0,[6]),(0,[6,7]),(0,[]),(0,[9]),(0,[9,10]),(0,[]),(0,[12]),(0,[12,13]),(0,[]),(0,[15]),(0,[15,16]),(0,[15,16,17]),(0,[15,16,17,18]),(0,[6,7,8,9,10,11,12,13,14,15,16,17,18,19]),(0,[6,7,8,9,10,11,12,13,14,15,16,17,18,19,20]),(0,[1,2,3,4,5,6,7,8,9,10,11,12,13,14,15,16,17,18,19,20,21]),(23,[]),(24,[]),(25,[]),(26,[])],[]⟩else⟨[],[],[],[]⟩
def DM:az:=⟨[7],Ky,Hw⟩
theorem adF:aA PP DM Tryz.f161.ntmps (ai Tryz.f161)=true:=by kernel_rfl
def Kz (i:Nat):List Nat:=if i<1 then[0,1]else[4]
def DN:az:=⟨[],Kz,aX⟩
theorem Od:aA PP DN Tryz.f162.ntmps (ai Tryz.f162)=true:=by kernel_rfl
def KB (i:Nat):List Nat:=if i<3 then if i<1 then[2,3]else if i<2 then[2,3,5]else[4]else if i<4 then[9]else if i<5 then[4]else[4]
def DP:az:=⟨[2,3],KB,aX⟩
theorem adH:aA PP DP Tryz.f164.ntmps (ai Tryz.f164)=true:=by kernel_rfl
def KC (i:Nat):List Nat:=if i<1 then[2,3]else[4]
def DQ:az:=⟨[2,3],KC,aX⟩
theorem adI:aA PP DQ Tryz.f165.ntmps (ai Tryz.f165)=true:=by kernel_rfl
def KD (i:Nat):List Nat:=if i<4 then if i<2 then if i<1 then[0,1]else[0,1,7,8]else if i<3 then[0,1,7,8,9]else[0,1,5,7,8]else if i<6 then if i<5 then[0,1,5,7,8,16]else[4]else if i<7 then[0,1,7,8]else[4]
def DR:az:=⟨[],KD,aX⟩
theorem adJ:aA PP DR Tryz.f166.ntmps (ai Tryz.f166)=true:=by kernel_rfl
def KE (i:Nat):List Nat:=if i<1 then[1,2]else[3]
def DS:az:=⟨[2],KE,aX⟩
theorem adL:aA PP DS Tryz.f167.ntmps (ai Tryz.f167)=true:=by kernel_rfl
def KH (i:Nat):List Nat:=if i<8 then if i<4 then if i<2 then if i<1 then[0]else[0,8]else if i<3 then[2]else[0,3]else if i<6 then if i<5 then[0,3,13]else[0,3]else if i<7 then[0,3,25]else[0,3,4]else if i<12 then if i<10 then if i<9 then[0,3,4,5]else[0,3,4,5,32]else if i<11 then[0,3,4,5]else[0,3,4,5,44]else if i<14 then if i<13 then[0,3,4,5]else[0,3,4,5]else if i<15 then[0,3]else if i<16 then[2]else[2]
def Hx (i:Nat):cf:=if i=6 then⟨[],[0,1,2,3,4,5,6,7,8,9],[(0,[]),(0,[]),(2,[]),(3,[]),(0,[]),(0,[]),(0,[5]),(0,[4,5,6]),(0,[4,5,6,7]),(9,[])],[]⟩else if i=11 then⟨[],[0,1,2,3,4,5,6,7,8,9],[(0,[]),(0,[]),(2,[]),(3,[]),(0,[]),(0,[]),(0,[5]),(0,[4,5,6]),(0,[4,5,6,7]),(9,[])],[]⟩else⟨[],[],[],[]⟩
def DU:az:=⟨[],KH,Hx⟩
theorem adN:aA PP DU Tryz.f169.ntmps (ai Tryz.f169)=true:=by kernel_rfl
def KJ (i:Nat):List Nat:=if i<11 then if i<5 then if i<2 then if i<1 then[1,2,3,6]else[1,2,6,8,9]else if i<3 then[1,2,6,8,9,10]else if i<4 then[1,2,6,8,10,32]else[6,7]else if i<8 then if i<6 then[1,2,6,8,10,34,35,36]else if i<7 then[1,2,6,8,10,34,35,36,37]else[1,2,6,8,10,11,12,34,35,36]else if i<9 then[1,2,6,8,10,11,12,34,35,36,65]else if i<10 then[6,7]else[1,2,6,8,10,11,12,14,34,35,36]else if i<16 then if i<13 then if i<12 then[1,2,6,8,10,11,12,34,35,36,80]else[6,7]else if i<14 then[1,2,6,8,10,12,34,35,36,84,85,86]else if i<15 then[1,2,6,8,10,12,34,35,36,84,85,86,87]else[1,2,6,8,10,12,16,34,35,36,84,85,86]else if i<19 then if i<17 then[1,2,6,8,10,12,34,35,36,84,85,86,106]else if i<18 then[6,7]else[1,2,6,8,10,12,34,35,36,84,85,86]else if i<20 then[1,2,6,8,10,34,35,36]else if i<21 then[1,2,6,8,10,34,35,36]else[6,7]
def Hy (i:Nat):cf:=if i=8 then⟨[],[0,1,2,3,4,5,6,7,8,9,10,11,12,13,14,15,16,17,18,19,20,21,22,23,24],[(0,[]),(1,[]),(2,[]),(3,[]),(4,[]),(3,[]),(3,[]),(3,[6]),(3,[5,6,7]),(3,[5,6,7,8]),(3,[5,6,7,8,9]),(11,[]),(12,[]),(13,[]),(14,[]),(15,[]),(16,[]),(17,[]),(18,[]),(19,[]),(20,[]),(19,[]),(19,[21]),(23,[]),(24,[])],[]⟩else if i=10 then⟨[],[0,1,2,3,4,5,6,7,8,9,10,11,12,13],[(0,[]),(0,[]),(0,[]),(0,[2]),(0,[1,2,3]),(0,[1,2,3,4]),(0,[]),(0,[6]),(8,[]),(9,[]),(10,[]),(10,[]),(11,[]),(13,[])],[]⟩else if i=16 then⟨[],[0,1,2,3,4,5,6,7,8,9,10,11,12,13,14,15,16],[(0,[]),(0,[]),(0,[]),(0,[2]),(0,[1,2,3]),(0,[1,2,3,4]),(0,[]),(0,[6]),(0,[]),(0,[]),(0,[9]),(0,[8,9,10]),(0,[8,9,10,11]),(0,[]),(0,[13]),(15,[]),(16,[])],[]⟩else⟨[],[],[],[]⟩
def DW:az:=⟨[3,6,8,10,12,16],KJ,Hy⟩
theorem adP:aA PP DW Tryz.f170.ntmps (ai Tryz.f170)=true:=by kernel_rfl
def KK (i:Nat):List Nat:=if i<4 then if i<2 then if i<1 then[1,2]else[1,2,7,8]else if i<3 then[1,2,7,8,9]else[1,2,5,7,8]else if i<6 then if i<5 then[1,2,5,7,8,14]else[4]else if i<7 then[1,2,7,8]else[4]
def DX:az:=⟨[2],KK,aX⟩
theorem adS:aA PP DX Tryz.f171.ntmps (ai Tryz.f171)=true:=by kernel_rfl
def KL (i:Nat):List Nat:=if i<4 then if i<2 then if i<1 then[0]else[0,5,6,7]else if i<3 then[0,5,6,7,8]else[0,3,4,5,6,7]else if i<6 then if i<5 then[0,5,6,7,28]else[2]else if i<7 then[0,5,6,7]else[2]
def Hz (i:Nat):cf:=if i=4 then⟨[],[0,1,2,3,4,5,6,7,8,9,10,11,12,13,14,15,16],[(0,[]),(1,[]),(2,[]),(3,[]),(4,[]),(5,[]),(6,[]),(7,[]),(7,[]),(7,[8]),(10,[]),(11,[]),(7,[]),(13,[]),(14,[]),(15,[]),(16,[])],[]⟩else⟨[],[],[],[]⟩
def DY:az:=⟨[4],KL,Hz⟩
theorem adT:aA PP DY Tryz.f172.ntmps (ai Tryz.f172)=true:=by kernel_rfl
def KM (i:Nat):List Nat:=if i<1 then[0]else[2]
def DZ:az:=⟨[],KM,aX⟩
theorem adU:aA PP DZ Tryz.f173.ntmps (ai Tryz.f173)=true:=by kernel_rfl
def KN (i:Nat):List Nat:=if i<1 then[0,1,2]else[6]
def Ea:az:=⟨[],KN,aX⟩
theorem adV:aA PP Ea Tryz.f174.ntmps (ai Tryz.f174)=true:=by kernel_rfl
def KO (i:Nat):List Nat:=if i<4 then if i<2 then if i<1 then[0,1]else[0,1,7,8,9]else if i<3 then[0,1,7,8,9,10]else[0,1,5,6,7,8,9]else if i<6 then if i<5 then[0,1,7,8,9,33]else[4]else if i<7 then[0,1,7,8,9]else[4]
def Eb:az:=⟨[],KO,aX⟩
theorem adW:aA PP Eb Tryz.f175.ntmps (ai Tryz.f175)=true:=by kernel_rfl
def KP (i:Nat):List Nat:=if i<4 then if i<2 then if i<1 then[0]else[0,5,6,7]else if i<3 then[0,5,6,7,8]else[0,4,5,6,7]else if i<6 then if i<5 then[0,5,6,7,26]else[2]else if i<7 then[0,5,6,7]else[2]
def Ec:az:=⟨[4],KP,aX⟩
theorem adX:aA PP Ec Tryz.f176.ntmps (ai Tryz.f176)=true:=by kernel_rfl
def KR (i:Nat):List Nat:=if i<4 then if i<2 then if i<1 then[0]else[0,3]else if i<3 then[0,3,8]else[0,3]else if i<6 then if i<5 then[0,3,4]else[0,3,50]else if i<7 then[2]else[2]
def HC (i:Nat):cf:=if i=5 then⟨[],[0,1,2,3,4,5,6,7,8,9,10,11,12,13,14,15,16,17,18,19,20,21,22,23,24,25,26,27,28,29,30,31,32,33,34,35],[(0,[]),(1,[]),(2,[]),(3,[]),(4,[]),(5,[]),(6,[]),(7,[]),(8,[]),(9,[]),(10,[]),(11,[]),(12,[]),(13,[]),(14,[]),(15,[]),(16,[]),(17,[]),(18,[]),(19,[]),(20,[]),(21,[]),(22,[]),(23,[]),(24,[]),(25,[]),(26,[]),(26,[]),(26,[27]),(29,[]),(30,[]),(26,[]),(32,[]),(33,[]),(34,[]),(35,[])],[]⟩else⟨[],[],[],[]⟩
def Ee:az:=⟨[4],KR,HC⟩
theorem adY:aA PP Ee Tryz.f180.ntmps (ai Tryz.f180)=true:=by kernel_rfl
def KT (i:Nat):List Nat:=if i<1 then[0,1,2]else[6]
def Ef:az:=⟨[],KT,aX⟩
theorem Of:aA PP Ef Tryz.f181.ntmps (ai Tryz.f181)=true:=by kernel_rfl
def KU (i:Nat):List Nat:=if i<3 then if i<1 then[0,1]else if i<2 then[0,1,5]else[0,1,5,9]else if i<5 then if i<4 then[0,1,5]else[0,1,5,35]else if i<6 then[4]else[4]
def HE (i:Nat):cf:=if i=4 then⟨[],[0,1,2,3,4,5,6,7,8,9,10,11,12,13,14,15,16,17,18,19,20,21,22,23],[(0,[]),(0,[]),(2,[]),(3,[]),(0,[]),(0,[4]),(6,[]),(7,[]),(8,[]),(9,[]),(10,[]),(11,[]),(12,[]),(12,[]),(14,[]),(15,[]),(12,[]),(12,[]),(12,[17]),(12,[16,17,18]),(12,[16,17,18,19]),(21,[]),(22,[]),(23,[])],[]⟩else⟨[],[],[],[]⟩
def Eh:az:=⟨[],KU,HE⟩
theorem adZ:aA PP Eh Tryz.f182.ntmps (ai Tryz.f182)=true:=by kernel_rfl
def KV (i:Nat):List Nat:=if i<3 then if i<1 then[0]else if i<2 then[0,3]else[0,3,7]else if i<5 then if i<4 then[0,3]else[0,3,34]else if i<6 then[2]else[2]
def Ej:az:=⟨[],KV,aX⟩
theorem aea:aA PP Ej Tryz.f183.ntmps (ai Tryz.f183)=true:=by kernel_rfl
def KW (i:Nat):List Nat:=if i<1 then[2,3]else[4]
def El:az:=⟨[2,3],KW,aX⟩
theorem aeb:aA PP El Tryz.f188.ntmps (ai Tryz.f188)=true:=by kernel_rfl
def Lc (i:Nat):List Nat:=if i<3 then if i<1 then[0]else if i<2 then[0,3]else[0,3,4]else if i<5 then if i<4 then[3,4,7]else[3,4]else if i<6 then[0,3,4]else[2]
def Eo:az:=⟨[],Lc,aX⟩
theorem aee:aA PP Eo Tryz.f202.ntmps (ai Tryz.f202)=true:=by kernel_rfl
def Ld (i:Nat):List Nat:=if i<2 then if i<1 then[0]else[0,4]else if i<3 then[2]else[2]
def Ep:az:=⟨[],Ld,aX⟩
theorem aef:aA PP Ep Tryz.f203.ntmps (ai Tryz.f203)=true:=by kernel_rfl
def Le (i:Nat):List Nat:=if i<1 then[1,2]else[2,3]
def HJ (i:Nat):cf:=if i=1 then⟨[],[0,1,4,2,3,5,6,7],[(0,[]),(0,[]),(0,[1]),(3,[]),(0,[]),(0,[1,2,4]),(6,[]),(7,[])],[]⟩else⟨[],[],[],[]⟩
def Es:az:=⟨[1,2],Le,HJ⟩
theorem aeg:aA PP Es Tryz.f204.ntmps (ai Tryz.f204)=true:=by kernel_rfl
def Lf (i:Nat):List Nat:=if i<3 then if i<1 then[2,3,4]else if i<2 then[2,3,4,12]else[6,7]else if i<5 then if i<4 then[3,4,8,9]else[8,33]else if i<6 then[6,7]else[6,7]
def Et:az:=⟨[3,4],Lf,aX⟩
theorem aeh:aA PP Et Tryz.f205.ntmps (ai Tryz.f205)=true:=by kernel_rfl
def Lg (i:Nat):List Nat:=if i<9 then if i<4 then if i<2 then if i<1 then[1,2,3]else[1,8,9]else if i<3 then[1,8,24]else[6,7]else if i<6 then if i<5 then[1,8,10]else[1,8,10,29,30]else if i<7 then[1,8,10,29,30,31]else if i<8 then[1,8,10,11,29,30]else[1,8,10,11,12,13,29,30]else if i<13 then if i<11 then if i<10 then[1,8,10,11,12,29,30,40]else[1,8,10,29,30]else if i<12 then[1,8,10,11,29,30]else[1,8,10,11,29,30,58]else if i<15 then if i<14 then[1,8,10,11,29,30,58,60]else[1,8,10,11,14,15,29,30,58]else if i<16 then[1,8,10,11,29,30,58]else if i<17 then[1,8,10,29,30]else[6,7]
def HK (i:Nat):cf:=if i=11 then⟨[],[0,1,2,3,4,5,6,7,8,9,10],[(0,[]),(0,[]),(0,[]),(0,[2]),(0,[]),(0,[]),(0,[4,5]),(0,[4,5,6]),(0,[2,3,4,5,6,7]),(9,[]),(10,[])],[]⟩else if i=15 then⟨[],[0,1,2,3,4,5,6,7,8,9,10,11,12],[(0,[]),(0,[]),(0,[]),(0,[]),(0,[]),(0,[3,4]),(0,[3,4,5]),(0,[]),(0,[]),(0,[]),(0,[2,3,4,5,6,7,8,9]),(11,[]),(12,[])],[]⟩else⟨[],[],[],[]⟩
def Eu:az:=⟨[3,8],Lg,HK⟩
theorem aei:aA PP Eu Tryz.f206.ntmps (ai Tryz.f206)=true:=by kernel_rfl
def Lh (i:Nat):List Nat:=if i<7 then if i<3 then if i<1 then[1,2,3]else if i<2 then[1,2,15]else[6]else if i<5 then if i<4 then[2,7]else[2,7,20,21]else if i<6 then[2,7,20,21,22]else[2,7,8,20,21]else if i<11 then if i<9 then if i<8 then[2,7,20,21]else[2,7,20,21]else if i<10 then[7,28,29,30]else[7,28,29,30,31]else if i<13 then if i<12 then[7,10,28,29,30]else[7,28,29,30]else if i<14 then[7,28,29,30]else[6]
def Ev:az:=⟨[3,10],Lh,aX⟩
theorem aej:aA PP Ev Tryz.f207.ntmps (ai Tryz.f207)=true:=by kernel_rfl
def Li (i:Nat):List Nat:=if i<5 then if i<2 then if i<1 then[0]else[0,3]else if i<3 then[0,3,15]else if i<4 then[0,3,4]else[0,3,4,36]else if i<8 then if i<6 then[0,3]else if i<7 then[0,3]else[0,4]else if i<9 then[0]else if i<10 then[0,3]else[2]
def HN (i:Nat):cf:=if i=3 then⟨[],[0,1,2,3,4,5,6,7,8,9,10,11],[(0,[]),(1,[]),(2,[]),(3,[]),(0,[]),(0,[4]),(0,[4,5]),(0,[4,5,6]),(0,[4,5,6,7]),(0,[4,5,6,7,8]),(10,[]),(11,[])],[]⟩else if i=4 then⟨[],[0,1,2,3,4,5,6,7,8,9],[(0,[]),(1,[]),(2,[]),(3,[]),(0,[]),(0,[4]),(0,[4,5]),(0,[4,5,6]),(0,[4,5,6,7]),(9,[])],[]⟩else if i=5 then⟨[],[0,1,2,3,4,5,6,7,8,9,10,11,12,13,14],[(0,[]),(0,[]),(0,[1]),(0,[1,2]),(0,[1,2,3]),(0,[]),(0,[5]),(0,[5,6]),(0,[5,6,7]),(0,[5,6,7,8]),(0,[5,6,7,8,9]),(0,[1,2,3,4,5,6,7,8,9,10]),(12,[]),(13,[]),(14,[])],[]⟩else if i=8 then⟨[],[0,1,2,3,4,5,6,7,8,9,10,11,12,13,14,15],[(0,[]),(1,[]),(2,[]),(3,[]),(0,[]),(0,[4]),(0,[4,5]),(0,[4,5,6]),(0,[]),(0,[8]),(0,[8,9]),(0,[8,9,10]),(0,[8,9,10,11]),(0,[4,5,6,7,8,9,10,11,12]),(0,[4,5,6,7,8,9,10,11,12,13]),(15,[])],[]⟩else⟨[],[],[],[]⟩
def Ew:az:=⟨[],Li,HN⟩
theorem aek:aA PP Ew Tryz.f208.ntmps (ai Tryz.f208)=true:=by kernel_rfl
def Lj (i:Nat):List Nat:=if i<1 then[0]else[2]
def Ey:az:=⟨[],Lj,aX⟩
theorem ael:aA PP Ey Tryz.f209.ntmps (ai Tryz.f209)=true:=by kernel_rfl
def Ll (i:Nat):List Nat:=if i<5 then if i<2 then if i<1 then[1,2]else[1,2,5]else if i<3 then[1,2,5,11]else if i<4 then[1,2,5]else[1,2,5,16,17,18]else if i<8 then if i<6 then[1,2,5,16,17,18,19]else if i<7 then[1,2,5,6,7,16,17,18]else[1,2,5,6,16,17,18,35]else if i<9 then[1,2,5,16,17,18]else if i<10 then[1,2,5,16,17,18]else[4]
def HO (i:Nat):cf:=if i=7 then⟨[],[0,1,2,3,4,5,6,7,8,9,10,11,12],[(0,[]),(1,[]),(0,[]),(3,[]),(4,[]),(0,[]),(0,[5]),(0,[]),(0,[7]),(0,[5,6,7,8]),(0,[]),(0,[10]),(12,[])],[]⟩else⟨[],[],[],[]⟩
def EC:az:=⟨[2,7],Ll,HO⟩
theorem aen:aA PP EC Tryz.f210.ntmps (ai Tryz.f210)=true:=by kernel_rfl
def Lm (i:Nat):List Nat:=if i<5 then if i<2 then if i<1 then[0,1]else[0,1,8]else if i<3 then[0,1,12]else if i<4 then[4]else[0,1,12,14]else if i<7 then if i<6 then[0,1]else[0,1,18]else if i<8 then[0,1,29]else if i<9 then[0,1]else[4]
def EI:az:=⟨[],Lm,aX⟩
theorem aeo:aA PP EI Tryz.f211.ntmps (ai Tryz.f211)=true:=by kernel_rfl
def Lp (i:Nat):List Nat:=if i<1 then[0,1,2,4]else[4]
def EJ:az:=⟨[4],Lp,aX⟩
theorem aep:aA PP EJ Tryz.f212.ntmps (ai Tryz.f212)=true:=by kernel_rfl
def vx (i:Nat):List Nat:=if i<8 then if i<4 then if i<2 then if i<1 then[0]else[0,3]else if i<3 then[0,3,4]else[0,3,6]else if i<6 then if i<5 then[0,3,8]else[0,3,10]else if i<7 then[0,3,12]else[0,14]else if i<12 then if i<10 then if i<9 then[2]else[2]else if i<11 then[2]else[2]else if i<14 then if i<13 then[0,16]else[2]else if i<15 then[23]else if i<16 then[2]else[2]
def va:az:=⟨[],vx,aX⟩
theorem aeq:aA PP va Tryz.f213.ntmps (ai Tryz.f213)=true:=by kernel_rfl
def Lq (i:Nat):List Nat:=if i<2 then if i<1 then[0,1,2]else[0,1,2,18]else if i<3 then[0,1,2]else[6]
def EK:az:=⟨[],Lq,aX⟩
theorem aer:aA PP EK Tryz.f214.ntmps (ai Tryz.f214)=true:=by kernel_rfl
def Lr (i:Nat):List Nat:=if i<7 then if i<3 then if i<1 then[0,1]else if i<2 then[0,1,7]else[0,1,7,16]else if i<5 then if i<4 then[0,1,7]else[0,1,7,8]else if i<6 then[0,1,7,8,9]else[0,1,7,8,9,26]else if i<11 then if i<9 then if i<8 then[0,1,7,8,9,26,27,28]else[0,1,7,8,9,11,26]else if i<10 then[0,1,7,8,9,26]else[0,1,7,8,9,39]else if i<13 then if i<12 then[0,1,7,8,9]else[0,1,8,9,52]else if i<14 then[4,5,6]else[4,5,6]
def EL:az:=⟨[],Lr,aX⟩
theorem aes:aA PP EL Tryz.f215.ntmps (ai Tryz.f215)=true:=by kernel_rfl
def Ls (i:Nat):List Nat:=if i<8 then if i<4 then if i<2 then if i<1 then[0]else[0,4]else if i<3 then[4,5]else[4,5,6]else if i<6 then if i<5 then[4,5,6]else[4,5,6]else if i<7 then[2,3]else[4,5,11]else if i<12 then if i<10 then if i<9 then[2,3]else[4,5,14]else if i<11 then[2,3]else[5,18]else if i<14 then if i<13 then[2,3]else[21]else if i<15 then[2,3]else[2,3]
def EO:az:=⟨[],Ls,aX⟩
theorem aet:aA PP EO Tryz.f216.ntmps (ai Tryz.f216)=true:=by kernel_rfl
def Lt (i:Nat):List Nat:=if i<3 then if i<1 then[0]else if i<2 then[3]else[3,4]else if i<5 then if i<4 then[2]else[6]else if i<6 then[2]else[2]
def EP:az:=⟨[],Lt,aX⟩
theorem aeu:aA PP EP Tryz.f217.ntmps (ai Tryz.f217)=true:=by kernel_rfl
def Lu (i:Nat):List Nat:=if i<4 then if i<2 then if i<1 then[0,1]else[0,1,7,8]else if i<3 then[0,1,7,8,9]else[0,1,5,7,8]else if i<6 then if i<5 then[0,1,5,7,8,16]else[4]else if i<7 then[0,1,7,8]else[4]
def ER:az:=⟨[],Lu,aX⟩
theorem Og:aA PP ER Tryz.f218.ntmps (ai Tryz.f218)=true:=by kernel_rfl
def Lz (i:Nat):List Nat:=if i<5 then if i<2 then if i<1 then[2,4,5,6,8]else[2,4,5,6,8,11]else if i<3 then[2,4,5,6,8,11,19]else if i<4 then[2,4,5,6,8,11]else[2,4,5,6,8,11,12]else if i<7 then if i<6 then[2,4,5,6,8,11,12,28]else[2,4,5,6,8,11,12]else if i<8 then[2,4,5,6,8,11,12,51]else if i<9 then[10]else[10]
def HS (i:Nat):cf:=if i=7 then⟨[],[0,1,2,3,4,5,6,7,8,9,10,11,12,13,14,15,16,17,18,19,20],[(0,[]),(0,[]),(2,[]),(3,[]),(4,[]),(5,[]),(6,[]),(4,[]),(8,[]),(9,[]),(4,[]),(4,[10]),(4,[10,11]),(4,[]),(4,[10,11,12,13]),(4,[10,11,12,13,14]),(4,[]),(4,[16]),(4,[16,17]),(19,[]),(20,[])],[]⟩else⟨[],[],[],[]⟩
def EW:az:=⟨[5,6,8],Lz,HS⟩
theorem aez:aA PP EW Tryz.f222.ntmps (ai Tryz.f222)=true:=by kernel_rfl
def LA (i:Nat):List Nat:=if i<8 then if i<4 then if i<2 then if i<1 then[1,2,3]else[1,2,3,7,8]else if i<3 then[1,2,3,19]else[6]else if i<6 then if i<5 then[1,2,3,29]else[6]else if i<7 then[1,2,3,10]else[1,2,3,51]else if i<12 then if i<10 then if i<9 then[6]else[1,2,3,52,53]else if i<11 then[1,2,3,52,53,54]else[1,2,3,11,52,53]else if i<14 then if i<13 then[1,2,3,52,53,84]else[6]else if i<15 then[1,2,3,52,53]else[6]
def HU (i:Nat):cf:=if i=6 then⟨[],[0,1,2,3,4,5,6,7,8,9,10,11,12,13,14,15,16],[(0,[]),(1,[]),(0,[]),(0,[2]),(0,[]),(0,[2,3,4]),(0,[2,3,4,5]),(0,[]),(0,[]),(0,[7,8]),(0,[7,8,9]),(11,[]),(12,[]),(13,[]),(13,[]),(14,[]),(16,[])],[]⟩else if i=12 then⟨[],[0,1,2,3,4,5,6,7,8,9,10,11,12,13,14,15,16,17,18,19,20,21,22,23,24,25,26,27,28],[(0,[]),(0,[]),(2,[]),(3,[]),(4,[]),(5,[]),(6,[]),(7,[]),(6,[]),(6,[8]),(6,[]),(6,[8,9,10]),(6,[8,9,10,11]),(6,[]),(6,[]),(6,[13,14]),(6,[13,14,15]),(6,[]),(6,[17]),(6,[]),(6,[17,18,19]),(6,[17,18,19,20]),(6,[]),(6,[]),(6,[22,23]),(6,[22,23,24]),(26,[]),(27,[]),(28,[])],[]⟩else⟨[],[],[],[]⟩
def EX:az:=⟨[3],LA,HU⟩
theorem aeA:aA PP EX Tryz.f223.ntmps (ai Tryz.f223)=true:=by kernel_rfl
def LB (i:Nat):List Nat:=if i<3 then if i<1 then[1]else if i<2 then[1,4]else[1,4,5]else if i<5 then if i<4 then[1,4,7]else[1,9]else if i<6 then[2]else[2]
def EY:az:=⟨[1],LB,aX⟩
theorem aeB:aA PP EY Tryz.f224.ntmps (ai Tryz.f224)=true:=by kernel_rfl
def LC (i:Nat):List Nat:=if i<1 then[0]else[2]
def EZ:az:=⟨[],LC,aX⟩
theorem aeC:aA PP EZ Tryz.f225.ntmps (ai Tryz.f225)=true:=by kernel_rfl
def LD (i:Nat):List Nat:=if i<1 then[0]else[2]
def Fb:az:=⟨[],LD,aX⟩
theorem Oh:aA PP Fb Tryz.f229.ntmps (ai Tryz.f229)=true:=by kernel_rfl
def LG (i:Nat):List Nat:=if i<2 then if i<1 then[1,2,3,4]else[2,3,27]else if i<3 then[8,9]else[8,9]
def Fe:az:=⟨[4],LG,aX⟩
theorem aeE:aA PP Fe Tryz.f245.ntmps (ai Tryz.f245)=true:=by kernel_rfl
def LH (i:Nat):List Nat:=if i<9 then if i<4 then if i<2 then if i<1 then[2,3,4]else[2,4,7]else if i<3 then[2,4,7,8,9]else[2,7,8,9,13,14]else if i<6 then if i<5 then[2,7,8,9,13,14,15]else[2,7,8,9,10,13,14]else if i<7 then[2,7,8,9,10,13,14,19]else if i<8 then[2,7,8,9,10,13,14,19,20]else[2,7,8,9,10,13,14]else if i<13 then if i<11 then if i<10 then[2,7,8,9,13,14,35]else[6]else if i<12 then[2,7,8,9,13,14,36]else[2,7,8,9,13,14]else if i<15 then if i<14 then[2,7,8,9,13,14]else[2,8,41]else if i<16 then[48]else if i<17 then[6]else[6]
def Ff:az:=⟨[],LH,aX⟩
theorem aeF:aA PP Ff Tryz.f246.ntmps (ai Tryz.f246)=true:=by kernel_rfl
def LI (i:Nat):List Nat:=if i<5 then if i<2 then if i<1 then[2,3]else[2,3,5]else if i<3 then[2,3,5,12,13]else if i<4 then[2,3,5,12,13,14]else[2,3,5,6,12,13]else if i<7 then if i<6 then[2,3,5,6,8,12,13]else[2,3,5,6,12,13,23]else if i<8 then[2,3,5,12,13]else if i<9 then[2,3,5,12,13]else[4]
def Fg:az:=⟨[2,3],LI,aX⟩
theorem aeG:aA PP Fg Tryz.f247.ntmps (ai Tryz.f247)=true:=by kernel_rfl
def LJ (i:Nat):List Nat:=if i<4 then if i<2 then if i<1 then[1,2,3,4,5]else[1,2,3,4,5,11]else if i<3 then[2,3,4,5,11,14,15,16]else[2,3,4,5,11,14,15,16,17]else if i<6 then if i<5 then[2,3,4,5,11,13,14,15,16]else[2,3,4,5,11,13,14,15,16,34]else if i<7 then[2,3,4,5,11,14,15,16]else if i<8 then[2,3,4,5,11,14,15,16]else[10]
def HW (i:Nat):cf:=if i=5 then⟨[],[0,1,2,3,4,5,6,7,8,9,10,11,12,13,14],[(0,[]),(1,[]),(0,[]),(0,[2]),(0,[]),(0,[2,3,4]),(0,[2,3,4,5]),(0,[]),(0,[]),(0,[8]),(0,[]),(0,[8,9,10]),(0,[8,9,10,11]),(0,[]),(14,[])],[]⟩else⟨[],[],[],[]⟩
def Fh:az:=⟨[5],LJ,HW⟩
theorem aeH:aA PP Fh Tryz.f248.ntmps (ai Tryz.f248)=true:=by kernel_rfl
def LK (i:Nat):List Nat:=if i<1 then[1,2,3]else if i<2 then[8]else[6]
def Fi:az:=⟨[3,7],LK,aX⟩
theorem aeI:aA PP Fi Tryz.f249.ntmps (ai Tryz.f249)=true:=by kernel_rfl
def LL (i:Nat):List Nat:=if i<7 then if i<3 then if i<1 then[0]else if i<2 then[0,13]else[2]else if i<5 then if i<4 then[0]else[0]else if i<6 then[]else[0,39]else if i<11 then if i<9 then if i<8 then[0,3]else[0,3,61]else if i<10 then[0]else[]else if i<13 then if i<12 then[0,80]else[0]else if i<14 then[]else[2]
def HX (i:Nat):cf:=if i=1 then⟨[],[0,1,2,3,4,5,6,7,8,9],[(0,[]),(1,[]),(2,[]),(3,[]),(4,[]),(0,[]),(0,[5]),(0,[5,6]),(0,[5,6,7]),(9,[])],[]⟩else if i=6 then⟨[],[0,1,2,3,5,6,7,8,9,4,10,11],[(0,[]),(1,[]),(2,[]),(3,[]),(4,[]),(0,[]),(0,[5]),(0,[5,6]),(0,[5,6,7]),(0,[5,6,7,8]),(10,[]),(11,[])],[]⟩else if i=11 then⟨[],[0,1,2,3,5,6,7,8,4,9,10],[(0,[]),(1,[]),(2,[]),(3,[]),(4,[]),(0,[]),(0,[5]),(0,[5,6]),(0,[5,6,7]),(9,[]),(10,[])],[]⟩else if i=12 then⟨[],[0,1,2,3,4,5,6,7,8,9,10,11,12,13,14,15],[(0,[]),(0,[]),(0,[1]),(0,[1,2]),(0,[1,2,3]),(0,[]),(0,[5]),(0,[5,6]),(0,[5,6,7]),(0,[5,6,7,8]),(0,[5,6,7,8,9]),(0,[5,6,7,8,9,10]),(0,[1,2,3,4,5,6,7,8,9,10,11]),(13,[]),(14,[]),(15,[])],[]⟩else⟨[],[],[],[]⟩
def Fj:az:=⟨[],LL,HX⟩
theorem aeJ:aA PP Fj Tryz.f250.ntmps (ai Tryz.f250)=true:=by kernel_rfl
def LM (i:Nat):List Nat:=if i<2 then if i<1 then[0]else[0,5]else if i<3 then[2]else if i<4 then[]else[2]
def HY (i:Nat):cf:=if i=3 then⟨[],[0,1,2,3,4,5,6,7,8,9,10,11,12,13,14,15,16,17,18,19,20,21,22,23,24,25,26,27,28,29],[(0,[]),(0,[]),(0,[]),(0,[2]),(0,[2,3]),(0,[2,3,4]),(0,[]),(0,[6]),(0,[6,7]),(0,[6,7,8]),(0,[6,7,8,9]),(0,[6,7,8,9,10]),(0,[2,3,4,5,6,7,8,9,10,11]),(0,[]),(0,[13]),(0,[13,14]),(0,[13,14,15]),(0,[]),(0,[17]),(0,[17,18]),(0,[17,18,19]),(0,[17,18,19,20]),(0,[17,18,19,20,21]),(0,[13,14,15,16,17,18,19,20,21,22]),(1,[2,3,4,5,6,7,8,9,10,11,12,13,14,15,16,17,18,19,20]),(1,[2,3,4,5,6,7,8,9,10,11,12,13,14,15,16,17,18,19,20,24]),(1,[2,3,4,5,6,7,8,9,10,11,12,13,14,15,16,17,18,19,20,24,25]),(27,[]),(28,[]),(29,[])],[]⟩else⟨[],[],[],[]⟩
def Fk:az:=⟨[],LM,HY⟩
theorem aeK:aA PP Fk Tryz.f251.ntmps (ai Tryz.f251)=true:=by kernel_rfl
def LO (i:Nat):List Nat:=if i<7 then if i<3 then if i<1 then[0,1]else if i<2 then[0,1,5]else[0,1,5,36]else if i<5 then if i<4 then[4]else[0,1,5,6]else if i<6 then[0,1,5,6]else[0,1,5,6,44]else if i<10 then if i<8 then[0,1,5,6]else if i<9 then[0,1,5,6,7]else[0,1,5,6,7,55]else if i<12 then if i<11 then[0,1,5,6,7]else[0,1,5,6,7]else if i<13 then[]else[4]
def HZ (i:Nat):cf:=if i=11 then⟨[],[0,1,2,3,4,5,6,7,8,9,10,11,12,13,14,15],[(0,[]),(0,[]),(0,[]),(0,[2]),(0,[2,3]),(0,[2,3,4]),(0,[]),(0,[]),(0,[6,7]),(0,[6,7,8]),(0,[]),(0,[]),(0,[]),(0,[2,3,4,5,6,7,8,9,10,11,12]),(14,[]),(15,[])],[]⟩else if i=12 then⟨[],[0,1,2,3,4,5,6,9,10,11,12,13,7,8,14,15,16,17,18,19,20,21],[(0,[]),(0,[]),(0,[]),(0,[2]),(0,[2,3]),(0,[2,3,4]),(0,[]),(0,[6]),(0,[2,3,4,5,6,7]),(0,[]),(0,[9]),(0,[9,10]),(0,[9,10,11]),(0,[]),(0,[13]),(0,[2,3,4,5,6,7,8,9,10,11,12,13,14]),(1,[2,3,4,5,6,7,8,9,10,11,12,13,14,15]),(1,[2,3,4,5,6,7,8,9,10,11,12,13,14,15,16]),(1,[2,3,4,5,6,7,8,9,10,11,12,13,14,15,16,17]),(19,[]),(20,[]),(21,[])],[[0,1,2,3,4,5,6,9,10,11,12,13,7,14,8,15,16,17,18,19,20,21],[0,1,2,3,4,5,6,9,10,11,12,13,14,7,8,15,16,17,18,19,20,21]]⟩else⟨[],[],[],[]⟩
def Fl:az:=⟨[],LO,HZ⟩
theorem aeL:aA PP Fl Tryz.f252.ntmps (ai Tryz.f252)=true:=by kernel_rfl
def LP (i:Nat):List Nat:=if i<1 then[0,1]else[4]
def Fm:az:=⟨[],LP,aX⟩
theorem aeM:aA PP Fm Tryz.f253.ntmps (ai Tryz.f253)=true:=by kernel_rfl
def LQ (i:Nat):List Nat:=if i<1 then[1]else[2]
def Fo:az:=⟨[1],LQ,aX⟩
theorem aeN:aA PP Fo Tryz.f254.ntmps (ai Tryz.f254)=true:=by kernel_rfl
def LR (i:Nat):List Nat:=if i<1 then[2,3,4]else[6]
def Fp:az:=⟨[3,4],LR,aX⟩
theorem aeO:aA PP Fp Tryz.f255.ntmps (ai Tryz.f255)=true:=by kernel_rfl
def LS (i:Nat):List Nat:=if i<1 then[0]else[2]
def Fq:az:=⟨[],LS,aX⟩
theorem aeP:aA PP Fq Tryz.f256.ntmps (ai Tryz.f256)=true:=by kernel_rfl
def LU (i:Nat):List Nat:=if i<1 then[0]else[2]
def Fs:az:=⟨[],LU,aX⟩
theorem aeQ:aA PP Fs Tryz.f257.ntmps (ai Tryz.f257)=true:=by kernel_rfl
def LY (i:Nat):List Nat:=if i<2 then if i<1 then[1,2,3,4]else[1,2,3,4,9]else if i<3 then[1,2,3,4,9,32]else if i<4 then[1,2,3,4,9]else[8]
def Fw:az:=⟨[4],LY,aX⟩
theorem aeU:aA PP Fw Tryz.f284.ntmps (ai Tryz.f284)=true:=by kernel_rfl
def LZ (i:Nat):List Nat:=if i<4 then if i<2 then if i<1 then[0,1]else[0,1,5]else if i<3 then[0,5,7,8]else[0,5,7,8,9]else if i<6 then if i<5 then[0,5,6,7,8]else[0,5,7,8]else if i<7 then[0,5,7,8]else[4]
def Fx:az:=⟨[],LZ,aX⟩
theorem aeV:aA PP Fx Tryz.f285.ntmps (ai Tryz.f285)=true:=by kernel_rfl
def L4 (i:Nat):List Nat:=if i<2 then if i<1 then[0,1,2]else[0,1,2,12]else if i<3 then[4]else[4]
def Ic (i:Nat):cf:=if i=3 then⟨[],[0,1,2,3,4,5,6,7,8,9,10],[(0,[]),(1,[]),(2,[]),(0,[]),(0,[]),(0,[3,4]),(0,[3,4,5]),(7,[]),(8,[]),(9,[]),(10,[])],[]⟩else⟨[],[],[],[]⟩
def Fy:az:=⟨[],L4,Ic⟩
theorem aeW:aA PP Fy Tryz.f286.ntmps (ai Tryz.f286)=true:=by kernel_rfl
def L7 (i:Nat):List Nat:=if i<2 then if i<1 then[0]else[0,4]else if i<3 then[2]else[2]
def Fz:az:=⟨[],L7,aX⟩
theorem aeX:aA PP Fz Tryz.f287.ntmps (ai Tryz.f287)=true:=by kernel_rfl
def L8 (i:Nat):List Nat:=if i<5 then if i<2 then if i<1 then[0]else[0,7]else if i<3 then[2]else if i<4 then[0,3]else[0,3,9,10,11]else if i<8 then if i<6 then[0,3,9,10,11,12]else if i<7 then[0,3,4,5,9,10,11]else[0,3,4,9,10,11,18]else if i<9 then[0,3,9,10,11]else if i<10 then[0,3,9,10,11]else[2]
def FA:az:=⟨[],L8,aX⟩
theorem aeY:aA PP FA Tryz.f288.ntmps (ai Tryz.f288)=true:=by kernel_rfl
def L9 (i:Nat):List Nat:=if i<2 then if i<1 then[0]else[0,4]else if i<3 then[2]else[2]
def FC:az:=⟨[],L9,aX⟩
theorem aeZ:aA PP FC Tryz.f289.ntmps (ai Tryz.f289)=true:=by kernel_rfl
def Ma (i:Nat):List Nat:=if i<3 then if i<1 then[0]else if i<2 then[0,3]else[0,3,4]else if i<4 then[4,13]else if i<5 then[4]else[2]
def FD:az:=⟨[],Ma,aX⟩
theorem afa:aA PP FD Tryz.f290.ntmps (ai Tryz.f290)=true:=by kernel_rfl
def Mb (i:Nat):List Nat:=if i<2 then if i<1 then[0,1]else[0,1,5]else if i<3 then[0,1,8]else if i<4 then[4]else[4]
def FE:az:=⟨[],Mb,aX⟩
theorem afb:aA PP FE Tryz.f291.ntmps (ai Tryz.f291)=true:=by kernel_rfl
def Mc (i:Nat):List Nat:=if i<2 then if i<1 then[0,1]else[0,1,10]else if i<3 then[4]else if i<4 then[6]else[4]
def FF:az:=⟨[],Mc,aX⟩
theorem afc:aA PP FF Tryz.f292.ntmps (ai Tryz.f292)=true:=by kernel_rfl
def Md (i:Nat):List Nat:=if i<1 then[0]else[2]
def Ie (i:Nat):cf:=if i=1 then⟨[],[0,1,2,3,4,5,6,7,8,9,10,11,12],[(0,[]),(1,[]),(2,[]),(3,[]),(0,[]),(0,[4]),(0,[4,5]),(0,[4,5,6]),(0,[4,5,6,7]),(0,[4,5,6,7,8]),(10,[]),(11,[]),(12,[])],[]⟩else⟨[],[],[],[]⟩
def FG:az:=⟨[],Md,Ie⟩
theorem afd:aA PP FG Tryz.f293.ntmps (ai Tryz.f293)=true:=by kernel_rfl
def Me (i:Nat):List Nat:=if i<2 then if i<1 then[0]else[0,4]else if i<3 then[2]else[2]
def FH:az:=⟨[],Me,aX⟩
theorem afe:aA PP FH Tryz.f294.ntmps (ai Tryz.f294)=true:=by kernel_rfl
def Mf (i:Nat):List Nat:=if i<4 then if i<2 then if i<1 then[0,1]else[0,1,7,8]else if i<3 then[0,1,7,8,9]else[0,1,5,7,8]else if i<6 then if i<5 then[0,1,5,7,8,16]else[4]else if i<7 then[0,1,7,8]else[4]
def FI:az:=⟨[],Mf,aX⟩
theorem aff:aA PP FI Tryz.f295.ntmps (ai Tryz.f295)=true:=by kernel_rfl
def Mg (i:Nat):List Nat:=if i<4 then if i<2 then if i<1 then[2,3]else[2,3,11,12,13]else if i<3 then[2,3,11,12,13,14]else[2,3,6,11,12,13]else if i<6 then if i<5 then[2,3,11,12,13,26]else[4]else if i<7 then[2,3,11,12,13]else if i<8 then[7,8]else[4]
def Ih (i:Nat):cf:=if i=7 then⟨[],[0,1,2,3,4,5,6,7,8,9,10,11],[(0,[]),(1,[]),(0,[]),(0,[2]),(4,[]),(0,[]),(0,[5]),(0,[]),(0,[7]),(0,[5,6,7,8]),(5,[]),(11,[])],[]⟩else⟨[],[],[],[]⟩
def FJ:az:=⟨[2,3,6],Mg,Ih⟩
theorem afg:aA PP FJ Tryz.f296.ntmps (ai Tryz.f296)=true:=by kernel_rfl
def Mi (i:Nat):List Nat:=if i<3 then if i<1 then[1,2,3]else if i<2 then[1,2,3,7]else[1,2,10]else if i<4 then[1,2,16]else if i<5 then[6]else[6]
def FM:az:=⟨[3],Mi,aX⟩
theorem afi:aA PP FM Tryz.f310.ntmps (ai Tryz.f310)=true:=by kernel_rfl
def Mj (i:Nat):List Nat:=if i<1 then[1,2]else[4]
def Ii (i:Nat):cf:=if i=1 then⟨[],[0,1,2,3,4,5,6,7,8,9,10,11,12,13,14,15,16,17,18,19,20,21,22,23,24,25,26,27,28,29,30,31,32,33,34,35,36,37,38,39,40,41,42,43,44,45],[(0,[]),(1,[]),(2,[]),(3,[]),(3,[]),(3,[4]),(3,[4,5]),(3,[4,5,6]),(8,[]),(9,[]),(10,[]),(11,[]),(12,[]),(11,[]),(11,[13]),(15,[]),(16,[]),(17,[]),(11,[]),(11,[18]),(11,[]),(11,[18,19,20]),(11,[18,19,20,21]),(11,[18,19,20,21,22]),(24,[]),(25,[]),(26,[]),(27,[]),(28,[]),(27,[]),(27,[29]),(31,[]),(32,[]),(33,[]),(27,[]),(27,[34]),(27,[]),(27,[34,35,36]),(27,[34,35,36,37]),(27,[34,35,36,37,38]),(40,[]),(27,[]),(27,[41]),(43,[]),(44,[]),(45,[])],[]⟩else⟨[],[],[],[]⟩
def FN:az:=⟨[2],Mj,Ii⟩
theorem afj:aA PP FN Tryz.f311.ntmps (ai Tryz.f311)=true:=by kernel_rfl
def Mk (i:Nat):List Nat:=if i<2 then if i<1 then[0,1]else[0,1,8]else if i<3 then[4]else[4]
def FO:az:=⟨[],Mk,aX⟩
theorem afk:aA PP FO Tryz.f312.ntmps (ai Tryz.f312)=true:=by kernel_rfl
theorem alP:PP.underlying 2=some (.int .i64):=by kernel_rfl
theorem uG:cW PP 2=some 1:=by kernel_rfl
theorem Tv:dU PP 2=some false:=by kernel_rfl
theorem Qc:PP.underlying 3=some (.int .i64):=by kernel_rfl
theorem akN:cW PP 3=some 1:=by kernel_rfl
theorem px:PP.cellsOf 3=1:=by kernel_rfl
theorem zt:jk PP 3=some 8:=by kernel_rfl
theorem TH:dU PP 3=some false:=by kernel_rfl
theorem BL:dR PP 3=some [(.int .i64 0)]:=by kernel_rfl
theorem alZ:PP.underlying 4=some .bool:=by kernel_rfl
theorem akU:cW PP 4=some 1:=by kernel_rfl
theorem GP:PP.cellsOf 4=1:=by kernel_rfl
theorem CH:jk PP 4=some 1:=by kernel_rfl
theorem TO:dU PP 4=some false:=by kernel_rfl
theorem Q8:dR PP 4=some [(.bool false)]:=by kernel_rfl
theorem al0:PP.underlying 5=some (.int .u8):=by kernel_rfl
theorem al4:PP.underlying 9=some .string:=by kernel_rfl
theorem ak5:cW PP 9=some 1:=by kernel_rfl
theorem GU:PP.cellsOf 9=1:=by kernel_rfl
theorem CL:jk PP 9=some 16:=by kernel_rfl
theorem TY:dU PP 9=some false:=by kernel_rfl
theorem Re:dR PP 9=some [(.string {data:=#[]})]:=by kernel_rfl
theorem alS:PP.underlying 21=some (.int .i32):=by kernel_rfl
theorem PZ:PP.underlying 22=some (.slice 3):=by kernel_rfl
theorem akD:cW PP 22=some 1:=by kernel_rfl
theorem Wn:PP.cellsOf 22=1:=by kernel_rfl
theorem Vd:jk PP 22=some 24:=by kernel_rfl
theorem Tx:dU PP 22=some false:=by kernel_rfl
theorem amN:dR PP 22=some [(.slice none 0 0)]:=by kernel_rfl
theorem IT:fW PP 22=some (3,1):=by kernel_rfl
theorem alT:PP.underlying 23=some (.slice 31):=by kernel_rfl
theorem Xk:fW PP 23=some (31,5):=by kernel_rfl
theorem P8:PP.underlying 26=some (.pointer 77):=by kernel_rfl
theorem Qa:PP.underlying 29=some (.struct #[⟨ "Size",3,0,false,"","",0⟩,⟨ "Wheels",3,1,false,"","",8⟩]):=by kernel_rfl
theorem akM:cW PP 29=some 2:=by kernel_rfl
theorem GM:PP.cellsOf 29=2:=by kernel_rfl
theorem CD:jk PP 29=some 16:=by kernel_rfl
theorem TG:dU PP 29=some true:=by kernel_rfl
theorem BK:dR PP 29=some [(.int .i64 0),(.int .i64 0)]:=by kernel_rfl
theorem ajF:PP.stoodInHeld 29=false:=by kernel_rfl
theorem ab5:b9 PP 29 0=some (0,3,1):=by kernel_rfl
theorem ab6:b9 PP 29 1=some (1,3,1):=by kernel_rfl
theorem ahp:gI PP #[⟨ "Size",3,0,false,"","",0⟩,⟨ "Wheels",3,1,false,"","",8⟩].toList=some [(0,1),(1,1)]:=by kernel_rfl
theorem UU (σ:St) (parts:Array (Nat×Operand)):dD PP σ 29 parts=(match dj σ parts.toList with|some ps=>(match fX (fun i=>([(0,1),(1,1)]:List (Nat×Nat))[i]?) [(Go.Value.int Go.IntKind.i64 0),(Go.Value.int Go.IntKind.i64 0)] ps with|some out=>some (.agg ⟨out⟩,σ)|none=>none)|none=>none):=by
 unfold dD;rw[Qa];simp only[];rw[ahp,BK];cases dj σ parts.toList<;>rfl
theorem Qd:PP.underlying 31=some (.struct #[⟨ "Kind",3,0,false,"","",0⟩,⟨ "A",3,1,false,"","",8⟩,⟨ "Party",29,2,false,"","",16⟩,⟨ "Text",9,4,false,"","",32⟩]):=by kernel_rfl
theorem akO:cW PP 31=some 5:=by kernel_rfl
theorem TI:dU PP 31=some true:=by kernel_rfl
theorem Q1:dR PP 31=some [(.int .i64 0),(.int .i64 0),(.int .i64 0),(.int .i64 0),(.string {data:=#[]})]:=by kernel_rfl
theorem ab7:b9 PP 31 0=some (0,3,1):=by kernel_rfl
theorem ab8:b9 PP 31 1=some (1,3,1):=by kernel_rfl
theorem ab9:b9 PP 31 2=some (2,29,2):=by kernel_rfl
theorem aca:b9 PP 31 3=some (4,9,1):=by kernel_rfl
theorem ahr:gI PP #[⟨ "Kind",3,0,false,"","",0⟩,⟨ "A",3,1,false,"","",8⟩,⟨ "Party",29,2,false,"","",16⟩,⟨ "Text",9,4,false,"","",32⟩].toList=some [(0,1),(1,1),(2,2),(4,1)]:=by kernel_rfl
theorem UX (σ:St) (parts:Array (Nat×Operand)):dD PP σ 31 parts=(match dj σ parts.toList with|some ps=>(match fX (fun i=>([(0,1),(1,1),(2,2),(4,1)]:List (Nat×Nat))[i]?) [(Go.Value.int Go.IntKind.i64 0),(Go.Value.int Go.IntKind.i64 0),(Go.Value.int Go.IntKind.i64 0),(Go.Value.int Go.IntKind.i64 0),(Go.Value.string {data:=#[]})] ps with|some out=>some (.agg ⟨out⟩,σ)|none=>none)|none=>none):=by
 unfold dD;rw[Qd];simp only[];rw[ahr,Q1];cases dj σ parts.toList<;>rfl
theorem Qe:PP.underlying 33=some (.slice 43):=by kernel_rfl
theorem akQ:cW PP 33=some 1:=by kernel_rfl
theorem TK:dU PP 33=some false:=by kernel_rfl
theorem IV:fW PP 33=some (43,6):=by kernel_rfl
theorem Qi:PP.underlying 36=some (.struct #[⟨ "Line",3,0,false,"","",0⟩,⟨ "Col",3,1,false,"","",8⟩]):=by kernel_rfl
theorem akS:cW PP 36=some 2:=by kernel_rfl
theorem TM:dU PP 36=some true:=by kernel_rfl
theorem Q5:dR PP 36=some [(.int .i64 0),(.int .i64 0)]:=by kernel_rfl
theorem YA:PP.eqGuardType PP.depth 36=false:=by kernel_rfl
theorem ajG:PP.stoodInHeld 36=false:=by kernel_rfl
theorem ach:b9 PP 36 0=some (0,3,1):=by kernel_rfl
theorem aci:b9 PP 36 1=some (1,3,1):=by kernel_rfl
theorem ahu:gI PP #[⟨ "Line",3,0,false,"","",0⟩,⟨ "Col",3,1,false,"","",8⟩].toList=some [(0,1),(1,1)]:=by kernel_rfl
theorem U0 (σ:St) (parts:Array (Nat×Operand)):dD PP σ 36 parts=(match dj σ parts.toList with|some ps=>(match fX (fun i=>([(0,1),(1,1)]:List (Nat×Nat))[i]?) [(Go.Value.int Go.IntKind.i64 0),(Go.Value.int Go.IntKind.i64 0)] ps with|some out=>some (.agg ⟨out⟩,σ)|none=>none)|none=>none):=by
 unfold dD;rw[Qi];simp only[];rw[ahu,Q5];cases dj σ parts.toList<;>rfl
theorem Qj:PP.underlying 38=some (.struct #[⟨ "Code",3,0,false,"","",0⟩,⟨ "N",3,1,false,"","",8⟩,⟨ "Spot",36,2,false,"","",16⟩,⟨ "Seats",22,4,false,"","",32⟩]):=by kernel_rfl
theorem akT:cW PP 38=some 5:=by kernel_rfl
theorem TN:dU PP 38=some true:=by kernel_rfl
theorem Q7:dR PP 38=some [(.int .i64 0),(.int .i64 0),(.int .i64 0),(.int .i64 0),(.slice none 0 0)]:=by kernel_rfl
theorem acj:b9 PP 38 0=some (0,3,1):=by kernel_rfl
theorem ack:b9 PP 38 1=some (1,3,1):=by kernel_rfl
theorem acm:b9 PP 38 3=some (4,22,1):=by kernel_rfl
theorem ahv:gI PP #[⟨ "Code",3,0,false,"","",0⟩,⟨ "N",3,1,false,"","",8⟩,⟨ "Spot",36,2,false,"","",16⟩,⟨ "Seats",22,4,false,"","",32⟩].toList=some [(0,1),(1,1),(2,2),(4,1)]:=by kernel_rfl
theorem U1 (σ:St) (parts:Array (Nat×Operand)):dD PP σ 38 parts=(match dj σ parts.toList with|some ps=>(match fX (fun i=>([(0,1),(1,1),(2,2),(4,1)]:List (Nat×Nat))[i]?) [(Go.Value.int Go.IntKind.i64 0),(Go.Value.int Go.IntKind.i64 0),(Go.Value.int Go.IntKind.i64 0),(Go.Value.int Go.IntKind.i64 0),(Go.Value.slice none 0 0)] ps with|some out=>some (.agg ⟨out⟩,σ)|none=>none)|none=>none):=by
 unfold dD;rw[Qj];simp only[];rw[ahv,Q7];cases dj σ parts.toList<;>rfl
theorem Qk:PP.underlying 39=some (.slice 73):=by kernel_rfl
theorem IX:fW PP 39=some (73,9):=by kernel_rfl
theorem Ql:PP.underlying 43=some (.struct #[⟨ "Id",3,0,false,"","",0⟩,⟨ "State",3,1,false,"","",8⟩,⟨ "Party",29,2,false,"","",16⟩,⟨ "Until",2,4,false,"","",32⟩,⟨ "First",3,5,false,"","",40⟩]):=by kernel_rfl
theorem akV:cW PP 43=some 6:=by kernel_rfl
theorem GQ:PP.cellsOf 43=6:=by kernel_rfl
theorem CI:jk PP 43=some 48:=by kernel_rfl
theorem TP:dU PP 43=some true:=by kernel_rfl
theorem BN:dR PP 43=some [(.int .i64 0),(.int .i64 0),(.int .i64 0),(.int .i64 0),(.int .i64 0),(.int .i64 0)]:=by kernel_rfl
theorem YB:PP.eqGuardType PP.depth 43=false:=by kernel_rfl
theorem ajH:PP.stoodInHeld 43=false:=by kernel_rfl
theorem acn:b9 PP 43 0=some (0,3,1):=by kernel_rfl
theorem aco:b9 PP 43 1=some (1,3,1):=by kernel_rfl
theorem acp:b9 PP 43 2=some (2,29,2):=by kernel_rfl
theorem acq:b9 PP 43 3=some (4,2,1):=by kernel_rfl
theorem acr:b9 PP 43 4=some (5,3,1):=by kernel_rfl
theorem ahw:gI PP #[⟨ "Id",3,0,false,"","",0⟩,⟨ "State",3,1,false,"","",8⟩,⟨ "Party",29,2,false,"","",16⟩,⟨ "Until",2,4,false,"","",32⟩,⟨ "First",3,5,false,"","",40⟩].toList=some [(0,1),(1,1),(2,2),(4,1),(5,1)]:=by kernel_rfl
theorem U2 (σ:St) (parts:Array (Nat×Operand)):dD PP σ 43 parts=(match dj σ parts.toList with|some ps=>(match fX (fun i=>([(0,1),(1,1),(2,2),(4,1),(5,1)]:List (Nat×Nat))[i]?) [(Go.Value.int Go.IntKind.i64 0),(Go.Value.int Go.IntKind.i64 0),(Go.Value.int Go.IntKind.i64 0),(Go.Value.int Go.IntKind.i64 0),(Go.Value.int Go.IntKind.i64 0),(Go.Value.int Go.IntKind.i64 0)] ps with|some out=>some (.agg ⟨out⟩,σ)|none=>none)|none=>none):=by
 unfold dD;rw[Ql];simp only[];rw[ahw,BN];cases dj σ parts.toList<;>rfl
theorem al1:PP.underlying 50=some (.int .u64):=by kernel_rfl
theorem al2:PP.underlying 60=some (.slice 99):=by kernel_rfl
theorem akW:cW PP 60=some 1:=by kernel_rfl
theorem TQ:dU PP 60=some false:=by kernel_rfl
theorem Xo:fW PP 60=some (99,4):=by kernel_rfl
theorem al3:PP.underlying 61=some (.slice 103):=by kernel_rfl
theorem akX:cW PP 61=some 1:=by kernel_rfl
theorem TR:dU PP 61=some false:=by kernel_rfl
theorem Xp:fW PP 61=some (103,3):=by kernel_rfl
theorem Qm:PP.underlying 63=some (.struct #[⟨ "Seats",60,0,false,"","",0⟩,⟨ "Gap",3,1,false,"","",24⟩,⟨ "Radius",3,2,false,"","",32⟩,⟨ "Kills",22,3,false,"","",40⟩,⟨ "Poles",61,4,false,"","",64⟩]):=by kernel_rfl
theorem akY:cW PP 63=some 5:=by kernel_rfl
theorem TS:dU PP 63=some true:=by kernel_rfl
theorem Q9:dR PP 63=some [(.slice none 0 0),(.int .i64 0),(.int .i64 0),(.slice none 0 0),(.slice none 0 0)]:=by kernel_rfl
theorem acs:b9 PP 63 0=some (0,60,1):=by kernel_rfl
theorem acu:b9 PP 63 1=some (1,3,1):=by kernel_rfl
theorem acv:b9 PP 63 2=some (2,3,1):=by kernel_rfl
theorem acw:b9 PP 63 3=some (3,22,1):=by kernel_rfl
theorem acx:b9 PP 63 4=some (4,61,1):=by kernel_rfl
theorem ahx:gI PP #[⟨ "Seats",60,0,false,"","",0⟩,⟨ "Gap",3,1,false,"","",24⟩,⟨ "Radius",3,2,false,"","",32⟩,⟨ "Kills",22,3,false,"","",40⟩,⟨ "Poles",61,4,false,"","",64⟩].toList=some [(0,1),(1,1),(2,1),(3,1),(4,1)]:=by kernel_rfl
theorem U3 (σ:St) (parts:Array (Nat×Operand)):dD PP σ 63 parts=(match dj σ parts.toList with|some ps=>(match fX (fun i=>([(0,1),(1,1),(2,1),(3,1),(4,1)]:List (Nat×Nat))[i]?) [(Go.Value.slice none 0 0),(Go.Value.int Go.IntKind.i64 0),(Go.Value.int Go.IntKind.i64 0),(Go.Value.slice none 0 0),(Go.Value.slice none 0 0)] ps with|some out=>some (.agg ⟨out⟩,σ)|none=>none)|none=>none):=by
 unfold dD;rw[Qm];simp only[];rw[ahx,Q9];cases dj σ parts.toList<;>rfl
theorem Qn:PP.underlying 66=some (.slice 29):=by kernel_rfl
theorem akZ:cW PP 66=some 1:=by kernel_rfl
theorem TU:dU PP 66=some false:=by kernel_rfl
theorem IY:fW PP 66=some (29,2):=by kernel_rfl
theorem Qo:PP.underlying 67=some (.slice 69):=by kernel_rfl
theorem IZ:fW PP 67=some (69,2):=by kernel_rfl
theorem Qp:PP.underlying 69=some (.struct #[⟨ "Party",3,0,false,"","",0⟩,⟨ "First",3,1,false,"","",8⟩]):=by kernel_rfl
theorem ak0:cW PP 69=some 2:=by kernel_rfl
theorem GR:PP.cellsOf 69=2:=by kernel_rfl
theorem CJ:jk PP 69=some 16:=by kernel_rfl
theorem TV:dU PP 69=some true:=by kernel_rfl
theorem BO:dR PP 69=some [(.int .i64 0),(.int .i64 0)]:=by kernel_rfl
theorem acy:b9 PP 69 0=some (0,3,1):=by kernel_rfl
theorem acz:b9 PP 69 1=some (1,3,1):=by kernel_rfl
theorem ahy:gI PP #[⟨ "Party",3,0,false,"","",0⟩,⟨ "First",3,1,false,"","",8⟩].toList=some [(0,1),(1,1)]:=by kernel_rfl
theorem U4 (σ:St) (parts:Array (Nat×Operand)):dD PP σ 69 parts=(match dj σ parts.toList with|some ps=>(match fX (fun i=>([(0,1),(1,1)]:List (Nat×Nat))[i]?) [(Go.Value.int Go.IntKind.i64 0),(Go.Value.int Go.IntKind.i64 0)] ps with|some out=>some (.agg ⟨out⟩,σ)|none=>none)|none=>none):=by
 unfold dD;rw[Qp];simp only[];rw[ahy,BO];cases dj σ parts.toList<;>rfl
theorem Qq:PP.underlying 73=some (.struct #[⟨ "Kind",3,0,false,"","",0⟩,⟨ "Text",9,1,false,"","",8⟩,⟨ "Order",43,2,false,"","",24⟩,⟨ "Time",2,8,false,"","",72⟩]):=by kernel_rfl
theorem ak3:cW PP 73=some 9:=by kernel_rfl
theorem GS:PP.cellsOf 73=9:=by kernel_rfl
theorem CK:jk PP 73=some 80:=by kernel_rfl
theorem TW:dU PP 73=some true:=by kernel_rfl
theorem BP:dR PP 73=some [(.int .i64 0),(.string {data:=#[]}),(.int .i64 0),(.int .i64 0),(.int .i64 0),(.int .i64 0),(.int .i64 0),(.int .i64 0),(.int .i64 0)]:=by kernel_rfl
theorem YC:PP.eqGuardType PP.depth 73=false:=by kernel_rfl
theorem ajI:PP.stoodInHeld 73=false:=by kernel_rfl
theorem acA:b9 PP 73 0=some (0,3,1):=by kernel_rfl
theorem acB:b9 PP 73 1=some (1,9,1):=by kernel_rfl
theorem acC:b9 PP 73 2=some (2,43,6):=by kernel_rfl
theorem acD:b9 PP 73 3=some (8,2,1):=by kernel_rfl
theorem ahz:gI PP #[⟨ "Kind",3,0,false,"","",0⟩,⟨ "Text",9,1,false,"","",8⟩,⟨ "Order",43,2,false,"","",24⟩,⟨ "Time",2,8,false,"","",72⟩].toList=some [(0,1),(1,1),(2,6),(8,1)]:=by kernel_rfl
theorem U6 (σ:St) (parts:Array (Nat×Operand)):dD PP σ 73 parts=(match dj σ parts.toList with|some ps=>(match fX (fun i=>([(0,1),(1,1),(2,6),(8,1)]:List (Nat×Nat))[i]?) [(Go.Value.int Go.IntKind.i64 0),(Go.Value.string {data:=#[]}),(Go.Value.int Go.IntKind.i64 0),(Go.Value.int Go.IntKind.i64 0),(Go.Value.int Go.IntKind.i64 0),(Go.Value.int Go.IntKind.i64 0),(Go.Value.int Go.IntKind.i64 0),(Go.Value.int Go.IntKind.i64 0),(Go.Value.int Go.IntKind.i64 0)] ps with|some out=>some (.agg ⟨out⟩,σ)|none=>none)|none=>none):=by
 unfold dD;rw[Qq];simp only[];rw[ahz,BP];cases dj σ parts.toList<;>rfl
theorem Qr:PP.underlying 77=some (.struct #[⟨ "fuel",3,0,false,"","parterre/book",0⟩,⟨ "has",4,1,false,"","parterre/book",8⟩,⟨ "v",63,2,false,"","parterre/book",16⟩,⟨ "l",33,7,false,"","parterre/book",104⟩,⟨ "now",2,8,false,"","parterre/book",128⟩]):=by kernel_rfl
theorem ak4:cW PP 77=some 9:=by kernel_rfl
theorem TX:dU PP 77=some true:=by kernel_rfl
theorem Rc:dR PP 77=some [(.int .i64 0),(.bool false),(.slice none 0 0),(.int .i64 0),(.int .i64 0),(.slice none 0 0),(.slice none 0 0),(.slice none 0 0),(.int .i64 0)]:=by kernel_rfl
theorem acE:b9 PP 77 0=some (0,3,1):=by kernel_rfl
theorem acF:b9 PP 77 1=some (1,4,1):=by kernel_rfl
theorem acG:b9 PP 77 2=some (2,63,5):=by kernel_rfl
theorem acH:b9 PP 77 3=some (7,33,1):=by kernel_rfl
theorem acI:b9 PP 77 4=some (8,2,1):=by kernel_rfl
theorem ahA:gI PP #[⟨ "fuel",3,0,false,"","parterre/book",0⟩,⟨ "has",4,1,false,"","parterre/book",8⟩,⟨ "v",63,2,false,"","parterre/book",16⟩,⟨ "l",33,7,false,"","parterre/book",104⟩,⟨ "now",2,8,false,"","parterre/book",128⟩].toList=some [(0,1),(1,1),(2,5),(7,1),(8,1)]:=by kernel_rfl
theorem U7 (σ:St) (parts:Array (Nat×Operand)):dD PP σ 77 parts=(match dj σ parts.toList with|some ps=>(match fX (fun i=>([(0,1),(1,1),(2,5),(7,1),(8,1)]:List (Nat×Nat))[i]?) [(Go.Value.int Go.IntKind.i64 0),(Go.Value.bool false),(Go.Value.slice none 0 0),(Go.Value.int Go.IntKind.i64 0),(Go.Value.int Go.IntKind.i64 0),(Go.Value.slice none 0 0),(Go.Value.slice none 0 0),(Go.Value.slice none 0 0),(Go.Value.int Go.IntKind.i64 0)] ps with|some out=>some (.agg ⟨out⟩,σ)|none=>none)|none=>none):=by
 unfold dD;rw[Qr];simp only[];rw[ahA,Rc];cases dj σ parts.toList<;>rfl
theorem Qs:PP.underlying 99=some (.struct #[⟨ "Row",3,0,false,"","",0⟩,⟨ "X",3,1,false,"","",8⟩,⟨ "Y",3,2,false,"","",16⟩,⟨ "Kind",3,3,false,"","",24⟩]):=by kernel_rfl
theorem ak6:cW PP 99=some 4:=by kernel_rfl
theorem Wp:PP.cellsOf 99=4:=by kernel_rfl
theorem Vf:jk PP 99=some 32:=by kernel_rfl
theorem TZ:dU PP 99=some true:=by kernel_rfl
theorem Rf:dR PP 99=some [(.int .i64 0),(.int .i64 0),(.int .i64 0),(.int .i64 0)]:=by kernel_rfl
theorem YD:PP.eqGuardType PP.depth 99=false:=by kernel_rfl
theorem ajJ:PP.stoodInHeld 99=false:=by kernel_rfl
theorem acJ:b9 PP 99 0=some (0,3,1):=by kernel_rfl
theorem acK:b9 PP 99 1=some (1,3,1):=by kernel_rfl
theorem acL:b9 PP 99 2=some (2,3,1):=by kernel_rfl
theorem acM:b9 PP 99 3=some (3,3,1):=by kernel_rfl
theorem ahB:gI PP #[⟨ "Row",3,0,false,"","",0⟩,⟨ "X",3,1,false,"","",8⟩,⟨ "Y",3,2,false,"","",16⟩,⟨ "Kind",3,3,false,"","",24⟩].toList=some [(0,1),(1,1),(2,1),(3,1)]:=by kernel_rfl
theorem U8 (σ:St) (parts:Array (Nat×Operand)):dD PP σ 99 parts=(match dj σ parts.toList with|some ps=>(match fX (fun i=>([(0,1),(1,1),(2,1),(3,1)]:List (Nat×Nat))[i]?) [(Go.Value.int Go.IntKind.i64 0),(Go.Value.int Go.IntKind.i64 0),(Go.Value.int Go.IntKind.i64 0),(Go.Value.int Go.IntKind.i64 0)] ps with|some out=>some (.agg ⟨out⟩,σ)|none=>none)|none=>none):=by
 unfold dD;rw[Qs];simp only[];rw[ahB,Rf];cases dj σ parts.toList<;>rfl
theorem PS:PP.underlying 103=some (.struct #[⟨ "X",3,0,false,"","",0⟩,⟨ "Y",3,1,false,"","",8⟩,⟨ "R",3,2,false,"","",16⟩]):=by kernel_rfl
theorem aku:cW PP 103=some 3:=by kernel_rfl
theorem Wi:PP.cellsOf 103=3:=by kernel_rfl
theorem Va:jk PP 103=some 24:=by kernel_rfl
theorem Tm:dU PP 103=some true:=by kernel_rfl
theorem QR:dR PP 103=some [(.int .i64 0),(.int .i64 0),(.int .i64 0)]:=by kernel_rfl
theorem Yy:PP.eqGuardType PP.depth 103=false:=by kernel_rfl
theorem ajD:PP.stoodInHeld 103=false:=by kernel_rfl
theorem abx:b9 PP 103 0=some (0,3,1):=by kernel_rfl
theorem aby:b9 PP 103 1=some (1,3,1):=by kernel_rfl
theorem abz:b9 PP 103 2=some (2,3,1):=by kernel_rfl
theorem ahg:gI PP #[⟨ "X",3,0,false,"","",0⟩,⟨ "Y",3,1,false,"","",8⟩,⟨ "R",3,2,false,"","",16⟩].toList=some [(0,1),(1,1),(2,1)]:=by kernel_rfl
theorem UL (σ:St) (parts:Array (Nat×Operand)):dD PP σ 103 parts=(match dj σ parts.toList with|some ps=>(match fX (fun i=>([(0,1),(1,1),(2,1)]:List (Nat×Nat))[i]?) [(Go.Value.int Go.IntKind.i64 0),(Go.Value.int Go.IntKind.i64 0),(Go.Value.int Go.IntKind.i64 0)] ps with|some out=>some (.agg ⟨out⟩,σ)|none=>none)|none=>none):=by
 unfold dD;rw[PS];simp only[];rw[ahg,QR];cases dj σ parts.toList<;>rfl
theorem Bz:PP.underlying 110=some (.interface #[("Error",182)]):=by kernel_rfl
theorem akv:cW PP 110=some 1:=by kernel_rfl
theorem Tn:dU PP 110=some false:=by kernel_rfl
theorem PT:PP.underlying 113=some (.slice 3):=by kernel_rfl
theorem akw:cW PP 113=some 1:=by kernel_rfl
theorem To:dU PP 113=some false:=by kernel_rfl
theorem IP:fW PP 113=some (3,1):=by kernel_rfl
theorem PU:PP.underlying 122=some (.slice 9):=by kernel_rfl
theorem IQ:fW PP 122=some (9,1):=by kernel_rfl
theorem PV:PP.underlying 131=some (.slice 4):=by kernel_rfl
theorem akx:cW PP 131=some 1:=by kernel_rfl
theorem Tp:dU PP 131=some false:=by kernel_rfl
theorem IS:fW PP 131=some (4,1):=by kernel_rfl
theorem PW:PP.underlying 155=some (.struct #[⟨ "Answer",3,0,false,"","",0⟩,⟨ "Plan",113,1,false,"","",8⟩,⟨ "Nodes",3,2,false,"","",32⟩,⟨ "Tree",131,3,false,"","",40⟩]):=by kernel_rfl
theorem aky:cW PP 155=some 4:=by kernel_rfl
theorem Tq:dU PP 155=some true:=by kernel_rfl
theorem QS:dR PP 155=some [(.int .i64 0),(.slice none 0 0),(.int .i64 0),(.slice none 0 0)]:=by kernel_rfl
theorem abA:b9 PP 155 0=some (0,3,1):=by kernel_rfl
theorem abB:b9 PP 155 1=some (1,113,1):=by kernel_rfl
theorem abC:b9 PP 155 2=some (2,3,1):=by kernel_rfl
theorem abD:b9 PP 155 3=some (3,131,1):=by kernel_rfl
theorem ahh:gI PP #[⟨ "Answer",3,0,false,"","",0⟩,⟨ "Plan",113,1,false,"","",8⟩,⟨ "Nodes",3,2,false,"","",32⟩,⟨ "Tree",131,3,false,"","",40⟩].toList=some [(0,1),(1,1),(2,1),(3,1)]:=by kernel_rfl
theorem UM (σ:St) (parts:Array (Nat×Operand)):dD PP σ 155 parts=(match dj σ parts.toList with|some ps=>(match fX (fun i=>([(0,1),(1,1),(2,1),(3,1)]:List (Nat×Nat))[i]?) [(Go.Value.int Go.IntKind.i64 0),(Go.Value.slice none 0 0),(Go.Value.int Go.IntKind.i64 0),(Go.Value.slice none 0 0)] ps with|some out=>some (.agg ⟨out⟩,σ)|none=>none)|none=>none):=by
 unfold dD;rw[PW];simp only[];rw[ahh,QS];cases dj σ parts.toList<;>rfl
theorem alL:PP.underlying 161=some (.slice 193):=by kernel_rfl
theorem Xi:fW PP 161=some (193,5):=by kernel_rfl
theorem alM:PP.underlying 167=some (.map 228 3):=by kernel_rfl
theorem akz:cW PP 167=some 1:=by kernel_rfl
theorem Ts:dU PP 167=some false:=by kernel_rfl
theorem alN:PP.underlying 168=some (.slice 230):=by kernel_rfl
theorem akA:cW PP 168=some 1:=by kernel_rfl
theorem Tt:dU PP 168=some false:=by kernel_rfl
theorem Xj:fW PP 168=some (230,6):=by kernel_rfl
theorem PX:PP.underlying 170=some (.struct #[⟨ "v",63,0,false,"","parterre/parse",0⟩,⟨ "end",36,5,false,"","parterre/parse",88⟩,⟨ "at",167,7,false,"","parterre/parse",104⟩,⟨ "kills",168,8,false,"","parterre/parse",112⟩,⟨ "radius",4,9,false,"","parterre/parse",136⟩]):=by kernel_rfl
theorem QT:dR PP 170=some [(.slice none 0 0),(.int .i64 0),(.int .i64 0),(.slice none 0 0),(.slice none 0 0),(.int .i64 0),(.int .i64 0),(.map none),(.slice none 0 0),(.bool false)]:=by kernel_rfl
theorem abE:b9 PP 170 0=some (0,63,5):=by kernel_rfl
theorem abF:b9 PP 170 1=some (5,36,2):=by kernel_rfl
theorem abG:b9 PP 170 2=some (7,167,1):=by kernel_rfl
theorem abH:b9 PP 170 3=some (8,168,1):=by kernel_rfl
theorem abI:b9 PP 170 4=some (9,4,1):=by kernel_rfl
theorem ahi:gI PP #[⟨ "v",63,0,false,"","parterre/parse",0⟩,⟨ "end",36,5,false,"","parterre/parse",88⟩,⟨ "at",167,7,false,"","parterre/parse",104⟩,⟨ "kills",168,8,false,"","parterre/parse",112⟩,⟨ "radius",4,9,false,"","parterre/parse",136⟩].toList=some [(0,5),(5,2),(7,1),(8,1),(9,1)]:=by kernel_rfl
theorem UN (σ:St) (parts:Array (Nat×Operand)):dD PP σ 170 parts=(match dj σ parts.toList with|some ps=>(match fX (fun i=>([(0,5),(5,2),(7,1),(8,1),(9,1)]:List (Nat×Nat))[i]?) [(Go.Value.slice none 0 0),(Go.Value.int Go.IntKind.i64 0),(Go.Value.int Go.IntKind.i64 0),(Go.Value.slice none 0 0),(Go.Value.slice none 0 0),(Go.Value.int Go.IntKind.i64 0),(Go.Value.int Go.IntKind.i64 0),(Go.Value.map none),(Go.Value.slice none 0 0),(Go.Value.bool false)] ps with|some out=>some (.agg ⟨out⟩,σ)|none=>none)|none=>none):=by
 unfold dD;rw[PX];simp only[];rw[ahi,QT];cases dj σ parts.toList<;>rfl
theorem alO:PP.underlying 184=some (.int .u64):=by kernel_rfl
theorem PY:PP.underlying 193=some (.struct #[⟨ "Kind",3,0,false,"","",0⟩,⟨ "N",3,1,false,"","",8⟩,⟨ "Line",3,2,false,"","",16⟩,⟨ "Col",3,3,false,"","",24⟩,⟨ "Text",9,4,false,"","",32⟩]):=by kernel_rfl
theorem akB:cW PP 193=some 5:=by kernel_rfl
theorem Wj:PP.cellsOf 193=5:=by kernel_rfl
theorem Vb:jk PP 193=some 48:=by kernel_rfl
theorem Tu:dU PP 193=some true:=by kernel_rfl
theorem QU:dR PP 193=some [(.int .i64 0),(.int .i64 0),(.int .i64 0),(.int .i64 0),(.string {data:=#[]})]:=by kernel_rfl
theorem abJ:b9 PP 193 0=some (0,3,1):=by kernel_rfl
theorem abK:b9 PP 193 1=some (1,3,1):=by kernel_rfl
theorem abL:b9 PP 193 2=some (2,3,1):=by kernel_rfl
theorem abM:b9 PP 193 3=some (3,3,1):=by kernel_rfl
theorem abN:b9 PP 193 4=some (4,9,1):=by kernel_rfl
theorem ahj:gI PP #[⟨ "Kind",3,0,false,"","",0⟩,⟨ "N",3,1,false,"","",8⟩,⟨ "Line",3,2,false,"","",16⟩,⟨ "Col",3,3,false,"","",24⟩,⟨ "Text",9,4,false,"","",32⟩].toList=some [(0,1),(1,1),(2,1),(3,1),(4,1)]:=by kernel_rfl
theorem UO (σ:St) (parts:Array (Nat×Operand)):dD PP σ 193 parts=(match dj σ parts.toList with|some ps=>(match fX (fun i=>([(0,1),(1,1),(2,1),(3,1),(4,1)]:List (Nat×Nat))[i]?) [(Go.Value.int Go.IntKind.i64 0),(Go.Value.int Go.IntKind.i64 0),(Go.Value.int Go.IntKind.i64 0),(Go.Value.int Go.IntKind.i64 0),(Go.Value.string {data:=#[]})] ps with|some out=>some (.agg ⟨out⟩,σ)|none=>none)|none=>none):=by
 unfold dD;rw[PY];simp only[];rw[ahj,QU];cases dj σ parts.toList<;>rfl
theorem alQ:PP.underlying 207=some (.pointer 223):=by kernel_rfl
theorem akC:cW PP 207=some 1:=by kernel_rfl
theorem Wm:PP.cellsOf 207=1:=by kernel_rfl
theorem Vc:jk PP 207=some 8:=by kernel_rfl
theorem Tw:dU PP 207=some false:=by kernel_rfl
theorem amM:dR PP 207=some [(.pointer none)]:=by kernel_rfl
theorem alR:PP.underlying 209=some (.pointer 207):=by kernel_rfl
theorem P4:PP.underlying 223=some (.struct #[⟨ "code",3,0,false,"","parterre/fault",0⟩,⟨ "spot",36,1,false,"","parterre/fault",8⟩,⟨ "inner",110,3,false,"","parterre/fault",24⟩]):=by kernel_rfl
theorem QV:dR PP 223=some [(.int .i64 0),(.int .i64 0),(.int .i64 0),.nilIface]:=by kernel_rfl
theorem abO:b9 PP 223 0=some (0,3,1):=by kernel_rfl
theorem abP:b9 PP 223 1=some (1,36,2):=by kernel_rfl
theorem abQ:b9 PP 223 2=some (3,110,1):=by kernel_rfl
theorem ahk:gI PP #[⟨ "code",3,0,false,"","parterre/fault",0⟩,⟨ "spot",36,1,false,"","parterre/fault",8⟩,⟨ "inner",110,3,false,"","parterre/fault",24⟩].toList=some [(0,1),(1,2),(3,1)]:=by kernel_rfl
theorem UP (σ:St) (parts:Array (Nat×Operand)):dD PP σ 223 parts=(match dj σ parts.toList with|some ps=>(match fX (fun i=>([(0,1),(1,2),(3,1)]:List (Nat×Nat))[i]?) [(Go.Value.int Go.IntKind.i64 0),(Go.Value.int Go.IntKind.i64 0),(Go.Value.int Go.IntKind.i64 0),Go.Value.nilIface] ps with|some out=>some (.agg ⟨out⟩,σ)|none=>none)|none=>none):=by
 unfold dD;rw[P4];simp only[];rw[ahk,QV];cases dj σ parts.toList<;>rfl
theorem BA:PP.underlying 228=some (.struct #[⟨ "row",3,0,false,"","parterre/parse",0⟩,⟨ "x",3,1,false,"","parterre/parse",8⟩]):=by kernel_rfl
theorem akE:cW PP 228=some 2:=by kernel_rfl
theorem Ty:dU PP 228=some true:=by kernel_rfl
theorem QW:dR PP 228=some [(.int .i64 0),(.int .i64 0)]:=by kernel_rfl
theorem Yz:PP.eqGuardType PP.depth 228=false:=by kernel_rfl
theorem ajE:PP.stoodInHeld 228=false:=by kernel_rfl
theorem ahl:gI PP #[⟨ "row",3,0,false,"","parterre/parse",0⟩,⟨ "x",3,1,false,"","parterre/parse",8⟩].toList=some [(0,1),(1,1)]:=by kernel_rfl
theorem UQ (σ:St) (parts:Array (Nat×Operand)):dD PP σ 228 parts=(match dj σ parts.toList with|some ps=>(match fX (fun i=>([(0,1),(1,1)]:List (Nat×Nat))[i]?) [(Go.Value.int Go.IntKind.i64 0),(Go.Value.int Go.IntKind.i64 0)] ps with|some out=>some (.agg ⟨out⟩,σ)|none=>none)|none=>none):=by
 unfold dD;rw[BA];simp only[];rw[ahl,QW];cases dj σ parts.toList<;>rfl
theorem P5:PP.underlying 230=some (.struct #[⟨ "place",228,0,true,"","parterre/parse",0⟩,⟨ "line",36,2,false,"","parterre/parse",16⟩,⟨ "row",36,4,false,"","parterre/parse",32⟩]):=by kernel_rfl
theorem akF:cW PP 230=some 6:=by kernel_rfl
theorem Wo:PP.cellsOf 230=6:=by kernel_rfl
theorem Ve:jk PP 230=some 48:=by kernel_rfl
theorem Tz:dU PP 230=some true:=by kernel_rfl
theorem QX:dR PP 230=some [(.int .i64 0),(.int .i64 0),(.int .i64 0),(.int .i64 0),(.int .i64 0),(.int .i64 0)]:=by kernel_rfl
theorem abR:b9 PP 230 0=some (0,228,2):=by kernel_rfl
theorem abS:b9 PP 230 1=some (2,36,2):=by kernel_rfl
theorem abT:b9 PP 230 2=some (4,36,2):=by kernel_rfl
theorem ahm:gI PP #[⟨ "place",228,0,true,"","parterre/parse",0⟩,⟨ "line",36,2,false,"","parterre/parse",16⟩,⟨ "row",36,4,false,"","parterre/parse",32⟩].toList=some [(0,2),(2,2),(4,2)]:=by kernel_rfl
theorem UR (σ:St) (parts:Array (Nat×Operand)):dD PP σ 230 parts=(match dj σ parts.toList with|some ps=>(match fX (fun i=>([(0,2),(2,2),(4,2)]:List (Nat×Nat))[i]?) [(Go.Value.int Go.IntKind.i64 0),(Go.Value.int Go.IntKind.i64 0),(Go.Value.int Go.IntKind.i64 0),(Go.Value.int Go.IntKind.i64 0),(Go.Value.int Go.IntKind.i64 0),(Go.Value.int Go.IntKind.i64 0)] ps with|some out=>some (.agg ⟨out⟩,σ)|none=>none)|none=>none):=by
 unfold dD;rw[P5];simp only[];rw[ahm,QX];cases dj σ parts.toList<;>rfl
theorem P6:PP.underlying 239=some (.struct #[⟨ "V",63,0,false,"","",0⟩,⟨ "usable",131,5,false,"","parterre/place",88⟩]):=by kernel_rfl
theorem akG:cW PP 239=some 6:=by kernel_rfl
theorem TA:dU PP 239=some true:=by kernel_rfl
theorem QY:dR PP 239=some [(.slice none 0 0),(.int .i64 0),(.int .i64 0),(.slice none 0 0),(.slice none 0 0),(.slice none 0 0)]:=by kernel_rfl
theorem abU:b9 PP 239 0=some (0,63,5):=by kernel_rfl
theorem abV:b9 PP 239 1=some (5,131,1):=by kernel_rfl
theorem ahn:gI PP #[⟨ "V",63,0,false,"","",0⟩,⟨ "usable",131,5,false,"","parterre/place",88⟩].toList=some [(0,5),(5,1)]:=by kernel_rfl
theorem US (σ:St) (parts:Array (Nat×Operand)):dD PP σ 239 parts=(match dj σ parts.toList with|some ps=>(match fX (fun i=>([(0,5),(5,1)]:List (Nat×Nat))[i]?) [(Go.Value.slice none 0 0),(Go.Value.int Go.IntKind.i64 0),(Go.Value.int Go.IntKind.i64 0),(Go.Value.slice none 0 0),(Go.Value.slice none 0 0),(Go.Value.slice none 0 0)] ps with|some out=>some (.agg ⟨out⟩,σ)|none=>none)|none=>none):=by
 unfold dD;rw[P6];simp only[];rw[ahn,QY];cases dj σ parts.toList<;>rfl
theorem alU:PP.underlying 240=some (.map 3 3):=by kernel_rfl
theorem akH:cW PP 240=some 1:=by kernel_rfl
theorem TB:dU PP 240=some false:=by kernel_rfl
theorem P7:PP.underlying 242=some (.struct #[⟨ "H",239,0,false,"","",0⟩,⟨ "L",66,6,false,"","",112⟩,⟨ "Pins",240,7,false,"","",136⟩]):=by kernel_rfl
theorem akI:cW PP 242=some 8:=by kernel_rfl
theorem TC:dU PP 242=some true:=by kernel_rfl
theorem QZ:dR PP 242=some [(.slice none 0 0),(.int .i64 0),(.int .i64 0),(.slice none 0 0),(.slice none 0 0),(.slice none 0 0),(.slice none 0 0),(.map none)]:=by kernel_rfl
theorem abW:b9 PP 242 0=some (0,239,6):=by kernel_rfl
theorem abX:b9 PP 242 1=some (6,66,1):=by kernel_rfl
theorem abY:b9 PP 242 2=some (7,240,1):=by kernel_rfl
theorem aho:gI PP #[⟨ "H",239,0,false,"","",0⟩,⟨ "L",66,6,false,"","",112⟩,⟨ "Pins",240,7,false,"","",136⟩].toList=some [(0,6),(6,1),(7,1)]:=by kernel_rfl
theorem UT (σ:St) (parts:Array (Nat×Operand)):dD PP σ 242 parts=(match dj σ parts.toList with|some ps=>(match fX (fun i=>([(0,6),(6,1),(7,1)]:List (Nat×Nat))[i]?) [(Go.Value.slice none 0 0),(Go.Value.int Go.IntKind.i64 0),(Go.Value.int Go.IntKind.i64 0),(Go.Value.slice none 0 0),(Go.Value.slice none 0 0),(Go.Value.slice none 0 0),(Go.Value.slice none 0 0),(Go.Value.map none)] ps with|some out=>some (.agg ⟨out⟩,σ)|none=>none)|none=>none):=by
 unfold dD;rw[P7];simp only[];rw[aho,QZ];cases dj σ parts.toList<;>rfl
theorem akJ:cW PP 247=some 1:=by kernel_rfl
theorem TD:dU PP 247=some false:=by kernel_rfl
theorem amO:dR PP 247=some [.nilFunc]:=by kernel_rfl
theorem alV:PP.underlying 277=some (.slice 207):=by kernel_rfl
theorem Xl:fW PP 277=some (207,1):=by kernel_rfl
theorem alW:PP.underlying 283=some (.pointer 334):=by kernel_rfl
theorem akK:cW PP 283=some 1:=by kernel_rfl
theorem TE:dU PP 283=some false:=by kernel_rfl
theorem P9:PP.underlying 288=some (.slice 337):=by kernel_rfl
theorem akL:cW PP 288=some 1:=by kernel_rfl
theorem TF:dU PP 288=some false:=by kernel_rfl
theorem IU:fW PP 288=some (337,2):=by kernel_rfl
theorem Qb:PP.underlying 290=some (.struct #[⟨ "p",283,0,false,"","parterre/search",0⟩,⟨ "l",66,1,false,"","parterre/search",8⟩,⟨ "r",155,2,false,"","parterre/search",32⟩,⟨ "most",3,6,false,"","parterre/search",96⟩,⟨ "fuel",3,7,false,"","parterre/search",104⟩,⟨ "stack",288,8,false,"","parterre/search",112⟩]):=by kernel_rfl
theorem Q0:dR PP 290=some [(.pointer none),(.slice none 0 0),(.int .i64 0),(.slice none 0 0),(.int .i64 0),(.slice none 0 0),(.int .i64 0),(.int .i64 0),(.slice none 0 0)]:=by kernel_rfl
theorem abZ:b9 PP 290 0=some (0,283,1):=by kernel_rfl
theorem ab0:b9 PP 290 1=some (1,66,1):=by kernel_rfl
theorem ab1:b9 PP 290 2=some (2,155,4):=by kernel_rfl
theorem ab2:b9 PP 290 3=some (6,3,1):=by kernel_rfl
theorem ab3:b9 PP 290 4=some (7,3,1):=by kernel_rfl
theorem ab4:b9 PP 290 5=some (8,288,1):=by kernel_rfl
theorem ahq:gI PP #[⟨ "p",283,0,false,"","parterre/search",0⟩,⟨ "l",66,1,false,"","parterre/search",8⟩,⟨ "r",155,2,false,"","parterre/search",32⟩,⟨ "most",3,6,false,"","parterre/search",96⟩,⟨ "fuel",3,7,false,"","parterre/search",104⟩,⟨ "stack",288,8,false,"","parterre/search",112⟩].toList=some [(0,1),(1,1),(2,4),(6,1),(7,1),(8,1)]:=by kernel_rfl
theorem UW (σ:St) (parts:Array (Nat×Operand)):dD PP σ 290 parts=(match dj σ parts.toList with|some ps=>(match fX (fun i=>([(0,1),(1,1),(2,4),(6,1),(7,1),(8,1)]:List (Nat×Nat))[i]?) [(Go.Value.pointer none),(Go.Value.slice none 0 0),(Go.Value.int Go.IntKind.i64 0),(Go.Value.slice none 0 0),(Go.Value.int Go.IntKind.i64 0),(Go.Value.slice none 0 0),(Go.Value.int Go.IntKind.i64 0),(Go.Value.int Go.IntKind.i64 0),(Go.Value.slice none 0 0)] ps with|some out=>some (.agg ⟨out⟩,σ)|none=>none)|none=>none):=by
 unfold dD;rw[Qb];simp only[];rw[ahq,Q0];cases dj σ parts.toList<;>rfl
theorem alX:PP.underlying 297=some (.slice 247):=by kernel_rfl
theorem Xm:fW PP 297=some (247,1):=by kernel_rfl
theorem alY:PP.underlying 329=some (.slice 22):=by kernel_rfl
theorem akP:cW PP 329=some 1:=by kernel_rfl
theorem GN:PP.cellsOf 329=1:=by kernel_rfl
theorem CE:jk PP 329=some 24:=by kernel_rfl
theorem TJ:dU PP 329=some false:=by kernel_rfl
theorem Q2:dR PP 329=some [(.slice none 0 0)]:=by kernel_rfl
theorem Xn:fW PP 329=some (22,1):=by kernel_rfl
theorem Qf:PP.underlying 332=some (.slice 329):=by kernel_rfl
theorem akR:cW PP 332=some 1:=by kernel_rfl
theorem TL:dU PP 332=some false:=by kernel_rfl
theorem IW:fW PP 332=some (329,1):=by kernel_rfl
theorem Qg:PP.underlying 334=some (.struct #[⟨ "s",242,0,false,"","parterre/prop",0⟩,⟨ "levels",332,8,false,"","parterre/prop",144⟩,⟨ "p",113,9,false,"","parterre/prop",168⟩]):=by kernel_rfl
theorem Q3:dR PP 334=some [(.slice none 0 0),(.int .i64 0),(.int .i64 0),(.slice none 0 0),(.slice none 0 0),(.slice none 0 0),(.slice none 0 0),(.map none),(.slice none 0 0),(.slice none 0 0)]:=by kernel_rfl
theorem acb:b9 PP 334 0=some (0,242,8):=by kernel_rfl
theorem acd:b9 PP 334 1=some (8,332,1):=by kernel_rfl
theorem ace:b9 PP 334 2=some (9,113,1):=by kernel_rfl
theorem ahs:gI PP #[⟨ "s",242,0,false,"","parterre/prop",0⟩,⟨ "levels",332,8,false,"","parterre/prop",144⟩,⟨ "p",113,9,false,"","parterre/prop",168⟩].toList=some [(0,8),(8,1),(9,1)]:=by kernel_rfl
theorem UY (σ:St) (parts:Array (Nat×Operand)):dD PP σ 334 parts=(match dj σ parts.toList with|some ps=>(match fX (fun i=>([(0,8),(8,1),(9,1)]:List (Nat×Nat))[i]?) [(Go.Value.slice none 0 0),(Go.Value.int Go.IntKind.i64 0),(Go.Value.int Go.IntKind.i64 0),(Go.Value.slice none 0 0),(Go.Value.slice none 0 0),(Go.Value.slice none 0 0),(Go.Value.slice none 0 0),(Go.Value.map none),(Go.Value.slice none 0 0),(Go.Value.slice none 0 0)] ps with|some out=>some (.agg ⟨out⟩,σ)|none=>none)|none=>none):=by
 unfold dD;rw[Qg];simp only[];rw[ahs,Q3];cases dj σ parts.toList<;>rfl
theorem Qh:PP.underlying 337=some (.struct #[⟨ "l",22,0,false,"","parterre/search",0⟩,⟨ "at",3,1,false,"","parterre/search",24⟩]):=by kernel_rfl
theorem GO:PP.cellsOf 337=2:=by kernel_rfl
theorem CF:jk PP 337=some 32:=by kernel_rfl
theorem BM:dR PP 337=some [(.slice none 0 0),(.int .i64 0)]:=by kernel_rfl
theorem acf:b9 PP 337 0=some (0,22,1):=by kernel_rfl
theorem acg:b9 PP 337 1=some (1,3,1):=by kernel_rfl
theorem aht:gI PP #[⟨ "l",22,0,false,"","parterre/search",0⟩,⟨ "at",3,1,false,"","parterre/search",24⟩].toList=some [(0,1),(1,1)]:=by kernel_rfl
theorem UZ (σ:St) (parts:Array (Nat×Operand)):dD PP σ 337 parts=(match dj σ parts.toList with|some ps=>(match fX (fun i=>([(0,1),(1,1)]:List (Nat×Nat))[i]?) [(Go.Value.slice none 0 0),(Go.Value.int Go.IntKind.i64 0)] ps with|some out=>some (.agg ⟨out⟩,σ)|none=>none)|none=>none):=by
 unfold dD;rw[Qh];simp only[];rw[aht,BM];cases dj σ parts.toList<;>rfl
attribute [simp] alP uG Tv Qc akN px zt TH BL alZ akU GP CH TO Q8 al0 al4 ak5 GU CL TY Re alS PZ akD Wn Vd Tx amN IT alT Xk P8 Qa akM GM CD TG BK ajF ab5 ab6 UU Qd akO TI Q1 ab7 ab8 ab9 aca UX Qe akQ TK IV Qi akS TM Q5 YA ajG ach aci U0 Qj akT TN Q7 acj ack acm U1 Qk IX Ql akV GQ CI TP BN YB ajH acn aco acp acq acr U2 al1 al2 akW TQ Xo al3 akX TR Xp Qm akY TS Q9 acs acu acv acw acx U3 Qn akZ TU IY Qo IZ Qp ak0 GR CJ TV BO acy acz U4 Qq ak3 GS CK TW BP YC ajI acA acB acC acD U6 Qr ak4 TX Rc acE acF acG acH acI U7 Qs ak6 Wp Vf TZ Rf YD ajJ acJ acK acL acM U8 PS aku Wi Va Tm QR Yy ajD abx aby abz UL Bz akv Tn PT akw To IP PU IQ PV akx Tp IS PW aky Tq QS abA abB abC abD UM alL Xi alM akz Ts alN akA Tt Xj PX QT abE abF abG abH abI UN alO PY akB Wj Vb Tu QU abJ abK abL abM abN UO alQ akC Wm Vc Tw amM alR P4 QV abO abP abQ UP BA akE Ty QW Yz ajE UQ P5 akF Wo Ve Tz QX abR abS abT UR P6 akG TA QY abU abV US alU akH TB P7 akI TC QZ abW abX abY UT akJ TD amO alV Xl alW akK TE P9 akL TF IU Qb Q0 abZ ab0 ab1 ab2 ab3 ab4 UW alX Xm alY akP GN CE TJ Q2 Xn Qf akR TL IW Qg Q3 acb acd ace UY Qh GO CF BM acf acg UZ Mh FL Mt FY MF Gc Iu MH Ge JO CU JT C6 J5 Dh Kd Dr Kh Dv Kk Dy Ho Kw DK KI DV KQ Ed HA KY Em KZ En HI Lk Ez Lw ET LF Fc HV Ml FP Ij Mm FQ Mo FT Mp FU Mq FV Im Mr FW Ms FX Mu FZ Mw F0 Io Mx F6 My F7 Mz F8 Ip MA F9 Iq MC Ga It MD Gb MG Gd MI Gf MJ Gg MK Gh ML Gi Iv MM Gj Iw MN Gk Ix MO Gl MP Gm MQ Gn Iy MR Gp MS Gq MT Gr Iz MU Gs MV Gt IA MW Gu IB MX Gv MY Gw MZ Gx IC M0 Gy ID M6 Gz IE M7 GA M8 GB M9 GC Na GD Nb GF Nc GG IF JP CV JQ CW JR CY JS CZ Hf JU C7 Hg JV C8 Hi JW C9 JX Da JY Db Hj JZ Dc J0 Dd J1 De J2 Df Hk J3 Dg J7 Di J8 Dj J9 Dk Hm Ka Dl Hn Kb Dp Kc Dq Ke Ds Kf Dt Kg Du Ki Dw Kj Dx Kl Dz Hq Km DA Kn DC Ko DD Kq DE Kr DF Ks DG Hr Kt DH Ku DI Kv DJ Kx DL Ky DM Hw Kz DN KB DP KC DQ KD DR KE DS KH DU Hx KJ DW Hy KK DX KL DY Hz KM DZ KN Ea KO Eb KP Ec KR Ee HC KT Ef KU Eh HE KV Ej KW El Lc Eo Ld Ep Le Es HJ Lf Et Lg Eu HK Lh Ev Li Ew HN Lj Ey Ll EC HO Lm EI Lp EJ vx va Lq EK Lr EL Ls EO Lt EP Lu ER Lz EW HS LA EX HU LB EY LC EZ LD Fb LG Fe LH Ff LI Fg LJ Fh HW LK Fi LL Fj HX LM Fk HY LO Fl HZ LP Fm LQ Fo LR Fp LS Fq LU Fs LY Fw LZ Fx L4 Fy Ic L7 Fz L8 FA L9 FC Ma FD Mb FE Mc FF Md FG Ie Me FH Mf FI Mg FJ Ih Mi FM Mj FN Ii Mk FO
end Go.Proofs.Ybk
namespace Go.Proofs
open Go.Shelf Go.RowKit Go.Lib Go.Sort
set_option maxRecDepth 100000
def Tryz.Ze:Go.Shelf.Ren:=⟨fun|171=>126|243=>177|246=>226|283=>277|284=>278|285=>279|286=>280|129=>267|317=>306|318=>307|319=>308|320=>309|337=>315|338=>316|n=>n,fun|3=>3|9=>9|2=>2|4=>4|171=>356|0=>0|53=>184|37=>177|5=>5|173=>358|212=>377|51=>348|20=>20|213=>378|46=>50|232=>385|233=>386|n=>n,fun|17=>2|18=>3|19=>4|n=>n⟩
theorem Tryz.itoa:LaysM.n171 Tryz.prog Tryz.Ze:={
 mixed:=by kernel_rfl,
 f129:=Tryz.func267.trans (congrArg some (by kernel_rfl)),
 f171:=Tryz.func126.trans (congrArg some (by kernel_rfl)),
 f243:=Tryz.func177.trans (congrArg some (by kernel_rfl)),
 f246:=Tryz.func226.trans (congrArg some (by kernel_rfl)),
 f283:=Tryz.func277.trans (congrArg some (by kernel_rfl)),
 f284:=Tryz.func278.trans (congrArg some (by kernel_rfl)),
 f285:=Tryz.func279.trans (congrArg some (by kernel_rfl)),
 f286:=Tryz.func280.trans (congrArg some (by kernel_rfl)),
 f317:=Tryz.func306.trans (congrArg some (by kernel_rfl)),
 f318:=Tryz.func307.trans (congrArg some (by kernel_rfl)),
 f319:=Tryz.func308.trans (congrArg some (by kernel_rfl)),
 f320:=Tryz.func309.trans (congrArg some (by kernel_rfl)),
 f337:=Tryz.func315.trans (congrArg some (by kernel_rfl)),
 f338:=Tryz.func316.trans (congrArg some (by kernel_rfl)),
 t0:=Tryz.underlying0,
 a0:=Tryz.isAgg0,
 z0:=Tryz.sizeOf0,
 v0:=Tryz.zeroValue0,
 t2:=Tryz.underlying2,
 a2:=Tryz.isAgg2,
 z2:=Tryz.sizeOf2,
 v2:=Tryz.zeroValue2,
 t3:=Tryz.underlying3,
 a3:=Tryz.isAgg3,
 z3:=Tryz.sizeOf3,
 v3:=Tryz.zeroValue3,
 t4:=Tryz.underlying4,
 a4:=Tryz.isAgg4,
 z4:=Tryz.sizeOf4,
 v4:=Tryz.zeroValue4,
 t5:=Tryz.underlying5,
 a5:=Tryz.isAgg5,
 z5:=Tryz.sizeOf5,
 v5:=Tryz.zeroValue5,
 t9:=Tryz.underlying9,
 a9:=Tryz.isAgg9,
 z9:=Tryz.sizeOf9,
 v9:=Tryz.zeroValue9,
 t20:=Tryz.underlying20,
 a20:=Tryz.isAgg20,
 z20:=Tryz.sizeOf20,
 v20:=Tryz.zeroValue20,
 t37:=Tryz.underlying177,
 a37:=Tryz.isAgg177,
 z37:=Tryz.sizeOf177,
 v37:=Tryz.zeroValue177,
 t46:=Tryz.underlying50,
 a46:=Tryz.isAgg50,
 z46:=Tryz.sizeOf50,
 v46:=Tryz.zeroValue50,
 t51:=Tryz.underlying348,
 a51:=Tryz.isAgg348,
 z51:=Tryz.sizeOf348,
 v51:=Tryz.zeroValue348,
 t53:=Tryz.underlying184,
 a53:=Tryz.isAgg184,
 z53:=Tryz.sizeOf184,
 v53:=Tryz.zeroValue184,
 t171:=Tryz.underlying356,
 a171:=Tryz.isAgg356,
 z171:=Tryz.sizeOf356,
 v171:=Tryz.zeroValue356,
 t173:=Tryz.underlying358,
 a173:=Tryz.isAgg358,
 z173:=Tryz.sizeOf358,
 v173:=Tryz.zeroValue358,
 t212:=Tryz.underlying377,
 a212:=Tryz.isAgg377,
 z212:=Tryz.sizeOf377,
 v212:=Tryz.zeroValue377,
 t213:=Tryz.underlying378,
 a213:=Tryz.isAgg378,
 z213:=Tryz.sizeOf378,
 t232:=Tryz.underlying385,
 a232:=Tryz.isAgg385,
 z232:=Tryz.sizeOf385,
 v232:=Tryz.zeroValue385,
 t233:=Tryz.underlying386,
 a233:=Tryz.isAgg386,
 z233:=Tryz.sizeOf386,
 v233:=Tryz.zeroValue386,
 g17:=by kernel_rfl,
 g18:=by kernel_rfl,
 g19:=by kernel_rfl,
 i0:=by kernel_rfl,
 i2:=by kernel_rfl,
 i3:=by kernel_rfl,
 i4:=by kernel_rfl,
 i5:=by kernel_rfl,
 i9:=by kernel_rfl,
 i20:=by kernel_rfl,
 i37:=by kernel_rfl,
 i46:=by kernel_rfl,
 i51:=by kernel_rfl,
 i53:=by kernel_rfl,
 i171:=by kernel_rfl,
 i173:=by kernel_rfl,
 i212:=by kernel_rfl,
 i232:=by kernel_rfl,
 i233:=by kernel_rfl,
 m17:=by kernel_rfl,
 m18:=by kernel_rfl,
 m19:=by kernel_rfl}
def Tryz.JN:Go.Shelf.Ren:=⟨fun|156=>87|165=>127|166=>128|169=>129|240=>178|241=>179|276=>227|277=>228|n=>n,fun|31=>122|9=>9|3=>3|4=>4|0=>0|20=>20|72=>179|76=>180|70=>176|37=>177|75=>110|127=>250|164=>265|5=>5|80=>182|n=>n,fun|n=>n⟩
theorem Tryz.join:Lays.n156 Tryz.prog Tryz.JN:={
 mixed:=by kernel_rfl,
 f156:=Tryz.func87.trans (congrArg some (by kernel_rfl)),
 f165:=Tryz.func127.trans (congrArg some (by kernel_rfl)),
 f166:=Tryz.func128.trans (congrArg some (by kernel_rfl)),
 f169:=Tryz.func129.trans (congrArg some (by kernel_rfl)),
 f240:=Tryz.func178.trans (congrArg some (by kernel_rfl)),
 f241:=Tryz.func179.trans (congrArg some (by kernel_rfl)),
 f276:=Tryz.func227.trans (congrArg some (by kernel_rfl)),
 f277:=Tryz.func228.trans (congrArg some (by kernel_rfl)),
 t0:=Tryz.underlying0,
 a0:=Tryz.isAgg0,
 z0:=Tryz.sizeOf0,
 v0:=Tryz.zeroValue0,
 t3:=Tryz.underlying3,
 a3:=Tryz.isAgg3,
 z3:=Tryz.sizeOf3,
 v3:=Tryz.zeroValue3,
 t4:=Tryz.underlying4,
 a4:=Tryz.isAgg4,
 z4:=Tryz.sizeOf4,
 v4:=Tryz.zeroValue4,
 t9:=Tryz.underlying9,
 a9:=Tryz.isAgg9,
 z9:=Tryz.sizeOf9,
 v9:=Tryz.zeroValue9,
 t20:=Tryz.underlying20,
 a20:=Tryz.isAgg20,
 z20:=Tryz.sizeOf20,
 v20:=Tryz.zeroValue20,
 t31:=Tryz.underlying122,
 a31:=Tryz.isAgg122,
 z31:=Tryz.sizeOf122,
 v31:=Tryz.zeroValue122,
 t37:=Tryz.underlying177,
 a37:=Tryz.isAgg177,
 z37:=Tryz.sizeOf177,
 v37:=Tryz.zeroValue177,
 t70:=Tryz.underlying176,
 a70:=Tryz.isAgg176,
 z70:=Tryz.sizeOf176,
 v70:=Tryz.zeroValue176,
 t72:=Tryz.underlying179,
 a72:=Tryz.isAgg179,
 z72:=Tryz.sizeOf179,
 v72:=Tryz.zeroValue179,
 t75:=Tryz.underlying110,
 a75:=Tryz.isAgg110,
 z75:=Tryz.sizeOf110,
 v75:=Tryz.zeroValue110,
 t76:=Tryz.underlying180,
 a76:=Tryz.isAgg180,
 z76:=Tryz.sizeOf180,
 v76:=Tryz.zeroValue180,
 t127:=Tryz.underlying250,
 a127:=Tryz.isAgg250,
 z127:=Tryz.sizeOf250,
 v127:=Tryz.zeroValue250,
 t164:=Tryz.underlying265,
 a164:=Tryz.isAgg265,
 z164:=Tryz.sizeOf265,
 v164:=Tryz.zeroValue265}
theorem Tryz.Ag:Builder.Extra Tryz.prog Tryz.JN where
 sizeBuilder:=by kernel_rfl
 liesBuilder:=by kernel_rfl
 t5:=Tryz.underlying5
 a5:=Tryz.isAgg5
 z5:=Tryz.sizeOf5
 v5:=Tryz.zeroValue5
 infoByte:=by kernel_rfl
 cellsByte:=by kernel_rfl
 sizeByte:=by kernel_rfl
 neB5:=by decide
end Go.Proofs
namespace Go.Proofs.Ybk.F
open Go.RowKit Go.Extern.Stop Go.Stop Go.Extern
theorem Ut (t:Value) (w:World):
  Calls Tryz.prog 147 #[.nilIface,t] w fun e w'=>e= .returned (.bool false)∧w'=w:=by
 go_enter Tryz.func147,Tryz.ntmps147;go_wp2;go_ret;exact⟨rfl,rfl⟩
theorem Fa.al7 (t:Addr) (w:World):(ReflectliteValue.unpack (.iface 209 (.pointer (some t)))).run Tryz.prog w
  = .ok (.agg #[.pointer (some ⟨5,209,none⟩),.pointer (some ⟨w.heap.size,0,none⟩),.int .u64 150]) (w.alloc (.cells #[.pointer (some t)] 209)):=by kernel_rfl
theorem Fa.type27 (a:Addr) (w:World):(ReflectliteValue.methodAny (ReflectliteValue.valueError "reflectlite.Value.Type" 0) (fun t _ _ _=>ReflectliteType.toType t) #[.agg #[.pointer (some ⟨5,209,none⟩),.pointer (some a),.int .u64 150]]).run Tryz.prog w
  = .ok (.iface 316 (.agg #[.pointer (some ⟨5,209,none⟩)])) w:=by kernel_rfl
theorem Fa.aaG (h:Value) (w:World):(Go.method 513 316 (.agg #[h]) "Kind").run Tryz.prog w= .ok (331,h) w:=by kernel_rfl
theorem Fa.Zx (w:World):((ReflectliteType.abiMethod fun t=>(fun a:Nat=>Value.int IntKind.u8 (a:Int)) <$> Rtype.kind t) #[.pointer (some ⟨5,209,none⟩)]).run Tryz.prog w= .ok (.int .u8 22) w:=by kernel_rfl
theorem Fa.Zw (w:World):((ReflectliteType.abiMethod fun t=>(fun a:Nat=>Value.int IntKind.u8 (a:Int)) <$> Rtype.kind t) #[.pointer (some ⟨5,207,none⟩)]).run Tryz.prog w= .ok (.int .u8 22) w:=by kernel_rfl
theorem Pd (z:Sem Value) (f:TypeId→Addr→Nat→Nat→Sem Value) (v:Value):
  ReflectliteValue.method z f #[v]=(do match←ReflectliteValue.parts v with|none=>z|some (t,a,fl)=>f t a fl (fl % 32)):=rfl
theorem Fa.OG (a:Addr) (w:World):(ReflectliteValue.parts (.agg #[.pointer (some ⟨5,209,none⟩),.pointer (some a),.int .u64 150])).run Tryz.prog w= .ok (some (209,a,150)) w:=by kernel_rfl
theorem Fa.Zb (a p:Addr) (W:World) (ha:W.cell? a=some (.pointer (some p))):
  (ReflectliteValue.method (ReflectliteValue.valueError "reflectlite.Value.IsNil" 0) ReflectliteValue.isNil #[.agg #[.pointer (some ⟨5,209,none⟩),.pointer (some a),.int .u64 150]]).run Tryz.prog W= .ok (.bool false) W:=by
 rw[Pd];simp only[Sem.run_bind,Fa.OG,Result.andThen];simp[ReflectliteValue.isNil,loadVar,isAgg,underlying,Tryz.underlying209,ha,Result.andThen]
theorem Fa.aaE (h:Value) (w:World):(Go.method 513 316 (.agg #[h]) "Elem").run Tryz.prog w= .ok (344,.agg #[h]) w:=by kernel_rfl
theorem Fa.aaF (h:Value) (w:World):(Go.method 513 316 (.agg #[h]) "Implements").run Tryz.prog w= .ok (345,.agg #[h]) w:=by kernel_rfl
theorem Fa.aaD (h:Value) (w:World):(Go.method 513 316 (.agg #[h]) "AssignableTo").run Tryz.prog w= .ok (342,.agg #[h]) w:=by kernel_rfl
theorem Fa.Xs (w:World):(ReflectliteType.method ReflectliteType.elem #[.agg #[.pointer (some ⟨5,209,none⟩)]]).run Tryz.prog w= .ok (.iface 316 (.agg #[.pointer (some ⟨5,207,none⟩)])) w:=by kernel_rfl
theorem Fa.YX (w:World):(ReflectliteType.relation "Implements" ReflectliteType.implements_ #[.agg #[.pointer (some ⟨5,207,none⟩)],.iface 316 (.agg #[.pointer (some ⟨5,110,none⟩)])]).run Tryz.prog w= .ok (.bool true) w:=by kernel_rfl
theorem Fa.alK (v:Value) (w:World):(ReflectliteType.typeOf #[.iface 207 v]).run Tryz.prog w= .ok (.iface 316 (.agg #[.pointer (some ⟨5,207,none⟩)])) w:=by kernel_rfl
theorem Fa.Uv (w:World):(ReflectliteType.relation "AssignableTo" ReflectliteType.assignableTo #[.agg #[.pointer (some ⟨5,207,none⟩)],.iface 316 (.agg #[.pointer (some ⟨5,207,none⟩)])]).run Tryz.prog w= .ok (.bool true) w:=by kernel_rfl
theorem Fa.al6 (e:Addr) (w:World):(ReflectliteValue.unpack (.iface 207 (.pointer (some e)))).run Tryz.prog w
  = .ok (.agg #[.pointer (some ⟨5,207,none⟩),.pointer (some ⟨w.heap.size,0,none⟩),.int .u64 150]) (w.alloc (.cells #[.pointer (some e)] 207)):=by kernel_rfl
theorem Fa.Xt (w:World):(Rtype.elem? 209).run Tryz.prog w= .ok (some 207) w:=by kernel_rfl
theorem Fa.aaH (p:Addr) (w:World):(ReflectliteValue.mk 207 p ReflectliteValue.flagAddr).run Tryz.prog w= .ok (.agg #[.pointer (some ⟨5,207,none⟩),.pointer (some p),.int .u64 406]) w:=by kernel_rfl
theorem Fa.Xu (a p:Addr) (W:World) (ha:W.cell? a=some (.pointer (some p))):
  (ReflectliteValue.method (ReflectliteValue.valueError "reflectlite.Value.Elem" 0) ReflectliteValue.elem #[.agg #[.pointer (some ⟨5,209,none⟩),.pointer (some a),.int .u64 150]]).run Tryz.prog W
   = .ok (.agg #[.pointer (some ⟨5,207,none⟩),.pointer (some p),.int .u64 406]) W:=by
 rw[Pd];simp only[Sem.run_bind,Fa.OG,Result.andThen];simp[ReflectliteValue.elem,loadVar,isAgg,underlying,Tryz.underlying209,ha,Result.andThen,Fa.Xt,Fa.aaH]
theorem aiq (v x:Value):ReflectliteValue.set #[v,x]=(do
  let (some (dst,a,fl),some (src,b,_)):=(←ReflectliteValue.parts v,←ReflectliteValue.parts x)
   |unsupported (.noEntry "extern/(internal/reflectlite.Value).Set.zeroValue")
  if fl / ReflectliteValue.flagAddr % 2==0 then unsupported (.noEntry "extern/(internal/reflectlite.Value).Set.unaddressable")
  let val ←loadVar src b
  if←Rtype.directlyAssignable dst src then storeVar dst a val
  else if←Rtype.implements dst src then
   if(←Rtype.kind src)==20 then
    match val with
    | .nilIface=>unsupported (.noEntry "extern/reflectlite: a nil value of one interface type handed on as a value of another")
    |_=>storeVar dst a val
   else storeVar dst a (.iface src val)
  else panicString ("reflectlite.Set: value of type " ++(←Rtype.spelt src)++ " is not assignable to type " ++(←Rtype.spelt dst))
  pure (.tuple #[])):=rfl
theorem Fa.agZ (a:Addr) (w:World):(ReflectliteValue.parts (.agg #[.pointer (some ⟨5,207,none⟩),.pointer (some a),.int .u64 406])).run Tryz.prog w= .ok (some (207,a,406)) w:=by kernel_rfl
theorem Fa.agY (a:Addr) (w:World):(ReflectliteValue.parts (.agg #[.pointer (some ⟨5,207,none⟩),.pointer (some a),.int .u64 150])).run Tryz.prog w= .ok (some (207,a,150)) w:=by kernel_rfl
theorem Fa.WJ (w:World):(Rtype.directlyAssignable 207 207).run Tryz.prog w= .ok true w:=by kernel_rfl
theorem Fa.ai0 (ta b e:Addr) (old:Value) (W:World) (hb:W.cell? b=some (.pointer (some e))) (ht:W.cell? ta=some old) (hf:W.frozen? ta=false):
  (ReflectliteValue.set #[.agg #[.pointer (some ⟨5,207,none⟩),.pointer (some ta),.int .u64 406],.agg #[.pointer (some ⟨5,207,none⟩),.pointer (some b),.int .u64 150]]).run Tryz.prog W
   = .ok (.tuple #[]) (W.setCell ta (.pointer (some e))):=by
 rw[aiq];simp only[Sem.run_bind,Fa.agZ,Fa.agY,Result.andThen];simp[ReflectliteValue.flagAddr,loadVar,isAgg,underlying,Tryz.underlying207,hb,Result.andThen,Fa.WJ,storeVar,Value.cells,storeCells,Addr.add];rw[run_store Tryz.prog W ta _ _ (by rfl)];simp[ht,hf]
set_option maxHeartbeats 4000000 in
theorem Us (e t:Addr) (old:Value) (w:World) (hg:w.cell? ⟨0,0,none⟩=some (.iface 316 (.agg #[.pointer (some ⟨5,110,none⟩)]))) (ht0:w.cell? t=some old) (hf0:w.frozen? t=false):
  Calls Tryz.prog 147 #[.iface 207 (.pointer (some e)),.iface 209 (.pointer (some t))] w fun ev w'=>ev= .returned (.bool true)∧w'=((((w.alloc (.cells #[.pointer (some t)] 209)).alloc (.cells #[.pointer (some ⟨5,209,none⟩),.pointer (some ⟨w.heap.size,0,none⟩),.int .u64 150] 268)).alloc (.cells #[.pointer (some ⟨5,209,none⟩),.pointer (some ⟨w.heap.size,0,none⟩),.int .u64 150] 268)).alloc (.cells #[.pointer (some e)] 207)).setCell t (.pointer (some e)):=by
 have h6:=@run_callFunc_extern Tryz.prog 198 _ (fun args=>ReflectliteValue.unpack (args.getD 0 (.tuple #[]))) Tryz.func198 (by kernel_rfl) (by kernel_rfl) (by kernel_rfl) (by kernel_rfl);have h7:=@run_callFunc_extern Tryz.prog 199 _ (ReflectliteValue.methodAny (ReflectliteValue.valueError "reflectlite.Value.Type" 0) (fun t _ _ _=>ReflectliteType.toType t)) Tryz.func199 (by kernel_rfl) (by kernel_rfl) (by kernel_rfl) (by kernel_rfl);have h8:=@run_callFunc_extern Tryz.prog 200 _ (ReflectliteValue.method (ReflectliteValue.valueError "reflectlite.Value.IsNil" 0) ReflectliteValue.isNil) Tryz.func200 (by kernel_rfl) (by kernel_rfl) (by kernel_rfl) (by kernel_rfl);have h27:=@run_callFunc_extern Tryz.prog 331 _ (ReflectliteType.abiMethod fun t=>do pure (.int .u8 (←Rtype.kind t))) Tryz.func331 (by kernel_rfl) (by kernel_rfl) (by kernel_rfl) (by kernel_rfl);have h37:=@run_callFunc_extern Tryz.prog 344 _ (ReflectliteType.method ReflectliteType.elem) Tryz.func344 (by kernel_rfl) (by kernel_rfl) (by kernel_rfl) (by kernel_rfl);have h38:=@run_callFunc_extern Tryz.prog 345 _ (ReflectliteType.relation "Implements" ReflectliteType.implements_) Tryz.func345 (by kernel_rfl) (by kernel_rfl) (by kernel_rfl) (by kernel_rfl);have h10:=@run_callFunc_extern Tryz.prog 242 _ ReflectliteType.typeOf Tryz.func242 (by kernel_rfl) (by kernel_rfl) (by kernel_rfl) (by kernel_rfl);have h35:=@run_callFunc_extern Tryz.prog 342 _ (ReflectliteType.relation "AssignableTo" ReflectliteType.assignableTo) Tryz.func342 (by kernel_rfl) (by kernel_rfl) (by kernel_rfl) (by kernel_rfl);have h11:=@run_callFunc_extern Tryz.prog 243 _ (ReflectliteValue.method (ReflectliteValue.valueError "reflectlite.Value.Elem" 0) ReflectliteValue.elem) Tryz.func243 (by kernel_rfl) (by kernel_rfl) (by kernel_rfl) (by kernel_rfl);have h12:=@run_callFunc_extern Tryz.prog 244 _ ReflectliteValue.set Tryz.func244 (by kernel_rfl) (by kernel_rfl) (by kernel_rfl) (by kernel_rfl);have tO:=Fa.alK;have mA:=Fa.aaD;have a25:=Fa.Uv;have v25:=Fa.al6;have f6:=Fa.al7;have f7:=Fa.type27;have mK:=Fa.aaG;have mE:=Fa.aaE;have mI:=Fa.aaF;have k27:=Fa.Zx;have k25:=Fa.Zw;have e27:=Fa.Xs;have i25:=Fa.YX;have n8:=Fa.Zb ⟨w.heap.size,0,none⟩ t ((w.alloc (.cells #[.pointer (some t)] 209)).alloc (.cells #[.pointer (some ⟨5,209,none⟩),.pointer (some ⟨w.heap.size,0,none⟩),.int .u64 150] 268)) (by simp);have hlt:0<w.heap.size:=by
  rcases Nat.eq_zero_or_pos w.heap.size with h0|h
  ·simp[World.cell?,h0]at hg
  ·exact h
 have hg2:((w.alloc (.cells #[.pointer (some t)] 209)).alloc (.cells #[.pointer (some ⟨5,209,none⟩),.pointer (some ⟨w.heap.size,0,none⟩),.int .u64 150] 268)).cell? ⟨0,0,none⟩=some (.iface 316 (.agg #[.pointer (some ⟨5,110,none⟩)])):=by
  rw[World.cell?_alloc_lt _ _ ⟨0,0,none⟩ (by simp),World.cell?_alloc_lt _ _ ⟨0,0,none⟩ hlt];exact hg
 have htl:t.block<w.heap.size:=by
  rcases Nat.lt_or_ge t.block w.heap.size with h|h
  ·exact h
  ·simp[World.cell?,Array.getElem?_eq_none h]at ht0
 have el:=Fa.Xu ⟨w.heap.size,0,none⟩ t (((w.alloc (.cells #[.pointer (some t)] 209)).alloc (.cells #[.pointer (some ⟨5,209,none⟩),.pointer (some ⟨w.heap.size,0,none⟩),.int .u64 150] 268)).alloc (.cells #[.pointer (some ⟨5,209,none⟩),.pointer (some ⟨w.heap.size,0,none⟩),.int .u64 150] 268)) (by rw[World.cell?_alloc_lt _ _ ⟨w.heap.size,0,none⟩ (by simp;omega)];simp);have st:=Fa.ai0 t ⟨w.heap.size+1+1+1,0,none⟩ e old ((((w.alloc (.cells #[.pointer (some t)] 209)).alloc (.cells #[.pointer (some ⟨5,209,none⟩),.pointer (some ⟨w.heap.size,0,none⟩),.int .u64 150] 268)).alloc (.cells #[.pointer (some ⟨5,209,none⟩),.pointer (some ⟨w.heap.size,0,none⟩),.int .u64 150] 268)).alloc (.cells #[.pointer (some e)] 207))
  (by rw[World.cell?_alloc_at _ _ _ _ (by simp)];rfl)
  (by rw[World.cell?_alloc_lt _ _ t (by simp;omega),World.cell?_alloc_lt _ _ t (by simp;omega),World.cell?_alloc_lt _ _ t (by simp;omega),World.cell?_alloc_lt _ _ t htl];exact ht0)
  (by rw[World.frozen?_alloc_old _ _ t (by simp;omega),World.frozen?_alloc_old _ _ t (by simp;omega),World.frozen?_alloc_old _ _ t (by simp;omega),World.frozen?_alloc_old _ _ t (Nat.ne_of_lt htl)];exact hf0)
 go_enter Tryz.func147,Tryz.ntmps147;go_wp2;refine wp_loop_rounds 1 ?_;rw[rounds_succ];go_wp2;go_ret;exact⟨rfl,rfl⟩
end Go.Proofs.Ybk.F
namespace Go.Am
open Go
def sd (P:Program):List Nat→Nat→List Oper→Bool
 |[],_,[]=>true
 |i::r,k,o::l=>decide (i=k)&&(eH P o.op&&sd P r (k+1) l)
 |_,_,_=>false
theorem ZO (pre:List Oper) (o:Oper) (l:List Oper):jJ default (pre++o::l) pre.length=o:=by
 induction pre with
 |nil=>rfl
 |cons a r ih=>exact ih
theorem YS {P:Program}:∀(perm:List Nat) (k:Nat) (l pre:List Oper),pre.length=k→sd P perm k l=true→perm.map (jJ default (pre++l))=l∧perm.all (fun i=>eH P (jJ default (pre++l) i).op)=true:=by
 intro perm;induction perm with
 |nil=>intro k l pre hk h;cases l with
  |nil=>exact⟨rfl,rfl⟩
  |cons o l=>simp[sd]at h
 |cons i r ih=>intro k l pre hk h;cases l with
  |nil=>simp[sd]at h
  |cons o l=>
   simp only[sd,bX,dP]at h
   obtain⟨rfl,h2,h3⟩:=h
   have:=ih (i+1) l (pre++[o]) (by simp[hk]) h3
   rw[eD]at this
   have e:jJ default (pre++o::l) i=o:=by rw[←hk];exact ZO pre o l
   refine⟨?_,?_⟩
   ·rw[eT,e];congr 1;exact this.1
   ·rw[List.all_cons,e,h2];exact this.2
theorem amn {P:Program} {cfg:az} {Q:Ex→St→Prop} {σ:St} (id:Nat) (l:List Oper) (h:sd P (cfg.draw id).perm 0 l=true) (ha:(cfg.draw id).alts=[]):vc P cfg (.region id l.toArray true) Q σ=gg P cfg.loc l.toArray (sS Q cfg id) l (qD (mf P l.toArray (cfg.draw id)) σ):=by
 obtain⟨h1,h2⟩:=YS (cfg.draw id).perm 0 l [] rfl h;simp only[dA]at h1 h2;rw[QD,ha];simp only[Oy];rw[if_pos h2,h1]
section
variable {P:Program} {loc:List Nat} {σ:St} {d:Option Nat} {ty:TypeId} {pos:String} {aft:Array Edge} {g:Option (Nat×Bool)}
theorem aj8 (t:TypeId) (r:Option Operand):cM P loc σ ⟨d,.makeMap t r,ty,pos,aft,g⟩=pO P σ t r:=rfl
theorem aj5 (t:TypeId) (x i:Operand) (ok:Bool):cM P loc σ ⟨d,.lookup t x i ok,ty,pos,aft,g⟩=oP P σ t x i ok:=rfl
theorem aka (t:TypeId) (x i y:Operand):cM P loc σ ⟨d,.mapUpdate t x i y,ty,pos,aft,g⟩=nJ P σ t x i y:=rfl
theorem aj2 (t:TypeId) (x i y:Operand):cM P loc σ ⟨d,.insert t x i y,ty,pos,aft,g⟩=nJ P σ t x i y:=rfl
theorem VG (t:TypeId) (r:Option Operand):dJ σ ⟨d,.makeMap t r,ty,pos,aft,g⟩=none:=rfl
theorem VD (t:TypeId) (x i:Operand) (ok:Bool):dJ σ ⟨d,.lookup t x i ok,ty,pos,aft,g⟩=none:=rfl
theorem VI (t:TypeId) (x i y:Operand):dJ σ ⟨d,.mapUpdate t x i y,ty,pos,aft,g⟩=none:=rfl
theorem VB (t:TypeId) (x i y:Operand):dJ σ ⟨d,.insert t x i y,ty,pos,aft,g⟩=none:=rfl
end
attribute [simp] aj8 aj5 aka aj2 VG VD VI VB pO oP nJ
end Go.Am
namespace Go.Am
open Go Go.RowKit
theorem Ur {α:Type} {a b:Array α} (hs:a.size≤b.size) (h:∀i,i<a.size→b[i]? =a[i]?):b=a++b.extract a.size b.size:=by
 apply Array.ext';rw[Array.toList_append,Array.toList_extract];apply List.ext_getElem?;intro i;by_cases hi:i<a.size
 ·rw[jz (by simpa using hi)];have:=h i hi;simpa using this
 ·rw[iW (by simpa using Nat.le_of_not_lt hi)];simp only[List.extract,Array.length_toList,List.getElem?_take,List.getElem?_drop];rw[show a.size+(i-a.size)=i by omega];split
  ·rfl
  ·rw[iK];simp;omega
theorem ao.grown {P:Program} {f:FuncId} {args:List Value} {post:Value→aa→Prop} {r:Value} (H:ao P f args h0 post) (hp:∀v h',post v h'→v=r) (hr:cA r=true) (ha:∀v∈args,cA v=true) (W:World):
  Calls P f ⟨args⟩ W fun e w'=>e= .returned r∧∃q os',w'=Sort.grow (W.drewN q) os':=by
 refine(H.2 qZ W args (fun _=>rfl) (aaR P W h0 rfl) ⟨rfl,fun i v hi=>⟨v,hi,.gu (ha v (dY hi))⟩⟩).mono ?_;rintro e w' ⟨v,v',h',ρ',rfl,q,_,_,T,hv⟩;obtain rfl:=hp _ _ q;have hv:=hv.cA hr;subst hv;refine⟨rfl,w'.drawn-W.drawn,w'.heap.extract W.heap.size w'.heap.size,?_⟩;have hh:=Ur T.size (fun i hi=>T.frame i hi (fun⟨b,pl,q,_⟩=>by simp[qZ]at q));obtain⟨heap,tape,drawn,os,output⟩:=w';have h1:=T.os;have h2:=T.tape;have h3:=T.output;have h4:=T.drawn rfl;simp only at h1 h2 h3 h4 hh;subst h1;subst h2;subst h3;simp only[Sort.grow,World.drewN];congr 1;omega
theorem rh {P:Program} {ρ:aF} {h:aa} {w w':World} {b:Nat} {pl:Pl} {e:TypeId} {cs cs':List Value} (R:je P ρ ⟨bV.nil,h⟩ w) (hk:ρ (false,b)=some pl) (hrow:h.f b= .row true e cs) (hl:cs'.length=cs.length)
  (os:w'.os=w.os) (tape:w'.tape=w.tape) (output:w'.output=w.output) (drawn:w.drawn≤w'.drawn) (size:w.heap.size≤w'.heap.size)
  (hother:∀B,B<w.heap.size→B≠pl.B→w'.heap[B]? =w.heap[B]?)
  (hcells:∀C e' fz,w.heap[pl.B]? =some (.cells C e' fz)→∃C',w'.heap[pl.B]? =some (.cells C' e' fz)∧C'.size=C.size∧∀(i:Nat) (v:Value),cs'[i]? =some v→∃v',C'[pl.o+i]? =some v'∧VR ρ v v'):
  je P ρ ⟨bV.nil,h.set b (.row true e cs')⟩ w'∧Tr ρ h w ρ (h.set b (.row true e cs')) w':=by
 have hbn:=R.dQ b pl hk;have hbound:=R.bound _ _ hk;have hf:∀b',b'≠b→(h.set b (.row true e cs')).f b'=h.f b':=fun b' hb'=>by rw[gT,if_neg hb']
 have hfb:(h.set b (.row true e cs')).f b= .row true e cs':=by rw[gT,if_pos rfl]
 have hwr:Mem.wr ⟨bV.nil,h⟩ (false,b):=by simp[Mem.wr,aa.wr,hrow]
 have hlive:∀k,Mem.live ⟨bV.nil,h.set b (.row true e cs')⟩ k→Mem.live ⟨bV.nil,h⟩ k:=by
  rintro⟨t,b'⟩ hl;cases t with
  |true=>exact hl
  |false=>
   by_cases hb':b'=b
   ·subst hb';simp[Mem.live,hrow]
   ·simp only[Mem.live,hf b' hb']at hl;exact hl
 have hwr':∀k,Mem.wr ⟨bV.nil,h.set b (.row true e cs')⟩ k→Mem.wr ⟨bV.nil,h⟩ k:=by
  rintro⟨t,b'⟩ hl;cases t with
  |true=>exact hl
  |false=>
   by_cases hb':b'=b
   ·subst hb';exact hwr
   ·simp only[Mem.wr,aa.wr,hf b' hb']at hl;exact hl
 have hsame:∀k pl',k≠(false,b)→ρ k=some pl'→Mem.live ⟨bV.nil,h⟩ k→w'.heap[pl'.B]? =w.heap[pl'.B]? :=fun k pl' hne q hlv=>
  hother _ (R.bound _ _ q) (fun e=>R.sep (false,b) k pl pl' (Ne.symm hne) hk q hwr hlv e.symm)
 refine⟨⟨fun k pl' q=>de (R.bound k pl' q) size,fun b' pl' q=>by rw[NO];exact R.dQ b' pl' q,?_,?_,fun k k' p p' hne q q' hw hlv=>R.sep k k' p p' hne q q' (hwr' k hw) (hlive k' hlv),fun i hi=>R.jX i hi⟩,?_⟩
 ·intro k pl' wr e1 cs1 q hr;by_cases hkb:k=(false,b)
  ·subst hkb;rw[hk]at q;obtain rfl:=bP q;simp only[Mem.row?,hfb,aw,bH]at hr;obtain⟨rfl,rfl,rfl⟩:=hr;obtain⟨C,e',fz,c1,c2,c3,c4,c5,c6⟩:=R.row (false,b) pl true e cs hk (by simp[Mem.row?,hrow]);obtain⟨C',d1,d2,d3⟩:=hcells C e' fz c1;exact⟨C',e',fz,d1,c2,by omega,by omega,c5,d3⟩
  ·have hr':Mem.row? ⟨bV.nil,h⟩ k=some (wr,e1,cs1):=by
    obtain⟨t,b'⟩:=k;cases t with
    |true=>exact hr
    |false=>
     have:b'≠b:=fun e=>hkb (by rw[e]);simp only[Mem.row?,hf b' this]at hr;exact hr
   obtain⟨C,e',fz,c1,c2⟩:=R.row k pl' wr e1 cs1 q hr'
   have hlv:Mem.live ⟨bV.nil,h⟩ k:=by
    obtain⟨t,b'⟩:=k;cases t with
    |true=>simp[Mem.row?,bV.nil,bV.look]at hr'
    |false=>
     simp only[Mem.row?]at hr';simp only[Mem.live];split at hr'
     ·rename_i hx;simp[hx]
     ·simp at hr'
   exact⟨C,e',fz,by rw[hsame k pl' hkb q hlv];exact c1,c2⟩
 ·intro b' pl' o q ho;by_cases hb':b'=b
  ·subst hb';rw[hfb]at ho;cases ho
  ·rw[hf b' hb']at ho;obtain⟨c1,c2⟩:=R.obj b' pl' o q ho;exact⟨by rw[hsame (false,b') pl' (by simpa using hb') q (by simp[Mem.live,ho])];exact c1,c2⟩
 ·refine⟨os,tape,output,fun _=>drawn,size,fun _ _ q=>q,a8 _,rfl,fun b' pl' q q'=>(by rw[q]at q';cases q'),fun b' hb' hd=>?_,fun b' hb' hw=>?_,fun B hB hO=>hother B hB (fun e=>hO ⟨b,pl,hk,e.symm,by simp[aa.wr,hrow]⟩)⟩
  ·by_cases e:b'=b
   ·subst e;rw[hrow];simp
   ·rwa[hf b' e]at hd
  ·by_cases e:b'=b
   ·subst e;simp[aa.wr,hrow]
   ·simp only[aa.wr,hf b' e]at hw;exact hw
end Go.Am
namespace Go.Am
open Go
structure Wk (h h':aa):Prop where
 n:h'.n=h.n
 g:h'.g=h.g
 f:∀b,h'.f b=h.f b∨∃e cs,h.f b= .row true e cs∧h'.f b= .row false e cs
theorem Wk.refl (h:aa):Wk h h:=⟨rfl,rfl,fun _=>.inl rfl⟩
theorem Wk.trans {h h' h'':aa} (a:Wk h h') (b:Wk h' h''):Wk h h'':=by
 refine⟨b.n.trans a.n,b.g.trans a.g,fun i=>?_⟩;rcases a.f i with q|⟨e,cs,q1,q2⟩
 ·rcases b.f i with p|⟨e,cs,p1,p2⟩
  ·exact .inl (p.trans q)
  ·exact .inr ⟨e,cs,by rw[←q];exact p1,p2⟩
 ·rcases b.f i with p|⟨e',cs',p1,p2⟩
  ·exact .inr ⟨e,cs,q1,p.trans q2⟩
  ·rw[q2]at p1;cases p1
theorem Wk.wr {h h':aa} (W:Wk h h') {b:Nat} (q:h'.wr b):h.wr b:=by
 rcases W.f b with e|⟨e,cs,q1,q2⟩
 ·unfold aa.wr at q ⊢;rwa[e]at q
 ·unfold aa.wr;rw[q1]
theorem Wk.live {h h':aa} (W:Wk h h') {b:Nat}:h'.f b≠.dead↔h.f b≠.dead:=by
 rcases W.f b with e|⟨e,cs,q1,q2⟩
 ·rw[e]
 ·rw[q1,q2];simp
theorem Wk.aaS {h h':aa} (W:Wk h h') {k:Key} (q:(Mem.mk bV.nil h').wr k):(Mem.mk bV.nil h).wr k:=by
 obtain⟨t,b⟩:=k;cases t with
 |true=>exact q
 |false=>exact W.wr q
theorem Wk.aaJ {h h':aa} (W:Wk h h') {k:Key} (q:(Mem.mk bV.nil h').live k):(Mem.mk bV.nil h).live k:=by
 obtain⟨t,b⟩:=k;cases t with
 |true=>exact q
 |false=>exact W.live.1 q
variable {P:Program} {ρ ρ':aF} {w w':World}
theorem Wk.rel {h h':aa} (W:Wk h h') (R:je P ρ ⟨bV.nil,h⟩ w):je P ρ ⟨bV.nil,h'⟩ w:=by
 refine⟨R.bound,fun b pl q=>by show b<h'.n;rw[W.n];exact R.dQ b pl q,?_,?_,fun k k' pl pl' hne q q' hw hl=>R.sep k k' pl pl' hne q q' (W.aaS hw) (W.aaJ hl),fun i hi=>R.jX i (by show i<h.g;rw[←W.g];exact hi)⟩
 ·rintro⟨t,b⟩ pl wr e cs q r;cases t with
  |true=>simp[Mem.row?,bV.nil,bV.look]at r
  |false=>
   rcases W.f b with p|⟨e1,cs1,p1,p2⟩
   ·refine R.row (false,b) pl wr e cs q ?_;simp only[Mem.row?]at r ⊢;rwa[p]at r
   ·simp only[Mem.row?,p2,aw,bH]at r;obtain⟨rfl,rfl,rfl⟩:=r;obtain⟨C,e',fz,c1,c2,c3,c4,c5,c6⟩:=R.row (false,b) pl true e1 cs1 q (by simp[Mem.row?,p1]);exact⟨C,e',fz,c1,fun z=>(by cases z),c3,c4,c5,c6⟩
 ·intro b pl o q r;rcases W.f b with p|⟨e1,cs1,p1,p2⟩
  ·exact R.obj b pl o q (by show h.f b=_;rw[←p];exact r)
  ·simp only[p2]at r;cases r
theorem Wk.tr {h0 h h':aa} (W:Wk h h') (T:Tr ρ h0 w ρ' h w'):Tr ρ h0 w ρ' h' w':=
 ⟨T.os,T.tape,T.output,T.drawn,T.size,T.ext,by rw[W.n];exact T.hn,by rw[W.g];exact T.hg,fun b pl q q'=>⟨(T.new b pl q q').1,fun z=>(T.new b pl q q').2 (W.live.1 z)⟩,
  fun b hb z=>T.dead b hb (W.live.1 z),fun b hb z=>T.lO b hb (W.wr z),T.frame⟩
theorem ao.jT {f:FuncId} {args:List Value} {h:aa} {post post':Value→aa→Prop} (H:ao P f args h post) (hp:∀v h',post v h'→∃h'',Wk h' h''∧post' v h''):ao P f args h post':=by
 refine⟨H.1,fun ρ w args' hb R V=>(H.2 ρ w args' hb R V).mono ?_⟩;rintro e w' ⟨v,v',h',ρ',q1,q2,q3,q4,q5,q6⟩;obtain⟨h'',W,q⟩:=hp v h' q2;exact⟨v,v',h'',ρ',q1,q,q3,W.rel q4,W.tr q5,q6⟩
def aZ.dB:aZ→aZ
 | .row _ e cs=>.row false e cs
 |x=>x
def aa.dB (h:aa) (b:Nat):aa:=h.set b (h.f b).dB
theorem aa.pE (h:aa) (b:Nat):Wk h (h.dB b):=by
 refine⟨rfl,rfl,fun i=>?_⟩;unfold aa.dB;rw[gT];split
 ·rename_i e;subst e;cases q:h.f i with
  |dead=>exact .inl rfl
  |row w e cs=>cases w with
   |true=>exact .inr ⟨e,cs,rfl,rfl⟩
   |false=>exact .inl rfl
  |obj o=>exact .inl rfl
 ·exact .inl rfl
structure cP (S:List Nat) (h h':aa):Prop where
 g:h'.g=h.g
 n:h.n≤h'.n
 f:∀b,b<h.n→b∉S→h'.f b=h.f b
theorem cP.fD {S:List Nat} {h h':aa} (E:Ext h h'):cP S h h':=⟨E.g,E.n,fun b hb _=>E.f b hb⟩
theorem cP.bJ (S:List Nat) (h:aa):cP S h h:=⟨rfl,a8 _,fun _ _ _=>rfl⟩
theorem cP.mono {S S':List Nat} {h h':aa} (C:cP S h h') (hs:∀b∈S,b<h.n→b∈S'):cP S' h h':=⟨C.g,C.n,fun b hb q=>C.f b hb (fun z=>q (hs b z hb))⟩
theorem cP.trans {S S':List Nat} {h h' h'':aa} (a:cP S h h') (b:cP S' h' h'') (hs:∀i∈S',i<h.n→i∈S):cP S h h'':=
 ⟨b.g.trans a.g,eW a.n b.n,fun i hi q=>(b.f i (de hi a.n) (fun z=>q (hs i z hi))).trans (a.f i hi q)⟩
theorem cP.wk {S:List Nat} {h h' h'':aa} (a:cP S h h') (W:Wk h' h'') (hs:∀b,b<h.n→b∉S→h''.f b=h'.f b):cP S h h'':=
 ⟨W.g.trans a.g,by rw[W.n];exact a.n,fun b hb q=>(hs b hb q).trans (a.f b hb q)⟩
theorem Ext.dB {h h':aa} (E:Ext h h') {b:Nat} (hb:h.n≤b):Ext h (h'.dB b):=E.dh hb _
def ic (S:List Nat) (h:aa):Prop:=∀b∈S,∃e cs,h.f b= .row true e cs
theorem ic.nil (h:aa):ic [] h:=fun b q=>by cases q
theorem ic.cons {S:List Nat} {h:aa} {b:Nat} {e:TypeId} {cs:List Value} (q:h.f b= .row true e cs) (H:ic S h):ic (b::S) h:=by
 intro i hi;rcases cE.1 hi with z|z
 ·subst z;exact⟨e,cs,q⟩
 ·exact H i z
theorem cP.obj {S:List Nat} {h h':aa} (C:cP S h h') (hs:ic S h) {b:Nat} {o:Obj} (hb:h.f b= .obj o) (hn:b<h.n):h'.f b= .obj o:=by
 rw[C.f b hn (fun z=>by obtain⟨e,cs,q⟩:=hs b z;rw[hb]at q;cases q),hb]
section
variable {α:Type}
def aK (e:TypeId) (enc:α→List Value) (h:aa) (v:Value) (xs:List α):Prop:=∃ad c,v= .slice ad xs.length c∧(ad=none→c=0)∧
 (xs=[]∨∃b off cells rest,ad=some ⟨b,off,none⟩∧h.f b= .row false e cells∧cells.drop off=xs.flatMap enc++rest∧off≤cells.length∧b<h.n)
variable {e:TypeId} {enc:α→List Value} {h0 h h':aa} {v:Value} {xs:List α}
theorem aK.sl (H:aK e enc h v xs):cU e enc h v xs:=by
 obtain⟨ad,c,q,n,z⟩:=H;refine⟨ad,c,q,n,?_⟩;rcases z with z|⟨b,off,cells,rest,z1,z2,z3,z4,z5⟩
 ·exact .inl z
 ·exact .inr ⟨b,off,false,cells,rest,z1,z2,z3,z4,z5⟩
theorem aK.nil:aK e enc h (.slice none 0 0) []:=⟨none,0,rfl,fun _=>rfl,.inl rfl⟩
theorem aK.shape (H:aK e enc h v xs):∃ad c,v= .slice ad xs.length c:=by obtain⟨ad,c,q,_⟩:=H;exact⟨ad,c,q⟩
theorem aK.ext (H:aK e enc h v xs) (E:Ext h h'):aK e enc h' v xs:=by
 obtain⟨ad,c,q,n,z⟩:=H;refine⟨ad,c,q,n,?_⟩;rcases z with z|⟨b,off,cells,rest,z1,z2,z3,z4,z5⟩
 ·exact .inl z
 ·exact .inr ⟨b,off,cells,rest,z1,by rw[E.f b z5,z2],z3,z4,de z5 E.n⟩
theorem aK.eY (H:aK e enc h v xs) {S:List Nat} (C:cP S h h') (hs:ic S h):aK e enc h' v xs:=by
 obtain⟨ad,c,q,n,z⟩:=H;refine⟨ad,c,q,n,?_⟩;rcases z with z|⟨b,off,cells,rest,z1,z2,z3,z4,z5⟩
 ·exact .inl z
 ·refine .inr ⟨b,off,cells,rest,z1,?_,z3,z4,de z5 C.n⟩;rw[C.f b z5 (fun z=>?_),z2];obtain⟨e1,cs,q⟩:=hs b z;rw[z2]at q;cases q
theorem aK.wk (H:aK e enc h v xs) (W:Wk h h'):aK e enc h' v xs:=by
 obtain⟨ad,c,q,n,z⟩:=H;refine⟨ad,c,q,n,?_⟩;rcases z with z|⟨b,off,cells,rest,z1,z2,z3,z4,z5⟩
 ·exact .inl z
 ·refine .inr ⟨b,off,cells,rest,z1,?_,z3,z4,by rw[W.n];exact z5⟩;rcases W.f b with q|⟨e1,cs,q,_⟩
  ·rw[q,z2]
  ·rw[z2]at q;cases q
theorem cU.dB (H:cU e enc h v xs):∃h',Wk h h'∧aK e enc h' v xs∧(∀b,h'.f b≠h.f b→v= .slice (some ⟨b,(match v with| .slice (some ad) _ _=>ad.off|_=>0),none⟩) xs.length (match v with| .slice _ _ c=>c|_=>0)):=by
 obtain⟨ad,c,rfl,n,z⟩:=H;rcases z with z|⟨b,off,w,cells,rest,rfl,z2,z3,z4,z5⟩
 ·exact⟨h,Wk.refl h,⟨ad,c,rfl,n,.inl z⟩,fun b q=>absurd rfl q⟩
 ·refine⟨h.dB b,h.pE b,⟨_,c,rfl,n,.inr ⟨b,off,cells,rest,rfl,?_,z3,z4,z5⟩⟩,fun b' q=>?_⟩
  ·unfold aa.dB;rw[gT,if_pos rfl,z2];rfl
  ·unfold aa.dB at q;rw[gT]at q;split at q
   ·rename_i e1;subst e1;rfl
   ·exact absurd rfl q
theorem cL.dB (H:cL e enc h0 h v xs) (E:Ext h0 h):∃h',Wk h h'∧Ext h0 h'∧aK e enc h' v xs:=by
 obtain⟨ad,rfl,z⟩:=H;rcases z with⟨rfl,rfl⟩|⟨b,rfl,z2,z3,z4⟩
 ·exact⟨h,Wk.refl h,E,aK.nil⟩
 ·refine⟨h.dB b,h.pE b,E.dB z3,⟨_,_,rfl,fun q=>(by cases q),.inr ⟨b,0,xs.flatMap enc,[],rfl,?_,by simp,by simp,z4⟩⟩⟩;unfold aa.dB;rw[gT,if_pos rfl,z2];rfl
theorem aK.at (k:Nat) (hk:∀x,(enc x).length=k) {ad:Option Addr} {n c:Nat} (H:aK e enc h (.slice ad n c) xs) {i:Nat} {t:α} (hi:xs[i]? =some t):
  n=xs.length∧∃b off cells rest,ad=some ⟨b,off,none⟩∧h.f b= .row false e cells∧cells.drop (off+i*k)=enc t++rest∧off+i*k+k≤cells.length∧b<h.n:=by
 have hf:=H;obtain⟨ad',c',q,_,z⟩:=hf;obtain⟨h1,b,off,w,cells,rest,h2,h3,h4,h5,h6⟩:=H.sl.at k hk hi;refine⟨h1,b,off,cells,rest,h2,?_,h4,h5,h6⟩;simp only[Value.slice.injEq]at q;obtain⟨rfl,rfl,rfl⟩:=q;rcases z with rfl|⟨b',off',cells',rest',z1,z2,z3,z4,z5⟩
 ·simp at hi
 ·rw[h2]at z1;simp only[aw,Addr.mk.injEq,and_true]at z1;obtain⟨rfl,rfl⟩:=z1;rw[h3]at z2;simp only[aZ.row.injEq]at z2;rw[h3,z2.1]
end
end Go.Am
namespace Go.Proofs.Ybk.F
open Go Go.Am Go.RowKit
theorem gM:PP=Tryz.prog:=by unfold PP;rfl
section
variable {P:Program} {ρ:aF} {h:aa} {w w':World} {m:Mem}
theorem aic (R:je P ρ m w) (size:w.heap.size≤w'.heap.size) (same:∀B,B<w.heap.size→w'.heap[B]? =w.heap[B]?):je P ρ m w':=
 ⟨fun k pl q=>de (R.bound k pl q) size,R.dQ,fun k pl wr e cs q r=>by rw[same _ (R.bound k pl q)];exact R.row k pl wr e cs q r,
  fun b pl o q r=>by rw[same _ (R.bound _ pl q)];exact R.obj b pl o q r,R.sep,R.jX⟩
theorem alI (hb:Below w.heap.size w w') (hg:h.g≠0):Tr ρ h w ρ h w':=
 ⟨hb.os,hb.tape,hb.output,fun e=>absurd e hg,hb.size,fun _ _ q=>q,a8 _,rfl,fun b pl q q'=>(by rw[q]at q';cases q'),fun _ _ q=>q,fun _ _ q=>q,fun B hB _=>hb.block B hB⟩
theorem zd {f:FuncId} {args:List Value} {post:Value→Prop} (hE:yT P f) (hg:h.g≠0)
  (H:∀(ρ:aF) (w:World) (args':List Value),je P ρ ⟨bV.nil,h⟩ w→my ρ args args'→Calls P f ⟨args'⟩ w fun e w'=>∃v,e= .returned v∧cA v=true∧post v∧Below w.heap.size w w'):
  ao P f args h (fun v h'=>h'=h∧post v):=by
 refine⟨hE,fun ρ w args' hb R V=>(H ρ w args' R V).mono ?_⟩;rintro e w' ⟨v,rfl,hf,hp,bel⟩;exact⟨v,v,h,ρ,rfl,⟨rfl,hp⟩,hb,aic R bel.size bel.block,alI bel hg,.gu hf⟩
theorem UA (w:World) (n:Nat) (os:Array Obj):Below w.heap.size w (Sort.grow (w.drewN n) os):=by
 refine⟨rfl,rfl,rfl,?_,fun k hk=>?_⟩
 ·show w.heap.size≤(w.heap++os).size;simp
 ·show(w.heap++os)[k]? =_;rw[Array.getElem?_append_left hk]
end
def cz (h:aa):Prop:=h.g=3∧3≤h.n∧(∃t f,h.f 0= .obj (.cells #[.iface 316 (.agg #[.pointer (some ⟨5,110,none⟩)])] t f))∧
 (∃t f,h.f 2= .obj (.cells (Lib.pow10Tab.map fun z=>Value.int .u64 z).toArray t f))
theorem cz.ext {h h':aa} (G:cz h) (E:Ext h h'):cz h':=by
 obtain⟨g1,g2,⟨t0,f0,g3⟩,⟨t1,f1,g4⟩⟩:=G;exact⟨by rw[E.g];exact g1,eW g2 E.n,⟨t0,f0,by rw[E.f 0 (by omega)];exact g3⟩,⟨t1,f1,by rw[E.f 2 (by omega)];exact g4⟩⟩
theorem cz.ne {h:aa} (G:cz h):h.g≠0:=by rw[G.1];decide
theorem cz.YI {h:aa} {ρ:aF} {w:World} (G:cz h) (R:je PP ρ ⟨bV.nil,h⟩ w):w.cell? ⟨0,0,none⟩=some (.iface 316 (.agg #[.pointer (some ⟨5,110,none⟩)])):=by
 obtain⟨g1,g2,⟨t0,f0,g3⟩,_⟩:=G;obtain⟨pl,q1,q2,q3⟩:=R.jX 0 (by show 0<h.g;omega);obtain⟨r1,_⟩:=R.obj 0 pl _ q1 g3;replace r1:=r1.plain rfl;rw[q2]at r1;simp[World.cell?,r1]
theorem cz.Bx {h:aa} {ρ:aF} {w:World} (G:cz h) (R:je PP ρ ⟨bV.nil,h⟩ w):Lib.TabIs Tryz.prog w "internal/strconv.uint64pow10" .u64 Lib.pow10Tab:=by
 obtain⟨g1,g2,_,⟨t1,f1,g4⟩⟩:=G;obtain⟨pl,q1,q2,q3⟩:=R.jX 2 (by show 2<h.g;omega);obtain⟨r1,_⟩:=R.obj 2 pl _ q1 g4;replace r1:=r1.plain rfl;rw[q2]at r1;unfold Lib.TabIs World.var?;have:Tryz.prog.globalNamed "internal/strconv.uint64pow10"=some 2:=by kernel_rfl
 rw[this];simp only[dZ,r1]
theorem Zd (n:Int) (hn: -9223372036854775808≤n∧n≤9223372036854775807) (h:aa) (G:cz h):ao PP 126 [.int .i64 n] h (fun v h'=>h'=h∧v= .string (B (Lib.itoa n))):=by
 refine zd ⟨Tryz.f126,by rw[gM];exact Tryz.func126,by kernel_rfl,by kernel_rfl⟩ G.ne fun ρ w args' R V=>?_;have hargs:args'=[.int .i64 n]:=by
  obtain⟨v0,hv0,V0⟩:=V.2 0 _ rfl;have:=V.1;match args',hv0,this with
  |[p],h0,_=>simp at h0;rw[h0,V0.dm rfl]
 subst hargs;have htab:=G.Bx R;rw[gM];refine(Any.strconv_Itoa Tryz.itoa n hn.1 hn.2 w htab).mono ?_;rintro e w' ⟨rfl,k,os,rfl⟩;exact⟨_,rfl,rfl,rfl,UA w k os⟩
def bM {α:Type} (e:TypeId) (enc:α→List Value) (h0 h:aa) (o:Option Nat) (xs:List α) (v:Value):Prop:=
 v= .slice (o.map fun b=>⟨b,0,none⟩) xs.length xs.length∧(match o with
  |none=>xs=[]
  |some b=>h.f b= .row true e (xs.flatMap enc)∧h0.n≤b∧b<h.n)
theorem bM.own {α:Type} {e:TypeId} {enc:α→List Value} {h0 h:aa} {o:Option Nat} {xs:List α} {v:Value} (H:bM e enc h0 h o xs v):cL e enc h0 h v xs:=by
 obtain⟨rfl,z⟩:=H;cases o with
 |none=>exact⟨none,rfl,.inl ⟨rfl,z⟩⟩
 |some b=>exact⟨_,rfl,.inr ⟨b,rfl,z.1,z.2.1,z.2.2⟩⟩
theorem bM.ext {α:Type} {e:TypeId} {enc:α→List Value} {h0 h h':aa} {o:Option Nat} {xs:List α} {v:Value} (H:bM e enc h0 h o xs v) (E:Ext h h'):bM e enc h0 h' o xs v:=by
 obtain⟨rfl,z⟩:=H;refine⟨rfl,?_⟩;cases o with
 |none=>exact z
 |some b=>exact⟨by rw[E.f b z.2.2];exact z.1,z.2.1,de z.2.2 E.n⟩
theorem bM.nh {α:Type} {e:TypeId} {enc:α→List Value} {h0 h:aa} {o:Option Nat} {xs:List α} {v:Value} (H:bM e enc h0 h o xs v) {b:Nat} (c:aZ) (hb:o≠some b):bM e enc h0 (h.set b c) o xs v:=by
 obtain⟨rfl,z⟩:=H;refine⟨rfl,?_⟩;cases o with
 |none=>exact z
 |some b'=>exact⟨by rw[gT,if_neg (fun q=>hb (by rw[q]))];exact z.1,z.2.1,z.2.2⟩
theorem bM.lt {α:Type} {e:TypeId} {enc:α→List Value} {h0 h:aa} {o:Option Nat} {xs:List α} {v:Value} (H:bM e enc h0 h o xs v) {m:Nat} (hm:h.n≤m):o≠some m:=by
 intro q;subst q;have:=H.2.2.2;omega
theorem bM.nil {α:Type} {e:TypeId} {enc:α→List Value} {h0 h:aa}:bM e enc h0 h none ([]:List α) (.slice none 0 0):=⟨rfl,rfl⟩
theorem bM.keep {α:Type} {e:TypeId} {enc:α→List Value} {h0 h:aa} {o:Option Nat} {xs:List α} {v:Value} (H:bM e enc h0 h o xs v) {b:Nat} (c0 c1:aZ) (hb:o≠some b):bM e enc h0 (((h.new c0).set b .dead).new c1) o xs v:=
 ((H.ext (Ext.new _ _)).nh _ hb).ext (Ext.new _ _)
theorem bM.push {α:Type} {e:TypeId} {enc:α→List Value} {h0 h:aa} {b:Nat} {xs:List α} {v:Value} (H:bM e enc h0 h (some b) xs v) (c0:aZ) (x:α) {cells:List Value} (hc:cells=(xs++[x]).flatMap enc):
  bM e enc h0 (((h.new c0).set b .dead).new (.row true e cells)) (some (h.n+1)) (xs++[x]) (.slice (some ⟨h.n+1,0,none⟩) (xs.length+1) (xs.length+1)):=by
 obtain⟨_,_,h1,h2⟩:=H;refine⟨by simp,?_,?_,?_⟩
 ·simp[hc]
 ·omega
 ·simp
theorem bM.yi {α:Type} {e:TypeId} {enc:α→List Value} {h0 h:aa} (hn:h0.n≤h.n) (c0:aZ) (x:α) {cells:List Value} (hc:cells=enc x):
  bM e enc h0 ((h.new c0).new (.row true e cells)) (some (h.n+1)) [x] (.slice (some ⟨h.n+1,0,none⟩) 1 1):=by
 refine⟨by simp,?_,?_,?_⟩
 ·simp[hc]
 ·omega
 ·simp
def lJ (l:List UInt8):List Value:=[.string (B l)]
theorem akq (xs:List (List UInt8)):xs.flatMap lJ=xs.map fun l=>Value.string (B l):=by
 induction xs with
 |nil=>rfl
 |cons a r ih=>rw[gF,ih];rfl
theorem Zi (v:Value) (xs:List (List UInt8)) (sep:List UInt8) (hl:xs.length≤1000000) (hj:(Lib.join xs sep).length≤140737488355328) (h0 h:aa) (G:cz h) (o:Option Nat) (H:bM 9 lJ h0 h o xs v):
  ao PP 87 [v,.string (B sep)] h (fun r h'=>h'=h∧r= .string (B (Lib.join xs sep))):=by
 refine zd ⟨Tryz.f87,by rw[gM];exact Tryz.func87,by kernel_rfl,by kernel_rfl⟩ G.ne fun ρ w args' R V=>?_;obtain⟨v0,hv0,V0⟩:=V.2 0 _ rfl;obtain⟨v1,hv1,V1⟩:=V.2 1 _ rfl;have e1:v1= .string (B sep):=V1.dm rfl;subst e1;have hargs:args'=[v0,.string (B sep)]:=by
  have:=V.1;match args',hv0,hv1,this with
  |[p,q],h0,h1,_=>simp at h0 h1;rw[h0,h1]
 subst hargs;obtain⟨rfl,ho⟩:=H;have em:(xs.map B).map (fun x:ByteArray=>x.data.toList)=xs:=by
  rw[tz];exact(List.map_congr_left (fun a _=>rfl)).trans (List.map_id _)
 rw[gM];cases o with
 |none=>
  simp only at ho;subst ho;cases V0;refine(Any.strings_Join_none Tryz.join Tryz.Ag none 0 (B sep) w).mono ?_;rintro e w' ⟨rfl,rfl⟩;exact⟨_,rfl,rfl,rfl,Below.refl _ _⟩
 |some b=>
  simp only at ho;obtain⟨hb,bI,bQ⟩:=ho;rcases V0.ni with⟨a',e,rfl⟩|⟨b',off,pl,cap,e,hk,hc,hn',rfl⟩
  ·have hx:xs=[]:=nu.1 e;subst hx;refine(Any.strings_Join_none Tryz.join Tryz.Ag (some a') 0 (B sep) w).mono ?_;rintro e w' ⟨rfl,rfl⟩;exact⟨_,rfl,rfl,rfl,Below.refl _ _⟩
  ·simp only[Addr.mk.injEq,and_true]at e;obtain⟨rfl,rfl⟩:=e;obtain⟨C,e',fz,c1,c2,c3,c4,c5,c6⟩:=R.row (false,b) pl true 9 (xs.flatMap lJ) hk (by simp[Mem.row?,hb]);have hcells:∀(j:Nat) x,(xs.map B)[j]? =some x→w.cell? ⟨pl.B,pl.o+0+j,none⟩=some (.string x):=by
    intro j x hx;rw[ix]at hx;cases hxj:xs[j]? with
    |none=>rw[hxj]at hx;cases hx
    |some l=>
     rw[hxj]at hx;simp only[fJ,aw]at hx;subst hx;obtain⟨v',q1,q2⟩:=c6 j (.string (B l)) (by rw[akq,ix,hxj];rfl);rw[q2.dm rfl]at q1;unfold World.cell?;simp only[c1,Option.isSome_none];simpa using q1
   have hbound:=R.bound _ _ hk;have hj':(Lib.join ((xs.map B).map (·.data.toList)) (B sep).data.toList).length≤140737488355328:=(by rw[em];exact hj);have:=Any.strings_Join Tryz.join Tryz.Ag pl.B (pl.o+0) cap (xs.map B) (B sep) w hcells hbound (by rw[cN];omega) (by rw[cN];exact hc) hj';rw[cN,em]at this;refine this.mono ?_;rintro e w' ⟨rfl,bel⟩;exact⟨_,rfl,rfl,rfl,bel⟩
structure FR where
 code:Int
 line:Int
 ah:Int
deriving DecidableEq
inductive eS (h:aa) (n:Nat):Value→List FR→Prop
 |nil:eS h n .nilIface []
 |cons (b:Nat) (f:FR) (E:Value) (l:List FR):h.f b= .row true 223 [.int .i64 f.code,.int .i64 f.line,.int .i64 f.ah,E]→b<n→eS h n E l→eS h n (.iface 207 (.pointer (some ⟨b,0,none⟩))) (f::l)
theorem eS.up {h h':aa} {n n':Nat} {E:Value} {l:List FR} (H:eS h n E l) (hn:n≤n') (hf:∀b,b<n→h'.f b=h.f b):eS h' n' E l:=by
 induction H with
 |nil=>exact .nil
 |cons b f E l h1 h2 _ ih=>exact .cons b f E l (by rw[hf b h2];exact h1) (by omega) ih
theorem eS.ext {h h':aa} {E:Value} {l:List FR} (H:eS h h.n E l) (X:Ext h h'):eS h' h'.n E l:=H.up X.n X.f
theorem Cv (tv:Value) (h:aa) (G:cz h):ao PP 147 [.nilIface,tv] h (fun v h'=>h'=h∧v= .bool false):=by
 refine zd ⟨Tryz.f147,by rw[gM];exact Tryz.func147,by kernel_rfl,by kernel_rfl⟩ G.ne fun ρ w args' R V=>?_;obtain⟨v0,hv0,V0⟩:=V.2 0 _ rfl;obtain⟨v1,hv1,V1⟩:=V.2 1 _ rfl;have e0:v0= .nilIface:=V0.dm rfl;subst e0;have hargs:args'=[.nilIface,v1]:=by
  have:=V.1;match args',hv0,hv1,this with
  |[p,q],h0,h1,_=>simp at h0 h1;rw[h0,h1]
 subst hargs;rw[gM];refine(Ut v1 w).mono ?_;rintro e w' ⟨rfl,rfl⟩;exact⟨_,rfl,rfl,rfl,Below.refl _ _⟩
theorem Cu (b t:Nat) (old:Value) (h:aa) (G:cz h) (ht:h.f t= .row true 207 [old]):
  ao PP 147 [.iface 207 (.pointer (some ⟨b,0,none⟩)),.iface 209 (.pointer (some ⟨t,0,none⟩))] h (fun v h'=>v= .bool true∧h'=h.set t (.row true 207 [.pointer (some ⟨b,0,none⟩)])):=by
 refine⟨⟨Tryz.f147,by rw[gM];exact Tryz.func147,by kernel_rfl,by kernel_rfl⟩,fun ρ w args' hbx R V=>?_⟩;obtain⟨v0,hv0,V0⟩:=V.2 0 _ rfl;obtain⟨v1,hv1,V1⟩:=V.2 1 _ rfl;have hargs:args'=[v0,v1]:=by
  have:=V.1;match args',hv0,hv1,this with
  |[p,q],h0,h1,_=>simp at h0 h1;rw[h0,h1]
 subst hargs;cases V0 with
 |iface _ _ u0 V0=>
 cases V1 with
 |iface _ _ u1 V1=>
 have V0':=V0;cases V0 with
 |ptr _ _ plb hkb=>
 cases V1 with
 |ptr _ _ plt hkt=>
 obtain⟨C,e',fz,c1,c2,c3,c4,c5,c6⟩:=R.row (false,t) plt true 207 [old] hkt (by simp[Mem.row?,ht]);obtain rfl:=c2 rfl;obtain⟨old',o1,o2⟩:=c6 0 old rfl;have hbt:=R.bound _ _ hkt;have ht0:w.cell? ⟨plt.B,plt.o+0,none⟩=some old':=by
  unfold World.cell?;simp only[c1,Option.isSome_none];simpa using o1
 have hf0:w.frozen? ⟨plt.B,plt.o+0,none⟩=false:=by
  unfold World.frozen?;simp only[c1];simp
 have hg:=G.YI R;have key:=Us ⟨plb.B,plb.o+0,none⟩ ⟨plt.B,plt.o+0,none⟩ old' w hg ht0 hf0;rw[←gM]at key;refine key.mono ?_;rintro e w' ⟨rfl,hw⟩;have hpush:∀(B:Nat) (o1 o2 o3 o4:Obj),B<w.heap.size→((((w.heap.push o1).push o2).push o3).push o4)[B]? =w.heap[B]? :=by
  intro B o1 o2 o3 o4 hB;rw[Array.getElem?_push,if_neg (by simp;omega),Array.getElem?_push,if_neg (by simp;omega),Array.getElem?_push,if_neg (by simp;omega),Array.getElem?_push,if_neg (by omega)]
 obtain⟨q1,q2⟩:=rh (w':=w') R hkt ht (cs':=[.pointer (some ⟨b,0,none⟩)]) rfl (by rw[hw];rfl) (by rw[hw];rfl) (by rw[hw];rfl) (by rw[hw];exact a8 _)
  (by rw[hw];simp only[World.setCell,World.alloc,Array.size_modify,Array.size_push];omega)
  (fun B hB hne=>by
   rw[hw];simp only[World.setCell,World.alloc];rw[Array.getElem?_modify,if_neg (Ne.symm hne),hpush B _ _ _ _ hB])
  (fun C2 e2 fz2 hC2=>by
   rw[c1]at hC2;simp only[aw,Obj.cells.injEq]at hC2;obtain⟨rfl,rfl,rfl⟩:=hC2;refine⟨C.setIfInBounds (plt.o+0) (.pointer (some ⟨plb.B,plb.o+0,none⟩)),?_,by simp,fun i v hi=>?_⟩
   ·rw[hw];simp only[World.setCell,World.alloc];rw[Array.getElem?_modify,if_pos rfl,hpush plt.B _ _ _ _ hbt,c1];rfl
   ·cases i with
    |succ i=>simp at hi
    |zero=>
     simp at hi;subst hi;have hlt:plt.o<C.size:=by
      rcases Nat.lt_or_ge plt.o C.size with z|z
      ·exact z
      ·rw[gQ,Array.getElem?_eq_none z]at o1;cases o1
     exact⟨_,by simp[hlt],V0'⟩)
 exact⟨.bool true,.bool true,_,ρ,rfl,⟨rfl,rfl⟩,hbx,q1,q2,.bool true⟩
end Go.Proofs.Ybk.F
namespace Go.Am
open Go Go.RowKit
def uo (g:Nat):aF:=fun k=>match k with
 |(false,i)=>if i<g then some ⟨i,0,0,0⟩else none
 |(true,_)=>none
def hN (g:Nat) (os:Nat→Obj):aa:=⟨g,g,fun b=>if b<g then .obj (os b)else .dead⟩
theorem sU {g:Nat} {k:Key} {pl:Pl} (h:uo g k=some pl):∃i,i<g∧k=(false,i)∧pl=⟨i,0,0,0⟩:=by
 obtain⟨t,i⟩:=k;cases t with
 |true=>simp[uo]at h
 |false=>
  simp only[uo]at h;split at h
  ·exact⟨i,by assumption,rfl,(bP h).symm⟩
  ·cases h
structure ry (P:Program) (g:Nat) (lay:Nat→Bool) (w:World) (ρ:aF) (h:aa):Prop where
 box:∀s,ρ (true,s)=none
 rel:je P ρ ⟨bV.nil,h⟩ w
 gl:h.g=g
 own:∀B,qt ρ h B→B<g∧lay B=true
 Cw:∀i,i<g→lay i=true→ρ (false,i)=some ⟨i,0,0,0⟩∧i<h.n∧∃o,qU o=true∧h.f i= .obj o∧w.heap[i]? =some o
 no:∀i,i<g→lay i=true→∀C t f,w.heap[i]? =some (.cells C t f)→∀(j:Nat) (z:Int),C[j]?≠some (.int .i64 z)
def hX (g:Nat) (lay:Nat→Bool) (os:Nat→Obj):aa:=⟨g,g,fun b=>if b<g∧lay b=true then .obj (os b)else .dead⟩
def AV:Value→Bool
 | .int _ _=>true
 | .string _=>true
 |_=>false
theorem ahF {ρ:aF} {v:Value} (h:AV v=true):VR ρ v v:=by
 cases v with
 |int k n=>exact .int _ _
 |string s=>exact .string _
 |_=>cases h
def RowX (w:World) (sz:Nat) (a:Option Addr) (len cap:Nat) (zs:List Value):Prop:=
 (a=none∧len=0∧cap=0∧zs=[])∨
 ∃x,a=some x∧len≤cap∧zs.length=cap*sz∧(∀i,i<zs.length→w.cell? (x.add i)=some (zs.getD i (.bool false)))∧zs.all AV=true∧(zs=[]∨∃n r,zs= .int .i64 n::r)
def ph (e:TypeId) (h:aa) (v:Value) (len:Nat) (zs:List Value):Prop:=∃ad c,v= .slice ad len c∧(ad=none→c=0)∧(len=0∨∃b cs,ad=some ⟨b,0,none⟩∧h.f b= .row false e (zs++cs)∧b<h.n)
theorem ph.ext {e:TypeId} {h h':aa} {v:Value} {len:Nat} {zs:List Value} (H:ph e h v len zs) (E:Ext h h'):ph e h' v len zs:=by
 obtain⟨ad,c,rfl,hc,z⟩:=H;refine⟨ad,c,rfl,hc,?_⟩;rcases z with z|⟨b,cs,rfl,h2,h3⟩
 ·exact .inl z
 ·exact .inr ⟨b,cs,rfl,by rw[E.f b h3];exact h2,de h3 E.n⟩
theorem ry.start (P:Program) {g:Nat} (lay:Nat→Bool) {w:World} (os:Nat→Obj) (hpl:∀i,qU (os i)=true) (hsz:g≤w.heap.size) (H:∀i,i<g→lay i=true→w.heap[i]? =some (os i)) (no:∀i,i<g→lay i=true→∀C t f,w.heap[i]? =some (.cells C t f)→∀(j:Nat) (z:Int),C[j]?≠some (.int .i64 z)):ry P g lay w (uo g) (hX g lay os):=by
 refine⟨fun s=>rfl,⟨?_,?_,?_,?_,?_,?_⟩,rfl,?_,?_,no⟩
 ·intro k pl q;obtain⟨i,hi,rfl,rfl⟩:=sU q;exact de hi hsz
 ·intro b pl q;obtain⟨i,hi,e,rfl⟩:=sU q;simp only[bH,true_and]at e;subst e;exact hi
 ·intro k pl wr e cs q r;obtain⟨i,hi,rfl,rfl⟩:=sU q;simp only[Mem.row?,hX]at r;split at r
  ·rename_i z;split at z
   ·cases z
   ·cases z
  ·cases r
 ·intro b pl o q r;obtain⟨i,hi,e,rfl⟩:=sU q;simp only[bH,true_and]at e;subst e;simp only[hX]at r;split at r
  ·rename_i z;cases r;exact⟨.AJ (hpl b) (H b hi z.2),rfl⟩
  ·cases r
 ·intro k k' pl pl' hne q q' _ _;obtain⟨i,hi,rfl,rfl⟩:=sU q;obtain⟨j,hj,rfl,rfl⟩:=sU q';intro e;simp only at e;exact hne (by rw[e])
 ·intro i hi;have hi':i<g:=hi;exact⟨⟨i,0,0,0⟩,by simp[uo,hi'],rfl,rfl⟩
 ·rintro B ⟨b,pl,q,rfl,hw⟩;obtain⟨i,hi,e,rfl⟩:=sU q;simp only[bH,true_and]at e;subst e;refine⟨hi,?_⟩;cases z:lay b with
  |true=>rfl
  |false=>simp[aa.wr,hX,z]at hw
 ·intro i hi hl;exact⟨by simp[uo,hi],hi,os i,hpl i,by simp[hX,hi,hl],H i hi hl⟩
theorem pF {P:Program} {g:Nat} {lay:Nat→Bool} {e:TypeId} {sz:Nat} (hc:P.cellsOf e=sz) (hs0:0<sz) {w:World} {ρ:aF} {h:aa} (L:ry P g lay w ρ h) {a:Option Addr} {len cap:Nat} {zs:List Value} (H:RowX w sz a len cap zs):
  ∃(h':aa) (v:Value) (ρ':aF),ry P g lay w ρ' h'∧Ext h h'∧(∀b pl,ρ (false,b)=some pl→ρ' (false,b)=some pl)∧VR ρ' v (.slice a len cap)∧ph e h' v len (zs.take (len*sz))∧(zs.take (len*sz)).length=len*sz:=by
 rcases H with⟨rfl,rfl,rfl,rfl⟩|⟨x,rfl,hl,hz,hcell,hpv,hfst⟩
 ·exact⟨h,_,ρ,L,Ext.bJ h,fun _ _ q=>q,.sY,⟨none,0,rfl,fun _=>rfl,.inl rfl⟩,by simp⟩
 ·by_cases hcap:cap=0
  ·subst hcap;have:len=0:=(by omega);subst this;exact⟨h,_,ρ,L,Ext.bJ h,fun _ _ q=>q,.oW default x 0,⟨_,_,rfl,fun _=>rfl,.inl rfl⟩,by simp⟩
  ·have hpos:0<zs.length:=(by rw[hz];exact Nat.mul_pos (by omega) hs0);have hc0:=hcell 0 hpos;obtain⟨blk,off,spot⟩:=x;have key:∀i,i<zs.length→∃C e fz,w.heap[blk]? =some (.cells C e fz)∧C[off+i]? =some (zs.getD i (.bool false))∧(i=0→spot=none):=by
    intro i hi;have:=hcell i hi;unfold World.cell? at this;rw[Go.Am.add_add]at this;split at this
    ·rename_i C e fz hh;split at this
     ·simp at this
     ·rename_i hs;refine⟨C,e,fz,hh,?_,fun e0=>?_⟩
      ·by_cases hi0:i=0
       ·subst hi0;simpa[Addr.add]using this
       ·simpa[Addr.add,hi0]using this
      ·subst e0;simpa[Addr.add]using hs
    ·simp at this
   obtain⟨C,e0,fz,hh,_,hsp⟩:=key 0 hpos;obtain rfl:=hsp rfl;have hC:∀i,i<zs.length→C[off+i]? =some (zs.getD i (.bool false)):=fun i hi=>by
    obtain⟨C',e',fz',q1,q2,_⟩:=key i hi;rw[hh]at q1;simp only[aw,Obj.cells.injEq]at q1;rw[q1.1];exact q2
   have hsz:off+zs.length≤C.size:=by
    have:=hC (zs.length-1) (by omega);have h2:off+(zs.length-1)<C.size:=(by rcases Nat.lt_or_ge (off+(zs.length-1)) C.size with z|z;exact z;rw[Array.getElem?_eq_none z]at this;cases this);omega
   have hblk:blk<w.heap.size:=by
    rcases Nat.lt_or_ge blk w.heap.size with z|z
    ·exact z
    ·rw[Array.getElem?_eq_none z]at hh;cases hh
   obtain⟨pl,hpl⟩:∃pl:Pl,pl=⟨blk,off,zs.length,sz⟩:=⟨_,rfl⟩;obtain⟨h',hh'⟩:∃h',h'=h.new (.row false e zs):=⟨_,rfl⟩;obtain⟨ρ',hρ'⟩:∃ρ':aF,ρ'=fun k=>if k=(false,h.n)then some pl else ρ k:=⟨_,rfl⟩;have E:Ext h h':=(by rw[hh'];exact Ext.new h _);have hold:∀k pl',ρ k=some pl'→ρ' k=some pl':=fun k pl' q=>by
    obtain⟨t,b⟩:=k;rw[hρ'];cases t with
    |true=>rw[L.box]at q;cases q
    |false=>
     have:=L.rel.dQ b pl' q;simp only at this;show(if((false,b):Key)=(false,h.n)then some pl else ρ (false,b))=some pl';rw[if_neg (by simp;omega)];exact q
   have hcase:∀k pl',ρ' k=some pl'→(k=(false,h.n)∧pl'=pl)∨(k≠(false,h.n)∧ρ k=some pl'):=fun k pl' q=>by
    rw[hρ']at q;simp only at q;split at q
    ·rename_i e1;exact .inl ⟨e1,(bP q).symm⟩
    ·rename_i e1;exact .inr ⟨e1,q⟩
   have hfold:∀b pl',ρ (false,b)=some pl'→h'.f b=h.f b:=fun b pl' q=>E.f b (L.rel.dQ b pl' q);have hfnew:h'.f h.n= .row false e zs:=(by rw[hh'];simp[aa.new]);have hblkg:∀B,B<g∧lay B=true→B≠blk:=by
    rintro B ⟨z1,z2⟩ rfl;have q:=hC 0 hpos;rcases hfst with e|⟨n,r,e⟩
    ·rw[e]at hpos;simp at hpos
    ·rw[e]at q;exact absurd q (L.no B z1 z2 C e0 fz hh _ n)
   have nowr:∀k pl',ρ' k=some pl'→(Mem.mk bV.nil h').wr k→∃b,k=(false,b)∧ρ (false,b)=some pl'∧h.wr b:=by
    intro k pl' q hw;obtain⟨t,b⟩:=k;rcases hcase _ _ q with⟨e1,_⟩|⟨_,q'⟩
    ·simp only[bH]at e1;obtain⟨rfl,rfl⟩:=e1;simp[Mem.wr,aa.wr,hfnew]at hw
    ·cases t with
     |true=>rw[L.box]at q';cases q'
     |false=>
      refine⟨b,rfl,q',?_⟩;simp only[Mem.wr,aa.wr]at hw;rw[hfold b pl' q']at hw;exact hw
   have hn':h'.n=h.n+1:=(by rw[hh'];rfl);have R:je P ρ' ⟨bV.nil,h'⟩ w:=by
    refine⟨fun k pl' q=>?_,fun b pl' q=>?_,fun k pl' wr e' cs q r=>?_,fun b pl' o q r=>?_,fun k k' pl1 pl2 hne q q' hw hl=>?_,fun i hi=>?_⟩
    ·rcases hcase _ _ q with⟨_,rfl⟩|⟨_,q'⟩
     ·rw[hpl];exact hblk
     ·exact L.rel.bound k pl' q'
    ·rcases hcase _ _ q with⟨e1,_⟩|⟨_,q'⟩
     ·simp only[bH,true_and]at e1;show b<h'.n;omega
     ·have:=L.rel.dQ b pl' q';exact de this E.n
    ·rcases hcase _ _ q with⟨rfl,rfl⟩|⟨_,q'⟩
     ·simp only[Mem.row?,hfnew,aw,bH]at r;obtain⟨rfl,rfl,rfl⟩:=r;subst hpl;refine⟨C,e0,fz,hh,by simp,by simp,hsz,hc.symm,fun i v hi=>?_⟩;have hlt:i<zs.length:=(by rw[cY]at hi;exact hi.1);refine⟨_,hC i hlt,?_⟩;rw[bB,hi];exact ahF (cq.1 hpv v (dY hi))
     ·obtain⟨t,b⟩:=k;cases t with
      |true=>rw[L.box]at q';cases q'
      |false=>
       have r':(Mem.mk bV.nil h).row? (false,b)=some (wr,e',cs):=by
        simp only[Mem.row?]at r ⊢;rw[hfold b pl' q']at r;exact r
       obtain⟨C1,e1,fz1,c1,c2,c3,c4,c5,c6⟩:=L.rel.row _ _ _ _ _ q' r';exact⟨C1,e1,fz1,c1,c2,c3,c4,c5,fun i v hi=>let ⟨v',z1,z2⟩:=c6 i v hi;⟨v',z1,z2.mono fun b pl z=>hold _ _ z⟩⟩
    ·rcases hcase _ _ q with⟨e1,rfl⟩|⟨_,q'⟩
     ·simp only[bH,true_and]at e1;subst e1;simp only at r;rw[hfnew]at r;cases r
     ·have r:=L.rel.obj b pl' o q' (by simp only at r ⊢;rw[hfold b pl' q']at r;exact r);exact⟨r.1.mono (fun b pl z=>hold _ _ z),r.2⟩
    ·obtain⟨b,rfl,q1,hwb⟩:=nowr _ _ q hw;have h1:=L.own pl1.B ⟨b,pl1,q1,rfl,hwb⟩;rcases hcase _ _ q' with⟨_,rfl⟩|⟨_,q2⟩
     ·rw[hpl];simp only;exact hblkg _ h1
     ·obtain⟨t,b'⟩:=k';cases t with
      |true=>rw[L.box]at q2;cases q2
      |false=>
       refine L.rel.sep (false,b) (false,b') pl1 pl2 hne q1 q2 hwb ?_;simp only[Mem.live]at hl ⊢;rw[hfold b' pl2 q2]at hl;exact hl
    ·have hg':h'.g=h.g:=(by rw[hh'];rfl);obtain⟨pl',z1,z2⟩:=L.rel.jX i (by simp only at hi ⊢;omega);exact⟨pl',hold _ _ z1,z2⟩
   refine⟨h',.slice (some ⟨h.n,0,none⟩) len len,ρ',⟨fun s=>?_,R,by rw[hh'];exact L.gl,fun B ⟨b,pl',q,e2,hw⟩=>?_,fun i hi hlay=>?_,L.no⟩,E,fun b pl' q=>hold _ _ q,?_,?_,?_⟩
   ·rw[hρ'];show(if((true,s):Key)=(false,h.n)then some pl else ρ (true,s))=none;rw[if_neg (by simp)];exact L.box s
   ·obtain⟨b',e3,q1,hwb⟩:=nowr (false,b) pl' q hw;simp only[bH,true_and]at e3;subst e3;rw[←e2];exact L.own pl'.B ⟨b,pl',q1,rfl,hwb⟩
   ·obtain⟨z1,z2,o,zp,z3,z4⟩:=L.Cw i hi hlay;exact⟨hold _ _ z1,by omega,o,zp,by rw[E.f i z2];exact z3,z4⟩
   ·have hk:ρ' (false,h.n)=some pl:=(by rw[hρ'];simp);have:=VR.sl (ρ:=ρ') h.n 0 len len pl cap hk hl (by rw[hpl];simp only;omega);rw[hpl]at this;simpa using this
   ·refine⟨_,_,rfl,fun q=>by simp at q,?_⟩;by_cases hl0:len=0
    ·exact .inl hl0
    ·exact .inr ⟨h.n,zs.drop (len*sz),rfl,by rw[hfnew,rI],by omega⟩
   ·rw[cQ,hz];have:=Nat.mul_le_mul_right sz hl;omega
theorem RowX.ud {w:World} {a:Option Addr} {len cap:Nat} {zs:List Int} (H:IntsW w a len cap zs):RowX w 1 a len cap (zs.map (Value.int .i64)):=by
 rcases H with⟨h1,h2,h3,h4⟩|⟨x,h1,h2,h3,h4⟩
 ·exact .inl ⟨h1,h2,h3,by rw[h4];rfl⟩
 ·refine .inr ⟨x,h1,h2,by rw[cN];omega,fun i hi=>?_,?_,?_⟩
  ·rw[cN]at hi;rw[h4 i hi,bB,bB,ix,av hi];rfl
  ·rw[cq];intro v hv;obtain⟨n,_,rfl⟩:=dI.1 hv;rfl
  ·cases zs with
   |nil=>exact .inl rfl
   |cons n r=>exact .inr ⟨n,r.map (Value.int .i64),rfl⟩
theorem xy {P:Program} {g:Nat} {lay:Nat→Bool} {f:FuncId} {args args':List Value} {h:aa} {ρ:aF} {w:World} (L:ry P g lay w ρ h) (H:ao P f args h (fun v h'=>Ext h h'∧v= .bool true)) (V:my ρ args args'):
  Calls P f ⟨args'⟩ w fun e w'=>e= .returned (.bool true)∧Below w.heap.size w w':=by
 refine(H.2 ρ w args' L.box L.rel V).mono ?_;rintro e w' ⟨v,v',h',ρ',rfl,⟨E,rfl⟩,_,R,T,hv⟩;cases hv;refine⟨rfl,T.os,T.tape,T.output,T.size,fun k hk=>?_⟩;by_cases z:k<g∧lay k=true
 ·obtain⟨z1,z2,o,zp,z3,z4⟩:=L.Cw k z.1 z.2;rw[z4];exact(R.obj k _ o (T.ext k _ z1) (by show h'.f k=_;rw[E.f k z2];exact z3)).1.plain zp
 ·exact T.frame k hk (fun o=>z (L.own k o))
end Go.Am
namespace Go.Proofs.Ybk.K
open Go Go.Am Go.RowKit
def xz (i:Nat):Bool:= !(i==1)
def isLaid (w:World):Prop:=(∃t f,w.heap[0]? =some (.cells #[.iface 316 (.agg #[.pointer (some ⟨5,110,none⟩)])] t f))∧
 (∃t f,w.heap[2]? =some (.cells (Lib.pow10Tab.map fun z=>Value.int .u64 z).toArray t f))
theorem start_of {w:World} (L:isLaid w):∃h ρ,ry PP 3 xz w ρ h∧F.cz h:=by
 obtain⟨⟨t,f,L⟩,t2,f2,L2⟩:=L;have hs:3≤w.heap.size:=by
  rcases Nat.lt_or_ge 2 w.heap.size with z|z
  ·exact z
  ·rw[Array.getElem?_eq_none z]at L2;cases L2
 refine⟨_,_,ry.start PP (g:=3) xz (fun i=>if i=0 then .cells #[.iface 316 (.agg #[.pointer (some ⟨5,110,none⟩)])] t f else .cells (Lib.pow10Tab.map fun z=>Value.int .u64 z).toArray t2 f2) (fun i=>?_) hs (fun i hi hl=>?_) (fun i hi hl C t' f' hC j z=>?_),rfl,a8 _,⟨t,f,?_⟩,t2,f2,?_⟩
 ·split<;>rfl
 ·match i,hi,hl with
  |0,_,_=>exact L
  |1,_,hl=>cases hl
  |2,_,_=>exact L2
 ·match i,hi,hl with
  |0,_,_=>
   rw[L]at hC;simp only[aw,Obj.cells.injEq]at hC;rw[←hC.1];rcases j with _|j
   ·simp
   ·simp
  |1,_,hl=>cases hl
  |2,_,_=>
   rw[L2]at hC;simp only[aw,Obj.cells.injEq]at hC;rw[←hC.1];simp only[List.getElem?_toArray,ix];cases Lib.pow10Tab[j]? <;>simp
 ·simp[hX,xz]
 ·simp[hX,xz]
end Go.Proofs.Ybk.K
namespace Go.Proofs.YtbcdmljanolkeaaGreatDoor.AmBR
open Go Go.Am
def list:List (String×DataW Unit):=[("math/bits.deBruijn32tab",Rows.laid_math_bits_deBruijn32tab),("math/bits.deBruijn64tab",Rows.laid_math_bits_deBruijn64tab),("internal/strconv.uint64pow10",Rows.laid_internal_strconv_uint64pow10),("errors.errorType",Rows.laid_errors_errorType)]
theorem et:Tryz.prog.globalNamed "errors.errorType"=some 0:=by kernel_rfl
theorem pt:Tryz.prog.globalNamed "internal/strconv.uint64pow10"=some 2:=by kernel_rfl
theorem rt:(Tryz.prog.cutTypes.find? (·.1== "internal/reflectlite.rtype")).map (·.2)=some 316:=by kernel_rfl
theorem af8:((List.range 413).filter fun t=>Tryz.prog.rowNamed t [101,114,114,111,114])=[110]:=by kernel_rfl
theorem size:Tryz.prog.types.size=413:=by kernel_rfl
theorem JC:(list.filter fun x=>x.2.handleName?.isSome)=[("errors.errorType",Rows.laid_errors_errorType)]:=by rfl
theorem rest:(list.filter fun x=>x.2.handleName?.isNone)=[("math/bits.deBruijn32tab",Rows.laid_math_bits_deBruijn32tab),("math/bits.deBruijn64tab",Rows.laid_math_bits_deBruijn64tab),("internal/strconv.uint64pow10",Rows.laid_internal_strconv_uint64pow10)]:=by rfl
theorem Bx:(Rows.laid_internal_strconv_uint64pow10:DataW Unit)=Lib.tabData .u64 Lib.pow10Tab:=by rfl
theorem CT {P:Program} {w:World} {n:String} {g:Nat} {cs:Array Value} (hg:P.globalNamed n=some g) (h:w.var? P n=some cs):∃t f,w.heap[g]? =some (.cells cs t f):=by
 simp only[World.var?,hg,dZ]at h;split at h
 ·rename_i C t f e;simp only[aw]at h;subst h;exact⟨t,f,e⟩
 ·cases h
theorem isLaid_of {W:World} (h:laidMetH Tryz.prog list W):Ybk.K.isLaid W:=by
 obtain⟨h1,h2⟩:=laidMetH_iff.1 h;rw[JC]at h2;rw[rest]at h1;constructor
 ·obtain⟨name,u,ty,e1,e2,e3,e4,e5⟩:=h2 _ (eo.2 rfl);have en:name=[101,114,114,111,114]:=(bP e1).symm;subst en;obtain rfl:=bP (rt.symm.trans e2);have hm:ty∈(List.range 413).filter fun t=>Tryz.prog.rowNamed t [101,114,114,111,114]:=ig.2 ⟨dv.2 (by rw[←size];exact e3),e4⟩;rw[af8]at hm;obtain rfl:=eo.1 hm;have hh:typeHandle Tryz.prog 110= .pointer (some ⟨5,110,none⟩):=by kernel_rfl
  rw[hh]at e5;exact CT et e5
 ·have h3:=h1.tail.tail;rw[Bx]at h3;have h4:=Lib.tabIs_of_head (g:=2) (t:=377) (e:=184) (n:=20) pt (by kernel_rfl) (by kernel_rfl) (by kernel_rfl) (by kernel_rfl) (by kernel_rfl) h3;exact CT pt h4
noncomputable def laidWorld (os:Os):World:=
 let w0:=World.holding Tryz.prog os ⟨#[],#[],[]⟩
 {w0 with heap:=(((w0.heap.modify 0 fun
   | .cells _ t frozen=>.cells #[.iface 316 (.agg #[.pointer (some ⟨5,110,none⟩)])] t frozen
   |o=>o).modify 2 fun
   | .cells _ t frozen=>.cells (Lib.pow10Tab.map fun z=>Value.int .u64 z).toArray t frozen
   |o=>o).modify 3 fun
   | .cells _ t frozen=>.cells (([0,1,28,2,29,14,24,3,30,22,20,15,25,17,4,8,31,27,13,23,21,19,16,7,26,12,18,6,11,5,10,9]:List Int).map fun z=>Value.int .u8 z).toArray t frozen
   |o=>o).modify 4 fun
   | .cells _ t frozen=>.cells (([0,1,56,2,57,49,28,3,61,58,42,50,38,29,17,4,62,47,59,36,45,43,51,22,53,39,33,30,24,18,12,5,63,55,48,27,60,41,37,16,46,35,44,21,52,32,23,11,54,26,40,15,34,20,31,10,25,14,19,9,13,8,7,6]:List Int).map fun z=>Value.int .u8 z).toArray t frozen
   |o=>o}
theorem laidWorld_met (os:Os) (args:Array Value):laidMetH Tryz.prog list ((laidWorld os).forCall (fun _ _=>0) ⟨#[],args,[]⟩).memory:=
 laidMetH_of_parts (by rw[rest];exact laidMet_of_run' 8 (by kernel_rfl) (by kernel_rfl)) (by rw[JC];kernel_rfl)
end Go.Proofs.YtbcdmljanolkeaaGreatDoor.AmBR
namespace Go.Proofs.Ybk.Sized
open Go.ChangeShapes Go.WideShapes
theorem sized_ints {H:Type} {enc:TypeId×Value→H} {P:Program} {W:World} {base:Nat} {spare:Nat→Bool} {held:Bool} {t e:TypeId} {k:IntKind} {a:Option Addr} {len cap:Nat} {d:DataW H} {ps:List MemPlace} {ts:List TypeId} {ds:List (DataW H)} {j:Nat}
  (hsz:(DataW.weightsEach P ts ds).all (·≤reachBytes)=true) (ht:ts[j]? =some t) (hd:ds[j]? =some d) (hu:P.underlying t=some (.slice e)) (he:P.underlying e=some (.int k)) (hc:P.cellsOf e=1) {B:Nat} (hB:P.bytesOf e=B)
  (h:DataW.Trod enc P W base spare held t (.slice a len cap) d ps):len*B≤140737488351232:=by
 obtain⟨fuel,hf⟩:=h;rcases open_ints hu he hc hf with⟨hcs,_⟩|⟨x,l,c,zs,hcs,_,hl,_,hz,hx,_,_⟩
 ·simp[Value.cells]at hcs;obtain⟨rfl,rfl,rfl⟩:=hcs;simp
 ·simp[Value.cells]at hcs;obtain⟨rfl,rfl,rfl⟩:=hcs;obtain⟨hx,_⟩:=Prod.mk.inj hx;subst hx;have z:=sized_slice hsz ht hd hu;rw[hB]at z;have hl2:len≤zs.length:=by
   rw[hz];split
   ·exact hl
   ·exact a8 _
  have h1:(lits (H:=H) k (zs.take len)).length+(lits (H:=H) k (zs.drop len)).length=zs.length:=by
   simp[lits];omega
  rw[h1]at z;exact eW (Nat.mul_le_mul_right _ hl2) z
end Go.Proofs.Ybk.Sized
namespace Go.Proofs.Ybk.V
open Go Go.Am
set_option maxHeartbeats 2000000
structure aq where
 row:Int
 x:Int
 y:Int
 kind:Int
deriving DecidableEq
structure aU where
 x:Int
 y:Int
 r:Int
deriving DecidableEq
def au (s:aq):List Value:=[.int .i64 s.row,.int .i64 s.x,.int .i64 s.y,.int .i64 s.kind]
def bg (p:aU):List Value:=[.int .i64 p.x,.int .i64 p.y,.int .i64 p.r]
def ab (n:Int):List Value:=[.int .i64 n]
def bD (s:aq):Value:=.agg ⟨au s⟩
theorem gK (s:aq):(au s).length=4:=rfl
theorem pQ (s:aU):(bg s).length=3:=rfl
theorem dV (s:Int):(ab s).length=1:=rfl
abbrev cF:=cU 99 au
abbrev cJ:=cU 103 bg
abbrev bq:=cU 3 ab
def eP (a b:aq):Bool:=decide (a.row<b.row) || (decide (a.row=b.row)&&decide (a.x<b.x))
theorem Aq (a b:aq) (h:aa):ao PP 165 [bD a,bD b] h (fun v h'=>h'=h∧v= .bool (eP a b)):=by
 refine aC mix (aD Tryz.func165) rfl rfl rfl adI ?_;simp only[ai,Tryz.f165];unfold eP;by_cases h1:a.row<b.row
 ·simp[bD,au,h1]
 ·by_cases h2:a.row=b.row
  ·simp[bD,au,h1,h2]
  ·simp[bD,au,h1,h2]
def aB (n lo hi:Int):Bool:=decide (lo≤n)&&decide (n≤hi)
theorem xq (n lo hi:Int) (h:aa):ao PP 174 [.int .i64 n,.int .i64 lo,.int .i64 hi] h (fun v h'=>h'=h∧v= .bool (aB n lo hi)):=by
 refine aC mix (aD Tryz.func174) rfl rfl rfl adV ?_;simp only[ai,Tryz.f174];unfold aB;by_cases h1:lo≤n
 ·simp[h1]
 ·simp[h1]
theorem Pg (n:Int) (h:aa):ao PP 257 [.int .i64 n] h (fun v h'=>h'=h∧v= .bool (aB n 0 999)):=by
 refine aC mix (aD Tryz.func257) rfl rfl rfl aeQ ?_;simp only[ai,Tryz.f257];simp;refine(xq n 0 999 h).mono ?_;rintro v h' ⟨rfl,rfl⟩;simp[af]
theorem rS (n:Int) (h:aa):ao PP 225 [.int .i64 n] h (fun v h'=>h'=h∧v= .bool (aB n (-1048576) 1048576)):=by
 refine aC mix (aD Tryz.func225) rfl rfl rfl aeC ?_;simp only[ai,Tryz.f225];simp;refine(xq n (-1048576) 1048576 h).mono ?_;rintro v h' ⟨rfl,rfl⟩;simp[af]
theorem yn (n:Int) (h:aa):ao PP 173 [.int .i64 n] h (fun v h'=>h'=h∧v= .bool (aB n 1 1048576)):=by
 refine aC mix (aD Tryz.func173) rfl rfl rfl adU ?_;simp only[ai,Tryz.f173];simp;refine(xq n 1 1048576 h).mono ?_;rintro v h' ⟨rfl,rfl⟩;simp[af]
def jK (s:aq):Bool:=aB s.kind 0 2&&(aB s.row 0 999&&(aB s.x (-1048576) 1048576&&aB s.y (-1048576) 1048576))
theorem aiU (s:aq) (h:aa):ao PP 224 [bD s] h (fun v h'=>h'=h∧v= .bool (jK s)):=by
 refine aC mix (aD Tryz.func224) rfl rfl rfl aeB ?_;simp only[ai,Tryz.f224];by_cases hk:s.kind=0∨s.kind=1∨s.kind=2
 ·have hkk:aB s.kind 0 2=true:=by simp[aB];omega
  unfold jK;rw[hkk];rcases hk with hk|hk|hk;all_goals
   simp[bD,au,hk]
   refine(Pg s.row h).mono ?_
   rintro v h' ⟨rfl,rfl⟩
   simp[af]
   intro _
   by_cases h1:aB s.row 0 999=true
   ·simp[h1]
    refine(rS s.x h').mono ?_
    rintro v h2 ⟨rfl,rfl⟩
    simp[af]
    intro _
    by_cases h3:aB s.x (-1048576) 1048576=true
    ·simp[h3]
     refine(rS s.y h2).mono ?_
     rintro v h4 ⟨rfl,rfl⟩
     simp[af]
    ·simp[h3]
   ·simp[h1]
 ·have hkk:aB s.kind 0 2=false:=by simp[aB];omega
  have h0:¬s.kind=0:=by omega
  have h1:¬s.kind=1:=by omega
  have h2:¬s.kind=2:=by omega
  simp[bD,au,h0,h1,h2,jK,hkk]
theorem all_false {f:Nat→Bool} {n i:Nat} (hi:i<n) (h:f i=false):(List.range n).all f=false:=by
 rw[Bool.eq_false_iff];intro q;rw[cq]at q;have:=q i (dv.2 hi);rw[h]at this;cases this
theorem all_succ {f:Nat→Bool} {i:Nat} (h:(List.range i).all f=true) (hf:f i=true):(List.range (i+1)).all f=true:=by
 rw[nY,List.all_append,h];simp[hf]
def fB (l:List aq) (i:Nat):Bool:=match l[i]? with
 |some s=>jK s&&(decide (i=0) || (match l[i-1]? with|some p=>eP p s|none=>true))
 |none=>true
def gB (l:List aq):Bool:=(List.range l.length).all (fB l)&&(decide (0<l.length)&&decide (l.length≤4096))
def Sg (s:Value) (l:List aq) (m:Nat) (h:aa) (n:Nat) (σ:St):Prop:=∃i:Nat,n=m-i∧i≤m∧σ.m.h=h∧σ.t.get 0=some s∧σ.t.get 5=some s∧σ.t.get 6=some (.int .i64 (m:Nat))∧σ.t.get 7=some (.int .i64 (i:Nat))∧(List.range i).all (fB l)=true
theorem aiZ (s:Value) (l:List aq) (hl:l.length≤1073741824) (h:aa) (hs:cF h s l):ao PP 172 [s] h (fun v h'=>h'=h∧v= .bool (gB l)):=by
 refine aC mix (aD Tryz.func172) rfl rfl rfl adT ?_;simp only[ai,Tryz.f172];obtain⟨ad,c,rfl⟩:=hs.shape;obtain⟨m,hm⟩:∃m,m=l.length:=⟨_,rfl⟩;rw[←hm]at hs ⊢;simp -implicitDefEqProofs;refine bL (Sg (.slice ad m c) l m h) _ ⟨0,rfl,by omega,rfl,by simp,by simp,by simp,by simp,rfl⟩ ?_;rintro n ⟨T,⟨x,H⟩⟩ ⟨i,rfl,hi,hH,g0,g5,g6,g7,aQ⟩;simp at hH g0 g5 g6 g7;subst hH;simp -implicitDefEqProofs[g0,g5,g6,g7];refine bY (fun hc=>?_) (fun hc=>?_)
 ·have hil:i<m:=by omega
  have hti:l[i]? =some l[i]:=av (by omega);obtain⟨_,b,o,wb,cs,r,rfl,hb,hd,hlc,_⟩:=hs.at 4 gK hti;obtain⟨t,ht⟩:∃t,t=l[i]:=⟨_,rfl⟩;rw[←ht]at hd hti;have w1:=bU (i:=i) (by omega);have hlc':o+i*4+4≤cs.length:=hlc;have fin:fB l i=false→gB l=false:=fun hp=>by unfold gB;rw[all_false (by omega) hp];rfl
  simp -implicitDefEqProofs[g0,g5,g6,g7,hil,hb,hd,hlc',au];refine(aiU t H).mono ?_;rintro v h' ⟨rfl,rfl⟩;simp -implicitDefEqProofs[aJ];intro _;by_cases h1:jK t=true
  ·by_cases h2:i=0
   ·subst h2;have hp:fB l 0=true:=(by simp[fB,hti,h1]);simp -implicitDefEqProofs[h1];exact⟨m-1,by omega,1,rfl,by omega,rfl,by simp[g0],by simp[g5],by simp[g6],by simp[bK],all_succ aQ hp⟩
   ·have fQ:i-1<m:=(by omega);have htp:l[i-1]? =some l[i-1]:=av (by omega);obtain⟨p,hp⟩:∃p,p=l[i-1]:=⟨_,rfl⟩;rw[←hp]at htp;obtain⟨_,b',o',wb',cs',r',e1,hb',hd',hlc2,_⟩:=hs.at 4 gK htp;simp only[aw,Addr.mk.injEq,and_true]at e1;obtain⟨rfl,rfl⟩:=e1;rw[hb]at hb';simp only[aZ.row.injEq,true_and]at hb';obtain⟨rfl,rfl⟩:=hb';obtain⟨j,hj⟩:∃j,j=i-1:=⟨_,rfl⟩;rw[←hj]at hd' hlc2 fQ;have w2:IntKind.wrap .i64 ((i:Int)-1)=(j:Int):=(by rw[bK (by omega)];omega);have h0:(0:Int)<(i:Int):=(by omega);have hlc3:o+j*4+4≤cs.length:=hlc2;simp -implicitDefEqProofs[h1,h0,h2,w2,fQ,hb,hd',hlc3,au,show 0<i by omega];refine(Aq p t h').mono ?_;rintro v h'' ⟨rfl,rfl⟩;simp -implicitDefEqProofs[aJ];intro _;by_cases h3:eP p t=true
    ·have hp:fB l i=true:=(by simp[fB,hti,h1,htp,h3]);simp -implicitDefEqProofs[h3,g0,g5,g6,g7,w1];exact⟨m-(i+1),by omega,i+1,rfl,by omega,rfl,by simp[g0],by simp[g5],by simp[g6],by simp,all_succ aQ hp⟩
    ·have hp:fB l i=false:=(by simp[fB,hti,h1,htp,h3,h2]);simp -implicitDefEqProofs[h3,fin hp]
  ·have hp:fB l i=false:=(by simp[fB,hti,h1]);simp -implicitDefEqProofs[h1,fin hp]
 ·have:i=m:=by omega
  subst this;rw[hm]at aQ;have he:gB l=(decide (0<l.length)&&decide (l.length≤4096)):=by unfold gB;rw[aQ];rfl
  rw[he,←hm];by_cases h1:0<i
  ·by_cases h2:(i:Int)≤4096
   ·have h2':i≤4096:=(by omega);simp -implicitDefEqProofs[g0,h1,h2,h2']
   ·have h2':¬i≤4096:=(by omega);simp -implicitDefEqProofs[g0,h1,h2,h2']
  ·have:i=0:=(by omega);subst this;simp -implicitDefEqProofs[g0]
def gG (l:List Int) (n:Int) (i:Nat):Bool:=match l[i]? with
 |some x=>decide (0≤x)&&(decide (x<n)&&(decide (i=0) || (match l[i-1]? with|some p=>decide (p<x)|none=>true)))
 |none=>true
def il (l:List Int) (n:Int):Bool:=(List.range l.length).all (gG l n)&&decide (l.length≤200)
def Sh (s:Value) (l:List Int) (k:Int) (m:Nat) (h:aa) (n:Nat) (σ:St):Prop:=∃i:Nat,n=m-i∧i≤m∧σ.m.h=h∧σ.t.get 0=some s∧σ.t.get 1=some (.int .i64 k)∧σ.t.get 7=some s∧σ.t.get 8=some (.int .i64 (m:Nat))∧σ.t.get 9=some (.int .i64 (i:Nat))∧(List.range i).all (gG l k)=true
theorem Zt (s:Value) (l:List Int) (k:Int) (hl:l.length≤1073741824) (h:aa) (hs:bq h s l):ao PP 175 [s,.int .i64 k] h (fun v h'=>h'=h∧v= .bool (il l k)):=by
 refine aC mix (aD Tryz.func175) rfl rfl rfl adW ?_;simp only[ai,Tryz.f175];obtain⟨ad,c,rfl⟩:=hs.shape;obtain⟨m,hm⟩:∃m,m=l.length:=⟨_,rfl⟩;rw[←hm]at hs ⊢;simp -implicitDefEqProofs;refine bL (Sh (.slice ad m c) l k m h) _ ⟨0,rfl,by omega,rfl,by simp,by simp,by simp,by simp,by simp,rfl⟩ ?_;rintro n ⟨T,⟨x,H⟩⟩ ⟨i,rfl,hi,hH,g0,g1,g7,g8,g9,aQ⟩;simp at hH g0 g1 g7 g8 g9;subst hH;simp -implicitDefEqProofs[g0,g1,g7,g8,g9];refine bY (fun hc=>?_) (fun hc=>?_)
 ·have hil:i<m:=by omega
  have hti:l[i]? =some l[i]:=av (by omega);obtain⟨_,b,o,wb,cs,r,rfl,hb,hd,hlc,_⟩:=hs.at 1 dV hti;obtain⟨t,ht⟩:∃t,t=l[i]:=⟨_,rfl⟩;rw[←ht]at hd hti;have w1:=bU (i:=i) (by omega);have hlc':o+i+1≤cs.length:=by omega
  rw[Nat.mul_one]at hd;have fin:gG l k i=false→il l k=false:=fun hp=>by unfold il;rw[all_false (by omega) hp];rfl
  by_cases h1:t<0
  ·have hp:gG l k i=false:=(by simp[gG,hti];omega);simp -implicitDefEqProofs[g0,g1,g7,g8,g9,hil,hb,hd,hlc',ab,h1,fin hp]
  ·by_cases h2:k≤t
   ·have hp:gG l k i=false:=(by simp[gG,hti];omega);simp -implicitDefEqProofs[g0,g1,g7,g8,g9,hil,hb,hd,hlc',ab,h1,h2,fin hp]
   ·by_cases h3:i=0
    ·subst h3;have hp:gG l k 0=true:=(by simp[gG,hti];omega);simp only[gQ]at hd hlc';simp -implicitDefEqProofs[g0,g1,g7,g8,g9,hil,hb,hd,hlc',ab,h1,h2];exact⟨m-1,by omega,1,rfl,by omega,rfl,by simp[g0],by simp[g1],by simp[g7],by simp[g8],by simp[bK],all_succ aQ hp⟩
    ·have fQ:i-1<m:=(by omega);have htp:l[i-1]? =some l[i-1]:=av (by omega);obtain⟨p,hp⟩:∃p,p=l[i-1]:=⟨_,rfl⟩;rw[←hp]at htp;obtain⟨_,b',o',wb',cs',r',e1,hb',hd',hlc2,_⟩:=hs.at 1 dV htp;simp only[aw,Addr.mk.injEq,and_true]at e1;obtain⟨rfl,rfl⟩:=e1;rw[hb]at hb';simp only[aZ.row.injEq,true_and]at hb';obtain⟨rfl,rfl⟩:=hb';obtain⟨j,hj⟩:∃j,j=i-1:=⟨_,rfl⟩;rw[←hj,Nat.mul_one]at hd' hlc2;have hjm:j<m:=(by omega);have w2:IntKind.wrap .i64 ((i:Int)-1)=(j:Int):=(by rw[bK (by omega)];omega);have h0:(0:Int)<(i:Int):=(by omega);have h0':0<i:=(by omega);by_cases h4:t≤p
     ·have hp:gG l k i=false:=(by simp[gG,hti,htp,h3];omega);simp -implicitDefEqProofs[g0,g1,g7,g8,g9,hil,hb,hd,hlc',ab,h1,h2,h0,h0',h3,w2,hjm,hd',hlc2,h4,fin hp]
     ·have hp:gG l k i=true:=(by simp[gG,hti,htp,h3];omega);simp -implicitDefEqProofs[g0,g1,g7,g8,g9,hil,hb,hd,hlc',ab,h1,h2,h0,h0',h3,w2,hjm,hd',hlc2,h4,w1];exact⟨m-(i+1),by omega,i+1,rfl,by omega,rfl,by simp[g0],by simp[g1],by simp[g7],by simp[g8],by simp,all_succ aQ hp⟩
 ·have:i=m:=by omega
  subst this;rw[hm]at aQ;have he:il l k=decide (l.length≤200):=by unfold il;rw[aQ];rfl
  rw[he,←hm];by_cases h2:(i:Int)≤200
  ·have h2':i≤200:=(by omega);simp -implicitDefEqProofs[g0,g1,h2,h2']
  ·have h2':¬i≤200:=(by omega);simp -implicitDefEqProofs[g0,g1,h2,h2']
def ky (p:aU):Bool:=aB p.x (-1048576) 1048576&&(aB p.y (-1048576) 1048576&&aB p.r 1 1048576)
def iF (l:List aU) (i:Nat):Bool:=match l[i]? with
 |some p=>ky p
 |none=>true
def jb (l:List aU):Bool:=(List.range l.length).all (iF l)&&decide (l.length≤200)
def Si (s:Value) (l:List aU) (m:Nat) (h:aa) (n:Nat) (σ:St):Prop:=∃i:Nat,n=m-i∧i≤m∧σ.m.h=h∧σ.t.get 0=some s∧σ.t.get 5=some s∧σ.t.get 6=some (.int .i64 (m:Nat))∧σ.t.get 7=some (.int .i64 (i:Nat))∧(List.range i).all (iF l)=true
theorem ahI (s:Value) (l:List aU) (hl:l.length≤1073741824) (h:aa) (hs:cJ h s l):ao PP 176 [s] h (fun v h'=>h'=h∧v= .bool (jb l)):=by
 refine aC mix (aD Tryz.func176) rfl rfl rfl adX ?_;simp only[ai,Tryz.f176];obtain⟨ad,c,rfl⟩:=hs.shape;obtain⟨m,hm⟩:∃m,m=l.length:=⟨_,rfl⟩;rw[←hm]at hs ⊢;simp -implicitDefEqProofs;refine bL (Si (.slice ad m c) l m h) _ ⟨0,rfl,by omega,rfl,by simp,by simp,by simp,by simp,rfl⟩ ?_;rintro n ⟨T,⟨x,H⟩⟩ ⟨i,rfl,hi,hH,g0,g5,g6,g7,aQ⟩;simp at hH g0 g5 g6 g7;subst hH;simp -implicitDefEqProofs[g0,g5,g6,g7];refine bY (fun hc=>?_) (fun hc=>?_)
 ·have hil:i<m:=by omega
  have hti:l[i]? =some l[i]:=av (by omega);obtain⟨_,b,o,wb,cs,r,rfl,hb,hd,hlc,_⟩:=hs.at 3 pQ hti;obtain⟨t,ht⟩:∃t,t=l[i]:=⟨_,rfl⟩;rw[←ht]at hd hti;have w1:=bU (i:=i) (by omega);have hlc':o+i*3+3≤cs.length:=hlc;have fin:iF l i=false→jb l=false:=fun hp=>by unfold jb;rw[all_false (by omega) hp];rfl
  simp -implicitDefEqProofs[g0,g5,g6,g7,hil,hb,hd,hlc',bg];refine(rS t.x H).mono ?_;rintro v h' ⟨rfl,rfl⟩;simp -implicitDefEqProofs[af];intro _;by_cases h1:aB t.x (-1048576) 1048576=true
  ·simp -implicitDefEqProofs[h1];refine(rS t.y h').mono ?_;rintro v h2 ⟨rfl,rfl⟩;simp -implicitDefEqProofs[af];intro _;by_cases h3:aB t.y (-1048576) 1048576=true
   ·simp -implicitDefEqProofs[h3];refine(yn t.r h2).mono ?_;rintro v h4 ⟨rfl,rfl⟩;simp -implicitDefEqProofs[af];intro _;by_cases h5:aB t.r 1 1048576=true
    ·have hp:iF l i=true:=(by simp[iF,hti,ky,h1,h3,h5]);simp -implicitDefEqProofs[h5,g0,g5,g6,g7,w1];exact⟨m-(i+1),by omega,i+1,rfl,by omega,rfl,by simp[g0],by simp[g5],by simp[g6],by simp,all_succ aQ hp⟩
    ·have hp:iF l i=false:=(by simp[iF,hti,ky,h1,h3,h5]);simp -implicitDefEqProofs[h5,fin hp]
   ·have hp:iF l i=false:=(by simp[iF,hti,ky,h1,h3]);simp -implicitDefEqProofs[h3,fin hp]
  ·have hp:iF l i=false:=(by simp[iF,hti,ky,h1]);simp -implicitDefEqProofs[h1,fin hp]
 ·have:i=m:=by omega
  subst this;rw[hm]at aQ;have he:jb l=decide (l.length≤200):=by unfold jb;rw[aQ];rfl
  rw[he,←hm];by_cases h2:(i:Int)≤200
  ·have h2':i≤200:=(by omega);simp -implicitDefEqProofs[g0,h2,h2']
  ·have h2':¬i≤200:=(by omega);simp -implicitDefEqProofs[g0,h2,h2']
structure aj where
 ag:List aq
 aW:Int
 bC:Int
 aE:List Int
 aI:List aU
def bR (h:aa) (v:aj) (cs:List Value):Prop:=∃s k p,cs=[s,.int .i64 v.aW,.int .i64 v.bC,k,p]∧cF h s v.ag∧bq h k v.aE∧cJ h p v.aI
theorem bR.ext {h h':aa} {v:aj} {cs:List Value} (H:bR h v cs) (E:Ext h h'):bR h' v cs:=by
 obtain⟨s,k,p,rfl,h1,h2,h3⟩:=H;exact⟨s,k,p,rfl,h1.ext E,h2.ext E,h3.ext E⟩
def kf (v:aj):Prop:=v.ag.length≤1073741824∧v.aE.length≤1073741824∧v.aI.length≤1073741824
def mo (v:aj):List UInt8:=
 if gB v.ag=false then[115,101,97,116,115]
 else if aB v.aW 1 1048576=false then[103,97,112]
 else if aB v.bC 0 1048576=false then[114,97,100,105,117,115]
 else if il v.aE v.ag.length=false then[107,105,108,108,115]
 else if jb v.aI=false then[112,111,108,101,115]
 else[]
theorem mq (v:aj) (cs:List Value) (hv:kf v) (h:aa) (H:bR h v cs):ao PP 125 [.agg ⟨cs⟩] h (fun r h'=>h'=h∧r= .string (B (mo v))):=by
 refine aC mix (aD Tryz.func125) rfl rfl rfl ac8 ?_;simp only[ai,Tryz.f125];obtain⟨s,k,p,rfl,h1,h2,h3⟩:=H;obtain⟨ad1,c1,e1⟩:=h1.shape;obtain⟨ad2,c2,e2⟩:=h2.shape;obtain⟨ad3,c3,e3⟩:=h3.shape;subst e1;subst e2;subst e3;unfold mo;simp -implicitDefEqProofs;refine(aiZ _ v.ag hv.1 h h1).mono ?_;rintro r h' ⟨rfl,rfl⟩;simp -implicitDefEqProofs[af];intro _;by_cases q1:gB v.ag=true
 ·simp -implicitDefEqProofs[q1];refine(yn v.aW h').mono ?_;rintro r h' ⟨rfl,rfl⟩;simp -implicitDefEqProofs[af];intro _;by_cases q2:aB v.aW 1 1048576=true
  ·simp -implicitDefEqProofs[q2];refine(xq v.bC 0 1048576 h').mono ?_;rintro r h' ⟨rfl,rfl⟩;simp -implicitDefEqProofs[af];intro _;by_cases q3:aB v.bC 0 1048576=true
   ·simp -implicitDefEqProofs[q3];refine(Zt _ v.aE v.ag.length hv.2.1 h' h2).mono ?_;rintro r h' ⟨rfl,rfl⟩;simp -implicitDefEqProofs[af];intro _;by_cases q4:il v.aE v.ag.length=true
    ·simp -implicitDefEqProofs[q4];refine(ahI _ v.aI hv.2.2 h' h3).mono ?_;rintro r h' ⟨rfl,rfl⟩;simp -implicitDefEqProofs[af];intro _;by_cases q5:jb v.aI=true
     ·simp -implicitDefEqProofs[q5]
     ·simp -implicitDefEqProofs[q5]
    ·simp -implicitDefEqProofs[q4]
   ·simp -implicitDefEqProofs[q3]
  ·simp -implicitDefEqProofs[q2]
 ·simp -implicitDefEqProofs[q1]
def aN (v:aj):Bool:=decide (mo v=[])
theorem mS (v:aj) (cs:List Value) (hv:kf v) (h:aa) (H:bR h v cs):ao PP 84 [.agg ⟨cs⟩] h (fun r h'=>h'=h∧r= .bool (aN v)):=by
 refine aC mix (aD Tryz.func84) rfl rfl rfl afZ ?_;simp only[ai,Tryz.f84];have hw:=mq v cs hv h H;obtain⟨s,k,p,rfl,h1,h2,h3⟩:=H;simp -implicitDefEqProofs;refine hw.mono ?_;rintro r h' ⟨rfl,rfl⟩;simp -implicitDefEqProofs[af,aN]
end Go.Proofs.Ybk.V
namespace Go.Proofs.Ybk.K
open Go Go.Am
open V (aq aU aj aN aB)
structure aV where
 size:Int
 du:Int
deriving DecidableEq,Inhabited
structure aH where
 id:Int
 state:Int
 aO:aV
 fZ:Int
 first:Int
deriving DecidableEq,Inhabited
structure CmdR where
 kind:Int
 a:Int
 aO:aV
 text:List UInt8
deriving DecidableEq,Inhabited
structure jL where
 code:Int
 n:Int
 spot:Int×Int
 ag:List Int
deriving DecidableEq,Inhabited
structure dO where
 kind:Int
 text:List UInt8
 order:aH
 time:Int
deriving DecidableEq,Inhabited
def nm:aH:=⟨0,0,⟨0,0⟩,0,0⟩
def ez (p:aV):Bool:=decide (1≤p.size)&&(decide (p.size≤8)&&(decide (0≤p.du)&&(decide (p.du≤2)&&decide (2*p.du≤p.size))))
def fV (l:List aV):Bool:=decide (l.length≤512)&&l.all ez
def jm (n:Int):Bool:=aB n (-1048576) 1048576
def pB (a b:aq):Int:=if jm a.x&&jm a.y&&jm b.x&&jm b.y then(a.x-b.x)*(a.x-b.x)+(a.y-b.y)*(a.y-b.y)else 0
def lu (a b:aq) (r:Int):Bool:=decide (pB a b<r*r)
def iT (v:aj) (k:Nat):aq:=v.ag.getD k ⟨0,0,0,0⟩
def tC (v:aj) (s:Nat):List Int:=(if v.aE.contains (s:Int)then[-1]else[])++(((List.range v.aI.length).filter fun k=>match v.aI[k]? with
 |some p=>lu (iT v s) ⟨0,p.x,p.y,0⟩ p.r
 |none=>false).map fun k:Nat=>(k:Int))
def cd (v:aj):List Bool:=if aN v then(List.range v.ag.length).map fun k=>(tC v k).isEmpty else[]
def ik (v:aj):List Int:=((List.range (cd v).length).filter fun k=> !(cd v).getD k true).map fun k:Nat=>(k:Int)
def vB (v:aj) (a:Int):Bool:=decide (0≤a)&&(decide (a<(v.ag.length:Int)-1)&&(decide ((iT v (a.toNat+1)).row=(iT v a.toNat).row)&&decide ((iT v (a.toNat+1)).x-(iT v a.toNat).x≤v.aW)))
def qI (v:aj) (us:List Bool) (a:Int):Bool:=decide (0≤a)&&(decide (a<v.ag.length)&&(decide (a<us.length)&&us.getD a.toNat false))
def kZ (v:aj) (us:List Bool) (a:Int):Nat→Nat→Nat
 |0,n=>n
 |m+1,n=>if qI v us (a+n)&&(decide (n=0) || vB v (a+n-1))then kZ v us a m (n+1)else n
def mg (first:Int) (size:Nat):List Int:=(List.range size).map fun k:Nat=>first+k
def oY (v:aj) (us:List Bool) (first size:Int):Option (List Int):=if size<1∨(v.ag.length:Int)<size∨(kZ v us first size.toNat 0:Int)<size then none else some (mg first size.toNat)
def km (v:aj) (l:List Int) (k:Int):Int:=if k<0∨(l.length:Int)≤k then 0 else(iT v (l.getD k.toNat 0).toNat).kind
def sf (v:aj) (l:List Int) (du:Int):Bool:=
 ((List.range l.length).all fun k:Nat=>decide (km v l k≠1) || (decide (km v l ((k:Int)-1)=2) || decide (km v l ((k:Int)+1)=2)))&&
 (!(decide (du=0)&&decide (0<((List.range l.length).filter fun k:Nat=>decide (km v l k=2)).length))&&
  decide ((((List.range l.length).filter fun k:Nat=>decide (km v l k=1)).length:Int)=du))
def cS (v:aj) (us:List Bool) (p:aV) (first:Int):Option (List Int):=if ez p then match oY v us first p.size with
  |some l=>if sf v l p.du then some l else none
  |none=>none
 else none
def ij (v:aj) (us:List Bool) (p:aV):List Int:=((List.range v.ag.length).filter fun k:Nat=>(cS v us p k).isSome).map fun k:Nat=>(k:Int)
def dS (v:aj) (p:aV) (a:Int) (q:aV) (b:Int):Bool:=(List.range p.size.toNat).all fun i:Nat=>(List.range q.size.toNat).all fun k:Nat=>
 decide (a+i≠b+k)&& !lu (iT v (a+i).toNat) (iT v (b+k).toNat) v.bC
structure bO where
 v:aj
 us:List Bool
 l:List aV
 pins:List (Int×Int)
def eI (s:bO) (k:Int):Option Int:=(s.pins.find? fun p=>decide (p.1=k)).map fun p=>p.2
def kO (acc:List (Int×Int)) (p:Int):Bool:=match acc.getLast? with
 |some q=>decide (p≤q.1)
 |none=>false
def jo (v:aj) (us:List Bool) (l:List aV):List (Int×Int)→List (Int×Int)→Option (List (Int×Int))
 |acc,[]=>some acc
 |acc,(p,f)::r=>
  if kO acc p || decide (p<0) || decide ((l.length:Int)≤p)then none
  else if(cS v us (l.getD p.toNat default) f).isNone then none
  else if acc.all fun q=>dS v (l.getD p.toNat default) f (l.getD q.1.toNat default) q.2 then jo v us l (acc++[(p,f)]) r else none
def fL (v:aj) (l:List aV) (pins:List (Int×Int)):Option bO:=if aN v&&fV l then(jo v (cd v) l [] pins).map fun a=>⟨v,cd v,l,a⟩else none
def eg (s:bO) (p:List Int) (k:Nat):Bool:=
 let f:=p.getD k 0
 if(match eI s k with
  |some x=>decide (f≠x)
  |none=>false)then true
 else if f= -1 then false
 else if(cS s.v s.us (s.l.getD k default) f).isNone then true
 else(List.range k).any fun j=>decide (p.getD j 0≠-1)&& !dS s.v (s.l.getD k default) f (s.l.getD j default) (p.getD j 0)
def oB (s:bO) (p:List Int):Int:=match(List.range p.length).find? (eg s p)with
 |some k=>k
 |none=>-1
def iR (v:aj) (l:List aV) (p:List Int) (pins:List (Int×Int)):Bool:=match fL v l pins with
 |some s=>if p.length=l.length then decide (oB s p= -1)else decide ((l.length:Int)= -1)
 |none=>decide ((l.length:Int)= -1)
def eV (l:List aV) (p:List Int):Int:=if l.length=p.length∧fV l=true then((List.range p.length).map fun k=>if 0≤p.getD k 0 then(l.getD k default).size else 0).foldl (· + ·) 0 else 0
def jE (l:List aV) (p:List Int):Bool:=p.all (fun f=>decide (0≤f))&&decide (l.length=p.length)
structure cn where
 s:bO
 levels:List (List (List Int))
 p:List Int
def fp (s:bO) (l:List Int) (k other:Nat) (at_:Int):List Int:=l.filter fun f=>dS s.v (s.l.getD k default) f (s.l.getD other default) at_
def fb (s:bO):cn:=⟨s,[(List.range s.l.length).map fun k:Nat=>match eI s k with
 |some a=>[a]
 |none=>s.pins.foldl (fun d q=>fp s d k q.1.toNat q.2) (ij s.v s.us (s.l.getD k default))],[]⟩
def cG (p:cn):List (List Int):=p.levels.getLastD []
def ku (p:cn) (k:Nat):Bool:=decide (k<p.s.l.length)&&(eI p.s k).isSome
def iN (p:cn) (k:Nat):List Int:=if k<p.s.l.length then(cG p).getD k []else[]
def fM (p:cn) (f:Int):cn:=
 let k:=p.p.length
 if !decide (k<p.s.l.length) || (decide (f= -1)&&ku p k) || (decide (f≠-1)&& !(iN p k).contains f)then p
 else
  let now:=cG p
  let nx:=(List.range now.length).map fun j=>if j=k then(if f= -1 then[]else[f])else if f≠-1∧k<j then fp p.s (now.getD j []) j k f else now.getD j []
  ⟨p.s,p.levels++[nx],p.p++[f]⟩
def fC (p:cn):cn:=if p.p.length=0 then p else⟨p.s,p.levels.dropLast,p.p.dropLast⟩
def jQ (p:cn):Int:=((List.range (cG p).length).map fun k=>if((cG p).getD k []).length>0 then(p.s.l.getD k default).size else 0).foldl (· + ·) 0
structure dn where
 p:cn
 l:List aV
 aY:List Int
 nodes:Int
 tree:List Bool
 cD:Int
 fuel:Int
 stack:List (List Int×Nat)
def iH (p:cn):List Int:=let k:=p.p.length;if ku p k then iN p k else iN p k++[-1]
def cB (h:dn):dn×Bool:=
 if h.fuel≤h.nodes then(h,false)
 else
  let h:={h with nodes:=h.nodes+1}
  if h.p.p.length=h.l.length then
   if h.cD<jQ h.p then({h with aY:=h.p.p,cD:=jQ h.p,p:=fC h.p},true)else({h with p:=fC h.p},true)
  else if h.cD<jQ h.p then({h with stack:=(iH h.p,0)::h.stack,tree:=h.tree++[true]},true)
  else({h with tree:=h.tree++[false],p:=fC h.p},true)
def dN:Nat→dn→Bool→dn×Bool
 |0,h,g=>(h,g)
 |n+1,h,g=>if g then match h.stack with
   |[]=>(h,g)
   |(l,a)::r=>if a=l.length then dN n {h with stack:=r,p:=fC h.p} g
    else
     let h1:={h with stack:=(l,a+1)::r,p:=fM h.p (l.getD a 0)}
     dN n (cB h1).1 (cB h1).2
  else(h,g)
structure qw where
 answer:Int
 aY:List Int
 nodes:Int
 tree:List Bool
deriving Inhabited
def dK (l:List aV) (pins:List (Int×Int)):List Int:=pins.foldl (fun p q=>p.set q.1.toNat q.2) (List.replicate l.length (-1))
def mB (steps:Nat) (v:aj) (l:List aV) (pins:List (Int×Int)) (fuel:Int):Option qw:=match fL v l pins with
 |none=>none
 |some s=>if fuel<0∨1073741824<fuel then none else
  let least:=dK l pins
  let h0:dn:=⟨fb s,l,least,0,[],eV l least,fuel,[]⟩
  let r:=dN steps (cB h0).1 (cB h0).2
  some ⟨if !r.2 then 3 else if jE l r.1.aY then 1 else 2,r.1.aY,r.1.nodes,r.1.tree⟩
def gj (steps:Nat) (v:aj) (l:List aV) (pins:List (Int×Int)) (old:List Int) (fuel:Int):qw×Int:=
 if !iR v l old pins then(⟨0,[],0,[]⟩,1)
 else match mB steps v l pins fuel with
  |none=>(⟨0,[],0,[]⟩,1)
  |some r=>if r.answer=3∧eV l r.aY≤eV l old then({r with aY:=old},0)else(r,0)
end Go.Proofs.Ybk.K
namespace Go.Am
open Go
section
variable {α:Type}
def Ow (e:TypeId) (enc:α→List Value) (h0 h:aa) (o:Option Nat) (xs:List α) (v:Value):Prop:=
 v= .slice (o.map fun b=>⟨b,0,none⟩) xs.length xs.length∧(match o with
  |none=>xs=[]
  |some b=>h.f b= .row true e (xs.flatMap enc)∧h0.n≤b∧b<h.n)
variable {e:TypeId} {enc:α→List Value} {h0 h h':aa} {o o':Option Nat} {v:Value} {xs:List α}
theorem Ow.nil:Ow e enc h0 h none ([]:List α) (.slice none 0 0):=⟨rfl,rfl⟩
theorem Ow.keep (H:Ow e enc h0 h o xs v) (hs:∀b,o=some b→h'.f b=h.f b) (hn:h.n≤h'.n):Ow e enc h0 h' o xs v:=by
 obtain⟨rfl,z⟩:=H;refine⟨rfl,?_⟩;cases o with
 |none=>exact z
 |some b=>exact⟨by rw[hs b rfl];exact z.1,z.2.1,de z.2.2 hn⟩
theorem Ow.lt (H:Ow e enc h0 h o xs v):∀b,o=some b→h0.n≤b∧b<h.n:=by
 rintro b rfl;exact⟨H.2.2.1,H.2.2.2⟩
theorem Ow.ext (H:Ow e enc h0 h o xs v) (E:Ext h h'):Ow e enc h0 h' o xs v:=H.keep (fun b hb=>E.f b (H.lt b hb).2) E.n
theorem Ow.own (H:Ow e enc h0 h o xs v):cL e enc h0 h v xs:=by
 obtain⟨rfl,z⟩:=H;cases o with
 |none=>exact⟨none,rfl,.inl ⟨rfl,z⟩⟩
 |some b=>exact⟨_,rfl,.inr ⟨b,rfl,z.1,z.2.1,z.2.2⟩⟩
theorem Ow.iE (H:cL e enc h0 h v xs):∃o,Ow e enc h0 h o xs v:=by
 obtain⟨ad,rfl,z⟩:=H;rcases z with⟨rfl,rfl⟩|⟨b,rfl,z2,z3,z4⟩
 ·exact⟨none,rfl,rfl⟩
 ·exact⟨some b,rfl,z2,z3,z4⟩
theorem Ow.sl (H:Ow e enc h0 h o xs v):cU e enc h v xs:=H.own.sl
theorem Ow.row {b:Nat} (H:Ow e enc h0 h (some b) xs v):h.f b= .row true e (xs.flatMap enc):=H.2.1
def cg (h:aa) (o:Option Nat) (c:aZ):aa:=match o with
 |none=>h.new c
 |some b=>(h.set b .dead).new c
theorem df (h:aa) (o:Option Nat) (c:aZ):(cg h o c).n=h.n+1:=by cases o<;>rfl
theorem zk (h:aa) (o:Option Nat) (c:aZ):(cg h o c).g=h.g:=by cases o<;>rfl
theorem qz (h:aa) (o:Option Nat) (c:aZ) {b:Nat} (hb:b<h.n) (ho:o≠some b):(cg h o c).f b=h.f b:=by
 have n1:¬b=h.n:=by omega
 cases o with
 |none=>simp[cg,n1]
 |some x=>
  have n3:¬b=x:=fun q=>ho (by rw[q]);simp[cg,n1,n3]
theorem lT (h:aa) (o:Option Nat) (c:aZ):(cg h o c).f h.n=c:=by cases o<;>simp[cg]
theorem Ext.app (E:Ext h0 h) (ho:∀b,o=some b→h0.n≤b∧b<h.n) (c:aZ):Ext h0 (cg h o c):=by
 cases o with
 |none=>exact E.bN _
 |some b=>exact(E.dh (ho b rfl).1 _).bN _
theorem Ow.other {β:Type} {e':TypeId} {enc':β→List Value} {ys:List β} {u:Value} (H:Ow e enc h0 h o xs v) (hne:∀b,o=some b→o'≠some b) (c:aZ):Ow e enc h0 (cg h o' c) o xs v:=
 H.keep (fun b hb=>qz h o' c (H.lt b hb).2 (hne b hb)) (by rw[df];omega)
theorem Ow.app (H:Ow e enc h0 h o xs v) (hn:h0.n≤h.n) (ys:List α) {cells:List Value} (hc:cells=xs.flatMap enc++ys.flatMap enc) {n:Nat} (hl:n=ys.length):
  Ow e enc h0 (cg h o (.row true e cells)) (some h.n) (xs++ys) (.slice (some ⟨h.n,0,none⟩) (xs.length+n) (xs.length+n)):=by
 refine⟨by subst hl;simp,?_,hn,by rw[df];omega⟩;rw[lT,hc,List.flatMap_append]
theorem Oq {P:Program} {σ:St} {t u:TypeId} {s y:Operand} {sz by_:Nat} {zl l:List Value} {n:Nat} (H:Ow e enc h0 σ.m.h o xs v) (hel:fW P t=some (e,sz)) (hz:dR P e=some zl) (hby:jk P e=some by_) (hco:P.cellsOf e=sz)
  (hs0:0<sz) (hb0:0<by_) (hzl:zl.length=sz) (hk:∀x,(enc x).length=sz) (hs:aL σ s=some v) (hsrc:dM P σ u sz y=some (l,n)) (hone:l.all one=true) (hn:n≠0) (hmax:(xs.length+n)*by_≤dC):
  dq P σ t u s y=some (.slice (some ⟨σ.m.h.n,0,none⟩) (xs.length+n) (xs.length+n),⟨σ.t,⟨σ.m.x,cg σ.m.h o (.row true e (xs.flatMap enc++l))⟩⟩):=by
 obtain⟨rfl,z⟩:=H;cases o with
 |none=>
  simp only at z;subst z;simp only[qx,jh]at hmax;simp[dq,hel,hz,hby,hsrc,hone,hs0,hb0,hzl,hs,hn,hmax,cg]
 |some b=>
  obtain⟨z1,z2,z3⟩:=z;have hfl:=fg sz hk xs;have htk:(xs.flatMap enc).take (xs.length*sz)=xs.flatMap enc:=bZ (by omega);have hone':l.all one=true:=hone;simp[dq,hel,hz,hby,hsrc,hs0,hb0,hzl,hs,hmax,cg,z1,hco,hfl,htk];simpa using hone
end
end Go.Am
namespace Go.Proofs.Ybk.V
open Go Go.Am
set_option maxHeartbeats 2000000
theorem aiV (xs:List aq):(xs.flatMap au).all one=true:=by
 rw[cq];intro v hv;obtain⟨s,_,hs⟩:=List.mem_flatMap.1 hv;simp[au]at hs;rcases hs with rfl|rfl|rfl|rfl<;>rfl
theorem ahH (xs:List aU):(xs.flatMap bg).all one=true:=by
 rw[cq];intro v hv;obtain⟨s,_,hs⟩:=List.mem_flatMap.1 hv;simp[bg]at hs;rcases hs with rfl|rfl|rfl<;>rfl
theorem V9 (s:Value) (xs:List aq) (hl:xs.length≤1073741824) (h:aa) (hs:cF h s xs):ao PP 59 [s] h (fun v h'=>Ext h h'∧cL 99 au h h' v xs):=by
 refine aC mix (aD Tryz.func59) rfl rfl rfl afD ?_;simp only[ai,Tryz.f59];obtain⟨ad,c,rfl,hn,hz⟩:=hs;cases ad with
 |none=>
  have:xs=[]:=by
   rcases hz with z|⟨b,off,w,cells,rest,z,_⟩
   ·exact z
   ·simp at z
  subst this;have:=hn rfl;subst this;simp -implicitDefEqProofs;exact⟨Ext.bJ h,cL.nil⟩
 |some ad=>
  by_cases h0:xs=[]
  ·subst h0;simp -implicitDefEqProofs[aP,dq,dM,dC];exact⟨(Ext.new h _).dh (a8 _) _ |>.bN _,_,rfl,.inr ⟨_,rfl,by simp⟩⟩
  ·obtain⟨b,off,w,cells,rest,e,z2,z3,z4,z5⟩:∃b off w cells rest,some ad=some (⟨b,off,none⟩:Addr)∧h.f b= .row w 99 cells∧cells.drop off=xs.flatMap au++rest∧off≤cells.length∧b<h.n:=by
    rcases hz with z|z
    ·exact absurd z h0
    ·exact z
   obtain rfl:=bP e
   obtain⟨m,hm⟩:∃m,m=xs.length:=⟨_,rfl⟩
   have hm0:¬m=0:=by rw[hm];simpa using h0
   obtain⟨F,hF⟩:∃F,F=xs.flatMap au:=⟨_,rfl⟩
   have hFl:F.length=m*4:=by rw[hF,fg 4 gK,hm]
   have hone:=aiV xs
   rw[←hF]at z3 hone
   have hlen:off+m*4≤cells.length:=by
    have:=congrArg List.length z3;rw[eN,bF,hFl]at this;omega
   have htk:(cells.drop off).take (m*4)=F:=by rw[z3,List.take_append_of_le_length (by omega),bZ (by omega)]
   have hbn:¬b=h.n:=by omega
   have hmx:m*32≤140737488355328:=by omega
   rw[←hm]
   simp -implicitDefEqProofs[aP,dq,dM,dC,hm0,hbn,z2,hlen,htk,hone,hmx]
   exact⟨(Ext.new h _).dh (a8 _) _ |>.bN _,_,by rw[hm],.inr ⟨_,rfl,by simp[hF]⟩⟩
theorem V7 (s:Value) (xs:List aU) (hl:xs.length≤1073741824) (h:aa) (hs:cJ h s xs):ao PP 61 [s] h (fun v h'=>Ext h h'∧cL 103 bg h h' v xs):=by
 refine aC mix (aD Tryz.func61) rfl rfl rfl afG ?_;simp only[ai,Tryz.f61];obtain⟨ad,c,rfl,hn,hz⟩:=hs;cases ad with
 |none=>
  have:xs=[]:=by
   rcases hz with z|⟨b,off,w,cells,rest,z,_⟩
   ·exact z
   ·simp at z
  subst this;have:=hn rfl;subst this;simp -implicitDefEqProofs;exact⟨Ext.bJ h,cL.nil⟩
 |some ad=>
  by_cases h0:xs=[]
  ·subst h0;simp -implicitDefEqProofs[aP,dq,dM,dC];exact⟨(Ext.new h _).dh (a8 _) _ |>.bN _,_,rfl,.inr ⟨_,rfl,by simp⟩⟩
  ·obtain⟨b,off,w,cells,rest,e,z2,z3,z4,z5⟩:∃b off w cells rest,some ad=some (⟨b,off,none⟩:Addr)∧h.f b= .row w 103 cells∧cells.drop off=xs.flatMap bg++rest∧off≤cells.length∧b<h.n:=by
    rcases hz with z|z
    ·exact absurd z h0
    ·exact z
   obtain rfl:=bP e
   obtain⟨m,hm⟩:∃m,m=xs.length:=⟨_,rfl⟩
   have hm0:¬m=0:=by rw[hm];simpa using h0
   obtain⟨F,hF⟩:∃F,F=xs.flatMap bg:=⟨_,rfl⟩
   have hFl:F.length=m*3:=by rw[hF,fg 3 pQ,hm]
   have hone:=ahH xs
   rw[←hF]at z3 hone
   have hlen:off+m*3≤cells.length:=by
    have:=congrArg List.length z3;rw[eN,bF,hFl]at this;omega
   have htk:(cells.drop off).take (m*3)=F:=by rw[z3,List.take_append_of_le_length (by omega),bZ (by omega)]
   have hbn:¬b=h.n:=by omega
   have hmx:m*24≤140737488355328:=by omega
   rw[←hm]
   simp -implicitDefEqProofs[aP,dq,dM,dC,hm0,hbn,z2,hlen,htk,hone,hmx]
   exact⟨(Ext.new h _).dh (a8 _) _ |>.bN _,_,by rw[hm],.inr ⟨_,rfl,by simp[hF]⟩⟩
def rQ (a b:aq):Int:=if eP a b=true then -1 else if eP b a=true then 1 else 0
theorem Wf (a b:aq) (h:aa):ao PP 164 [bD a,bD b] h (fun v h'=>h'=h∧v= .int .i64 (rQ a b)):=by
 refine aC mix (aD Tryz.func164) rfl rfl rfl adH ?_;simp only[ai,Tryz.f164];unfold rQ;have e1:[Value.int .i64 a.row,.int .i64 a.x,.int .i64 a.y,.int .i64 a.kind]=au a:=rfl;simp -implicitDefEqProofs[bD,au];refine(Aq a b h).mono ?_;rintro v h' ⟨rfl,rfl⟩;simp -implicitDefEqProofs[af];intro _;by_cases h1:eP a b=true
 ·simp -implicitDefEqProofs[h1]
 ·simp -implicitDefEqProofs[h1];refine(Aq b a h').mono ?_;rintro v h' ⟨rfl,rfl⟩;simp -implicitDefEqProofs[af];intro _;by_cases h2:eP b a=true
  ·simp -implicitDefEqProofs[h2]
  ·simp -implicitDefEqProofs[h2]
def eO (s x:aq):Bool:=decide (x.row=s.row)&&decide (x.x=s.x)
theorem Uw (s x:aq) (b:Nat) (w:Bool) (h:aa) (hb:h.f b= .row w 99 (au s)):ao PP 167 [bD x,.pointer (some ⟨b,0,none⟩)] h (fun v h'=>h'=h∧v= .bool (eO s x)):=by
 refine aC mix (aD Tryz.func167) rfl rfl rfl adL ?_;simp only[ai,Tryz.f167];unfold eO;by_cases h1:x.row=s.row
 ·simp -implicitDefEqProofs[bD,au,hb,h1]
 ·simp -implicitDefEqProofs[bD,au,hb,h1]
def ey {α:Type} (f:α→Bool) (l:List α):Int:=if l.any f=true then(l.findIdx f:Int)else -1
def RZ (s:Value) (fv:Value) (l:List aq) (p:aq→Bool) (m:Nat) (h:aa) (n:Nat) (σ:St):Prop:=∃i:Nat,n=m-i∧i≤m∧σ.m.h=h∧σ.t.get 0=some s∧σ.t.get 1=some fv∧σ.t.get 7=some (.int .i64 (m:Nat))∧σ.t.get 8=some (.int .i64 (i:Nat))∧∀j t,j<i→l[j]? =some t→p t=false
theorem xg {α:Type} {p:α→Bool} {l:List α} {i:Nat} {t:α} (h:l[i]? =some t) (hp:p t=true) (hb:∀j t,j<i→l[j]? =some t→p t=false):ey p l=i:=by
 have hlt:=(cY.mp h).1;have hm:t∈l:=dY h;have ha:l.any p=true:=kV.2 ⟨t,hm,hp⟩;unfold ey;rw[if_pos ha];congr 1;rw[List.findIdx_eq hlt];refine⟨by rw[(cY.mp h).2];exact hp,fun j hj=>?_⟩;exact hb j _ hj (av (by omega))
theorem zN {α:Type} {p:α→Bool} {l:List α} (hb:∀j t,j<l.length→l[j]? =some t→p t=false):ey p l= -1:=by
 unfold ey;rw[if_neg];intro q;obtain⟨t,ht,hp⟩:=kV.1 q;obtain⟨j,hj,rfl⟩:=List.mem_iff_getElem.1 ht;rw[hb j _ hj (av hj)]at hp;cases hp
theorem Y1 (s:Value) (l:List aq) (t:aq) (b:Nat) (w:Bool) (hl:l.length≤1073741824) (h:aa) (hs:cF h s l) (hb:h.f b= .row w 99 (au t)):
  ao PP 166 [s,.func (.func 167) #[] #[.pointer (some ⟨b,0,none⟩)]] h (fun v h'=>h'=h∧v= .int .i64 (ey (eO t) l)):=by
 refine aC mix (aD Tryz.func166) rfl rfl rfl adJ ?_;simp only[ai,Tryz.f166];obtain⟨ad,c,rfl⟩:=hs.shape;obtain⟨m,hm⟩:∃m,m=l.length:=⟨_,rfl⟩;rw[←hm]at hs ⊢;simp -implicitDefEqProofs;refine bL (RZ (.slice ad m c) (.func (.func 167) #[] #[.pointer (some ⟨b,0,none⟩)]) l (eO t) m h) _ ⟨0,rfl,by omega,rfl,by simp,by simp,by simp,by simp,by omega⟩ ?_;rintro n ⟨T,⟨x,H⟩⟩ ⟨i,rfl,hi,hH,g0,g1,g7,g8,aQ⟩;simp at hH g0 g1 g7 g8;subst hH;simp -implicitDefEqProofs[g0,g1,g7,g8];refine bY (fun hc=>?_) (fun hc=>?_)
 ·have hil:i<m:=by omega
  have hti:l[i]? =some l[i]:=av (by omega);obtain⟨_,b',o,wb,cs,r,rfl,hb',hd,hlc,_⟩:=hs.at 4 gK hti;obtain⟨u,hu⟩:∃u,u=l[i]:=⟨_,rfl⟩;rw[←hu]at hd hti;have w1:=bU (i:=i) (by omega);simp -implicitDefEqProofs[g0,g1,g7,g8,hil,hb',hd,hlc,au];refine(Uw t u b w H hb).mono ?_;rintro v h' ⟨rfl,rfl⟩;simp -implicitDefEqProofs[af];intro _;by_cases h1:eO t u=true
  ·simp -implicitDefEqProofs[h1,g0,g1,g7,g8];exact(xg hti h1 aQ).symm
  ·simp -implicitDefEqProofs[h1,g0,g1,g7,g8,w1];refine⟨m-(i+1),by omega,i+1,rfl,by omega,rfl,by simp[g0],by simp[g1],by simp[g7],by simp,fun j z hj hz=>?_⟩;rcases Nat.lt_or_ge j i with q|q
   ·exact aQ j z q hz
   ·have:j=i:=(by omega);subst this;rw[hti]at hz;obtain rfl:=bP hz;simpa using h1
 ·simp -implicitDefEqProofs[g0,g1,g7,g8];exact(zN (fun j z hj hz=>aQ j z (by omega) hz)).symm
end Go.Proofs.Ybk.V
namespace Go.Proofs.Ybk.K
open Go Go.Am
set_option maxHeartbeats 4000000
open V (aq aU aj au bg ab bD aN aB cF cJ bq bR)
def al (p:aV):List Value:=[.int .i64 p.size,.int .i64 p.du]
def fh (p:aV):Value:=.agg ⟨al p⟩
def kQ (p:Int×Int):List Value:=[.int .i64 p.1,.int .i64 p.2]
theorem me (s:aV):(al s).length=2:=rfl
theorem vK (s:Int×Int):(kQ s).length=2:=rfl
theorem mS (p:aV) (h:aa):ao PP 108 [fh p] h (fun v h'=>h'=h∧v= .bool (ez p)):=by
 refine aC mix (aD Tryz.func108) rfl rfl rfl acQ ?_;simp only[ai,Tryz.f108];unfold ez;by_cases h1:p.size<1
 ·have e1:¬1≤p.size:=by omega
  simp -implicitDefEqProofs[fh,al,h1,e1]
 by_cases h2:8<p.size
 ·have e2:¬p.size≤8:=by omega
  simp -implicitDefEqProofs[fh,al,h1,h2,e2]
 by_cases h3:p.du<0
 ·have e3:¬0≤p.du:=by omega
  simp -implicitDefEqProofs[fh,al,h1,h2,h3,e3]
 have e1:1≤p.size:=by omega
 have e2:p.size≤8:=by omega
 have e3:0≤p.du:=by omega
 by_cases h4:p.du≤2
 ·have w1:IntKind.wrap .i64 (2*p.du)=2*p.du:=bK (by omega);simp -implicitDefEqProofs[fh,al,h1,h2,h3,h4,e1,e2,e3,w1]
 ·simp -implicitDefEqProofs[fh,al,h1,h2,h3,h4,e1,e2,e3]
theorem Ub (p:aV) (h:aa):ao PP 254 [fh p] h (fun v h'=>h'=h∧v= .bool (!ez p)):=by
 refine aC mix (aD Tryz.func254) rfl rfl rfl aeN ?_;simp only[ai,Tryz.f254];simp -implicitDefEqProofs[fh,al];refine(mS p h).mono ?_;rintro v h' ⟨rfl,rfl⟩;simp -implicitDefEqProofs[af]
abbrev tj:=cU 29 al
def Se (s:Value) (l:List aV) (m:Nat) (h:aa) (n:Nat) (σ:St):Prop:=∃i:Nat,n=m-i∧i≤m∧σ.m.h=h∧σ.t.get 0=some s∧σ.t.get 1=some (.func (.func 254) #[] #[])∧σ.t.get 7=some (.int .i64 (m:Nat))∧σ.t.get 8=some (.int .i64 (i:Nat))∧∀j t,j<i→l[j]? =some t→(!ez t)=false
theorem Y4 (s:Value) (l:List aV) (hl:l.length≤1073741824) (h:aa) (hs:tj h s l):
  ao PP 295 [s,.func (.func 254) #[] #[]] h (fun v h'=>h'=h∧v= .int .i64 (V.ey (fun p=> !ez p) l)):=by
 refine aC mix (aD Tryz.func295) rfl rfl rfl aff ?_;simp only[ai,Tryz.f295];obtain⟨ad,c,rfl⟩:=hs.shape;obtain⟨m,hm⟩:∃m,m=l.length:=⟨_,rfl⟩;rw[←hm]at hs ⊢;simp -implicitDefEqProofs;refine bL (Se (.slice ad m c) l m h) _ ⟨0,rfl,by omega,rfl,by simp,by simp,by simp,by simp,by omega⟩ ?_;rintro n ⟨T,⟨x,H⟩⟩ ⟨i,rfl,hi,hH,g0,g1,g7,g8,aQ⟩;simp at hH g0 g1 g7 g8;subst hH;simp -implicitDefEqProofs[g0,g1,g7,g8];refine bY (fun hc=>?_) (fun hc=>?_)
 ·have hil:i<m:=by omega
  have hti:l[i]? =some l[i]:=av (by omega);obtain⟨_,b',o,wb,cs,r,rfl,hb',hd,hlc,_⟩:=hs.at 2 me hti;obtain⟨u,hu⟩:∃u,u=l[i]:=⟨_,rfl⟩;rw[←hu]at hd hti;have w1:=bU (i:=i) (by omega);simp -implicitDefEqProofs[g0,g1,g7,g8,hil,hb',hd,hlc,al];refine(Ub u H).mono ?_;rintro v h' ⟨rfl,rfl⟩;simp -implicitDefEqProofs[af];intro _;by_cases h1:ez u=true
  ·simp -implicitDefEqProofs[h1,g0,g1,g7,g8,w1];refine⟨m-(i+1),by omega,i+1,rfl,by omega,rfl,by simp[g0],by simp[g1],by simp[g7],by simp,fun j z hj hz=>?_⟩;rcases Nat.lt_or_ge j i with q|q
   ·exact aQ j z q hz
   ·have:j=i:=(by omega);subst this;rw[hti]at hz;obtain rfl:=bP hz;simp[h1]
  ·simp -implicitDefEqProofs[h1,g0,g1,g7,g8];exact(V.xg hti (by simp[h1]) aQ).symm
 ·simp -implicitDefEqProofs[g0,g1,g7,g8];exact(V.zN (fun j z hj hz=>aQ j z (by omega) hz)).symm
theorem Wy (s:Value) (l:List aV) (hl:l.length≤1073741824) (h:aa) (hs:tj h s l):
  ao PP 253 [s,.func (.func 254) #[] #[]] h (fun v h'=>h'=h∧v= .bool (!l.all ez)):=by
 refine aC mix (aD Tryz.func253) rfl rfl rfl aeM ?_;simp only[ai,Tryz.f253];obtain⟨ad,c,rfl⟩:=hs.shape;simp -implicitDefEqProofs;refine(Y4 _ l hl h hs).mono ?_;rintro v h' ⟨rfl,rfl⟩;have e:(!l.all ez)=decide (0≤V.ey (fun p=> !ez p) l):=by
  unfold V.ey;cases q:l.any (fun p=> !ez p)with
  |true=>
   simp only[if_true];rw[show l.all ez=false by rw[←mz,cq];intro z;obtain⟨t,ht,hp⟩:=kV.1 q;rw[z t ht]at hp;cases hp];simp
  |false=>
   simp only[ff,if_false];rw[show l.all ez=true by rw[cq];intro t ht;cases hm:ez t with
    |true=>rfl
    |false=>rw[List.any_eq_false]at q;exact absurd (by simp[hm]) (q t ht)]
   simp
 simp -implicitDefEqProofs[af,e]
theorem Cp (s:Value) (l:List aV) (hl:l.length≤1073741824) (h:aa) (hs:tj h s l):ao PP 209 [s] h (fun v h'=>h'=h∧v= .bool (fV l)):=by
 refine aC mix (aD Tryz.func209) rfl rfl rfl ael ?_;simp only[ai,Tryz.f209];obtain⟨ad,c,rfl⟩:=hs.shape;unfold fV;by_cases h1:l.length≤512
 ·have h1':(l.length:Int)≤512:=by omega
  simp -implicitDefEqProofs[h1,h1'];refine(Wy _ l hl h hs).mono ?_;rintro v h' ⟨rfl,rfl⟩;simp -implicitDefEqProofs[af]
 ·have h1':¬(l.length:Int)≤512:=by omega
  simp -implicitDefEqProofs[h1,h1']
def Sf (a b:aq) (h:aa) (n:Nat) (σ:St):Prop:=∃i:Nat,n=2-i∧i≤2∧σ.m.h=h.new (.row true 99 (au a++au b))∧σ.t.get 2=some (.pointer (some ⟨2,0,some 0⟩))∧σ.t.get 3=some (.pointer (some ⟨3,0,some 0⟩))∧σ.t.get 11=some (.slice (some ⟨h.n,0,none⟩) 2 2)∧σ.t.get 12=some (.int .i64 2)∧σ.t.get 13=some (.int .i64 (i:Nat))∧
 σ.m.x.look 2=some (99,au a)∧σ.m.x.look 3=some (99,au b)∧(0<i→jm a.x=true∧jm a.y=true)∧(1<i→jm b.x=true∧jm b.y=true)
theorem XU (a b:aq) (h:aa):ao PP 296 [bD a,bD b] h (fun v h'=>Ext h h'∧v= .int .i64 (pB a b)):=by
 refine aC mix (aD Tryz.func296) rfl rfl rfl afg ?_;simp only[ai,Tryz.f296];have hr8:List.range 8=[0,1,2,3,4,5,6,7]:=rfl;simp -implicitDefEqProofs[bD,au,aP,hr8];refine bL (Sf a b h) _ ⟨0,rfl,by omega,by simp[au],by simp,by simp,by simp,by simp,by simp,by simp[au],by simp[au],by omega,by omega⟩ ?_;rintro n ⟨T,⟨x,H⟩⟩ ⟨i,rfl,hi,hH,g2,g3,g11,g12,g13,x2,x3,ca,cb⟩;simp at hH g2 g3 g11 g12 g13 x2 x3;subst hH;simp -implicitDefEqProofs[g2,g3,g11,g12,g13,x2,x3];refine bY (fun hc=>?_) (fun hc=>?_)
 ·have w1:=bU (i:=i) (by omega);obtain⟨s,hs⟩:∃s,s=if i=0 then a else b:=⟨_,rfl⟩;obtain⟨cs,hcs⟩:∃cs,cs=au a++au b:=⟨_,rfl⟩;obtain⟨r,hd⟩:∃r,cs.drop (i*4)=au s++r:=by
   rcases(by omega:i=0∨i=1)with e|e
   ·subst e;exact⟨au b,by rw[hs,hcs];rfl⟩
   ·subst e;exact⟨[],by rw[hs,hcs];rfl⟩
  have hl:i*4+4≤cs.length:=by rw[hcs];show _≤8;omega
  have sc:(i:Int)<2:=by omega
  have fin:(jm s.x=false∨jm s.y=false)→pB a b=0:=by
   intro q;unfold pB;rw[if_neg];rcases(by omega:i=0∨i=1)with e|e
   ·rw[if_pos e]at hs;subst hs;rcases q with q|q<;>simp[q]
   ·rw[if_neg (by omega)]at hs;subst hs;rcases q with q|q<;>simp[q]
  rw[←hcs];simp -implicitDefEqProofs[g2,g3,g11,g12,g13,x2,x3,sc,hd,hl,au];refine(V.rS s.x (h.new (.row true 99 cs))).mono ?_;rintro v h' ⟨rfl,rfl⟩;simp -implicitDefEqProofs[af];intro _;by_cases h1:jm s.x=true
  ·have h1':=h1;unfold jm at h1';simp -implicitDefEqProofs[h1'];refine(V.rS s.y (h.new (.row true 99 cs))).mono ?_;rintro v h' ⟨rfl,rfl⟩;simp -implicitDefEqProofs[af];intro _;by_cases h2:jm s.y=true
   ·have h2':=h2;unfold jm at h2';simp -implicitDefEqProofs[h2',g2,g3,g11,g12,g13,x2,x3,w1];refine⟨2-(i+1),by omega,i+1,rfl,by omega,by rw[hcs],by simp[g2],by simp[g3],by simp[g11],by simp[g12],by simp,by simp[x2,au],by simp[x3,au],fun _=>?_,fun q=>?_⟩
    ·rcases(by omega:i=0∨i=1)with e|e
     ·rw[if_pos e]at hs;rw[←hs];exact⟨h1,h2⟩
     ·exact ca (by omega)
    ·have e:i=1:=(by omega);rw[if_neg (by omega)]at hs;rw[←hs];exact⟨h1,h2⟩
   ·have h2':=h2;unfold jm at h2';have e:=fin (.inr (by simpa using h2));simp -implicitDefEqProofs[h2',e];exact Ext.new _ _
  ·have h1':=h1;unfold jm at h1';have e:=fin (.inl (by simpa using h1));simp -implicitDefEqProofs[h1',e];exact Ext.new _ _
 ·obtain⟨ca1,ca2⟩:=ca (by omega);obtain⟨cb1,cb2⟩:=cb (by omega);have e:pB a b=(a.x-b.x)*(a.x-b.x)+(a.y-b.y)*(a.y-b.y):=by unfold pB;rw[if_pos (by simp[ca1,ca2,cb1,cb2])]
  simp[jm,aB]at ca1 ca2 cb1 cb2;obtain⟨dx,hdx⟩:∃dx,dx=a.x-b.x:=⟨_,rfl⟩;obtain⟨dy,hdy⟩:∃dy,dy=a.y-b.y:=⟨_,rfl⟩;have sq:∀d:Int,-2097152≤d→d≤2097152→0≤d*d∧d*d≤4398046511104:=fun d h1 h2=>by
   rcases Int.le_total 0 d with q|q
   ·exact⟨Int.mul_nonneg q q,by have:=Int.mul_le_mul h2 h2 q (by omega);simpa using this⟩
   ·have:=Int.mul_le_mul (show -d≤2097152 by omega) (show -d≤2097152 by omega) (by omega) (by omega);rw[Int.neg_mul_neg]at this;exact⟨by rw[←Int.neg_mul_neg];exact Int.mul_nonneg (by omega) (by omega),this⟩
  have b1:=sq dx (by omega) (by omega);have b2:=sq dy (by omega) (by omega);have w1:IntKind.wrap .i64 (a.x-b.x)=dx:=by rw[bK (by omega)];omega
  have w2:IntKind.wrap .i64 (a.y-b.y)=dy:=by rw[bK (by omega)];omega
  have w3:IntKind.wrap .i64 (dx*dx)=dx*dx:=bK (by omega);have w4:IntKind.wrap .i64 (dy*dy)=dy*dy:=bK (by omega);have w5:IntKind.wrap .i64 (dx*dx+dy*dy)=dx*dx+dy*dy:=bK (by omega);rw[e,←hdx,←hdy];simp -implicitDefEqProofs[g2,g3,g11,g12,g13,x2,x3,au,w1,w2,w3,w4,w5];exact Ext.new _ _
theorem GL (a b:aq) (r:Int) (hr: -2147483648≤r∧r≤2147483648) (h:aa):ao PP 255 [bD a,bD b,.int .i64 r] h (fun v h'=>Ext h h'∧v= .bool (lu a b r)):=by
 refine aC mix (aD Tryz.func255) rfl rfl rfl aeO ?_;simp only[ai,Tryz.f255];have hf:=XU a b h;have sq:0≤r*r∧r*r≤4611686018427387904:=by
  rcases Int.le_total 0 r with q|q
  ·exact⟨Int.mul_nonneg q q,by have:=Int.mul_le_mul hr.2 hr.2 q (by omega);simpa using this⟩
  ·have:=Int.mul_le_mul (show -r≤2147483648 by omega) (show -r≤2147483648 by omega) (by omega) (by omega);rw[Int.neg_mul_neg]at this;exact⟨by rw[←Int.neg_mul_neg];exact Int.mul_nonneg (by omega) (by omega),this⟩
 have w1:IntKind.wrap .i64 (r*r)=r*r:=bK (by omega);simp only[bD,au]at hf;simp -implicitDefEqProofs[bD,au];refine hf.mono ?_;rintro v h' ⟨E,rfl⟩;simp -implicitDefEqProofs[af,w1];intro _;exact⟨E,by unfold lu;rfl⟩
structure gY (v:aj):Prop where
 ag:V.gB v.ag=true
 aW:1≤v.aW∧v.aW≤1048576
 bC:0≤v.bC∧v.bC≤1048576
 aE:V.il v.aE v.ag.length=true
 aI:V.jb v.aI=true
theorem k8 {v:aj} (h:aN v=true):gY v:=by
 unfold aN V.mo at h;rw[dP]at h;split at h
 ·cases h
 rename_i h1;split at h
 ·cases h
 rename_i h2;split at h
 ·cases h
 rename_i h3;split at h
 ·cases h
 rename_i h4;split at h
 ·cases h
 rename_i h5;simp only[Bool.not_eq_false]at h1 h2 h3 h4 h5;simp[aB]at h2 h3;exact⟨h1,h2,h3,h4,h5⟩
theorem gY.len {v:aj} (M:gY v):0<v.ag.length∧v.ag.length≤4096:=by
 have:=M.ag;unfold V.gB at this;simp at this;exact this.2
theorem gY.eu {v:aj} (M:gY v) {k:Nat} {s:aq} (hk:v.ag[k]? =some s):(0≤s.kind∧s.kind≤2)∧(0≤s.row∧s.row≤999)∧(-1048576≤s.x∧s.x≤1048576)∧(-1048576≤s.y∧s.y≤1048576):=by
 have h:=M.ag;unfold V.gB at h;rw[bX,cq]at h;have hlt:=(cY.mp hk).1;have:=h.1 k (dv.2 hlt);unfold V.fB at this;rw[hk]at this;simp only[bX]at this;have h2:=this.1;unfold V.jK at h2;simp[aB]at h2;omega
theorem gY.gv {v:aj} (M:gY v) {k:Nat} {p:aU} (hk:v.aI[k]? =some p):(-1048576≤p.x∧p.x≤1048576)∧(-1048576≤p.y∧p.y≤1048576)∧(1≤p.r∧p.r≤1048576):=by
 have h:=M.aI;unfold V.jb at h;rw[bX,cq]at h;have hlt:=(cY.mp hk).1;have:=h.1 k (dv.2 hlt);unfold V.iF at this;rw[hk]at this;simp only at this;unfold V.ky at this;simp[aB]at this;omega
theorem gY.AY {v:aj} (M:gY v):v.aI.length≤200:=by
 have:=M.aI;unfold V.jb at this;simp at this;exact this.2
theorem gY.Ak {v:aj} (M:gY v):v.aE.length≤200:=by
 have:=M.aE;unfold V.il at this;simp at this;exact this.2
theorem gY.small {v:aj} (M:gY v):V.kf v:=⟨by have:=M.len;omega,by have:=M.Ak;omega,by have:=M.AY;omega⟩
def fw (h:aa) (v:aj) (cs:List Value):Prop:=∃s k p,cs=[s,.int .i64 v.aW,.int .i64 v.bC,k,p]∧aK 99 au h s v.ag∧aK 3 ab h k v.aE∧aK 103 bg h p v.aI
theorem fw.dF {h:aa} {v:aj} {cs:List Value} (H:fw h v cs):bR h v cs:=by
 obtain⟨s,k,p,rfl,h1,h2,h3⟩:=H;exact⟨s,k,p,rfl,h1.sl,h2.sl,h3.sl⟩
theorem fw.ext {h h':aa} {v:aj} {cs:List Value} (H:fw h v cs) (E:Ext h h'):fw h' v cs:=by
 obtain⟨s,k,p,rfl,h1,h2,h3⟩:=H;exact⟨s,k,p,rfl,h1.ext E,h2.ext E,h3.ext E⟩
theorem fw.eY {h h':aa} {v:aj} {cs:List Value} (H:fw h v cs) {S:List Nat} (C:cP S h h') (hs:ic S h):fw h' v cs:=by
 obtain⟨s,k,p,rfl,h1,h2,h3⟩:=H;exact⟨s,k,p,rfl,h1.eY C hs,h2.eY C hs,h3.eY C hs⟩
theorem fw.wk {h h':aa} {v:aj} {cs:List Value} (H:fw h v cs) (W:Wk h h'):fw h' v cs:=by
 obtain⟨s,k,p,rfl,h1,h2,h3⟩:=H;exact⟨s,k,p,rfl,h1.wk W,h2.wk W,h3.wk W⟩
def eX (b:Bool):List Value:=[.bool b]
theorem zr (b:Bool):(eX b).length=1:=rfl
abbrev yP:=cU 4 eX
theorem uC {v:aj} {k:Nat} (h:k<v.ag.length):v.ag[k]? =some (iT v k):=by
 unfold iT;rw[bB,av h];rfl
theorem AF (v:aj) (M:gY v) (cs:List Value) (a:Int) (ha: -4611686018427387904≤a∧a≤4611686018427387904) (h:aa) (H:bR h v cs):ao PP 311 [.agg ⟨cs⟩,.int .i64 a] h (fun r h'=>h'=h∧r= .bool (vB v a)):=by
 refine aC mix (aD Tryz.func311) rfl rfl rfl afj ?_;simp only[ai,Tryz.f311];obtain⟨s,k,p,rfl,h1,h2,h3⟩:=H;obtain⟨ad1,c1,e1⟩:=h1.shape;obtain⟨ad2,c2,e2⟩:=h2.shape;obtain⟨ad3,c3,e3⟩:=h3.shape;subst e1;subst e2;subst e3;have hlen:=M.len;obtain⟨m,hm⟩:∃m,m=v.ag.length:=⟨_,rfl⟩;unfold vB;rw[←hm]at h1 hlen ⊢;by_cases q1:0≤a
 ·have w1:IntKind.wrap .i64 ((m:Int)-1)=(m:Int)-1:=bK (by omega);by_cases q2:a<(m:Int)-1
  ·obtain⟨i,rfl⟩:∃i:Nat,a=i:=⟨a.toNat,by omega⟩;obtain⟨j,hj⟩:∃j,j=i+1:=⟨_,rfl⟩;have fQ:j<m:=(by omega);have hi0:i<m:=(by omega);have hs0:=uC (v:=v) (k:=i) (by omega);have hs1:=uC (v:=v) (k:=j) (by omega);obtain⟨t,ht⟩:∃t,t=iT v i:=⟨_,rfl⟩;obtain⟨u,hu⟩:∃u,u=iT v j:=⟨_,rfl⟩;rw[←ht]at hs0;rw[←hu]at hs1;have b0:=M.eu hs0;have b1:=M.eu hs1;obtain⟨_,b,o,wb,cells,r,rfl,hb,hd,hlc,_⟩:=h1.at 4 V.gK hs0;obtain⟨_,b',o',wb',cells',r',e,hb',hd',hlc',_⟩:=h1.at 4 V.gK hs1;simp only[aw,Addr.mk.injEq,and_true]at e;obtain⟨rfl,rfl⟩:=e;rw[hb]at hb';simp only[aZ.row.injEq,true_and]at hb';obtain⟨rfl,rfl⟩:=hb';have w2:IntKind.wrap .i64 ((i:Int)+1)=(j:Int):=(by rw[bK (by omega)];omega);have w3:IntKind.wrap .i64 (u.x-t.x)=u.x-t.x:=bK (by omega);have hd0:cells.drop (o+i*4)= .int .i64 t.row::([.int .i64 t.x,.int .i64 t.y,.int .i64 t.kind]++r):=hd;have hd1:cells.drop (o+i*4+1)= .int .i64 t.x::([.int .i64 t.y,.int .i64 t.kind]++r):=(by rw[←fx,hd];rfl);have hd2:cells.drop (o+j*4)= .int .i64 u.row::([.int .i64 u.x,.int .i64 u.y,.int .i64 u.kind]++r'):=hd';have hd3:cells.drop (o+j*4+1)= .int .i64 u.x::([.int .i64 u.y,.int .i64 u.kind]++r'):=(by rw[←fx,hd'];rfl);have l0:o+i*4+1≤cells.length:=(by omega);have l1:o+i*4+1+1≤cells.length:=(by omega);have l2:o+j*4+1≤cells.length:=(by omega);have l3:o+j*4+1+1≤cells.length:=(by omega);have htn:(i:Int).toNat=i:=(by omega);rw[htn,←hj,←ht,←hu];have q2':(i:Int)<(m:Int)-1:=q2;by_cases q3:u.row=t.row
   ·simp -implicitDefEqProofs[w1,w2,w3,q2',fQ,hi0,hb,hd0,hd1,hd2,hd3,l0,l1,l2,l3,q3]
   ·simp -implicitDefEqProofs[w1,w2,w3,q2',fQ,hi0,hb,hd0,hd1,hd2,hd3,l0,l1,l2,l3,q3]
  ·simp -implicitDefEqProofs[q1,q2,w1]
 ·simp -implicitDefEqProofs[q1]
theorem Yk (v:aj) (M:gY v) (cs:List Value) (uv:Value) (us:List Bool) (hu:us.length≤1073741824) (a:Int) (h:aa) (H:bR h v cs) (hus:yP h uv us):ao PP 310 [.agg ⟨cs⟩,uv,.int .i64 a] h (fun r h'=>h'=h∧r= .bool (qI v us a)):=by
 refine aC mix (aD Tryz.func310) rfl rfl rfl afi ?_;simp only[ai,Tryz.f310];obtain⟨s,k,p,rfl,h1,h2,h3⟩:=H;obtain⟨ad1,c1,e1⟩:=h1.shape;obtain⟨ad2,c2,e2⟩:=h2.shape;obtain⟨ad3,c3,e3⟩:=h3.shape;subst e1;subst e2;subst e3;obtain⟨ad4,c4,rfl⟩:=hus.shape;unfold qI;by_cases q1:a<0
 ·have q1':¬0≤a:=by omega
  simp -implicitDefEqProofs[q1,q1']
 have q1':0≤a:=by omega
 by_cases q2:(v.ag.length:Int)≤a
 ·have q2':¬a<(v.ag.length:Int):=by omega
  simp -implicitDefEqProofs[q1,q1',q2,q2']
 have q2':a<(v.ag.length:Int):=by omega
 by_cases q3:(us.length:Int)≤a
 ·have q3':¬a<(us.length:Int):=by omega
  simp -implicitDefEqProofs[q1,q1',q2,q2',q3,q3']
 have q3':a<(us.length:Int):=by omega
 obtain⟨i,rfl⟩:∃i:Nat,a=i:=⟨a.toNat,by omega⟩;have hil:i<us.length:=by omega
 have hti:us[i]? =some us[i]:=av hil;obtain⟨_,b,o,wb,cells,r,rfl,hb,hd,hlc,_⟩:=hus.at 1 zr hti;rw[Nat.mul_one]at hd;have hlc':o+i+1≤cells.length:=by omega
 have hgd:us.getD i false=us[i]:=by rw[bB,hti];rfl
 simp -implicitDefEqProofs[q1,q1',q2,q2',q3,q3',hil,hb,hd,hlc',eX,hgd]
def Sb (h:aa) (v:aj) (cs:List Value) (uv:Value) (us:List Bool) (a:Int) (M n:Nat) (σ:St):Prop:=∃i:Nat,n=M-i∧i≤M∧i≤v.ag.length∧σ.m.h=h∧σ.t.get 1=some uv∧σ.t.get 2=some (.int .i64 a)∧σ.t.get 3=some (.int .i64 (M:Nat))∧σ.t.get 4=some (.pointer (some ⟨4,0,some 0⟩))∧σ.t.get 9=some (.int .i64 (i:Nat))∧σ.m.x.look 4=some (63,cs)∧
 kZ v us a M 0=kZ v us a (M-i) i∧(0<i→0≤a∧a+i≤v.ag.length)
theorem aab (v:aj) (Mv:gY v) (cs:List Value) (uv:Value) (us:List Bool) (hu:us.length≤1073741824) (a:Int) (ha: -4611686018427387904≤a∧a≤4611686018427387904) (M:Nat) (hM:M≤4611686018427387904) (h:aa) (H:bR h v cs) (hus:yP h uv us):
  ao PP 284 [.agg ⟨cs⟩,uv,.int .i64 a,.int .i64 (M:Nat)] h (fun r h'=>h'=h∧r= .int .i64 ((kZ v us a M 0:Nat):Int)):=by
 refine aC mix (aD Tryz.func284) rfl rfl rfl aeU ?_;simp only[ai,Tryz.f284];have hfree:=fun a=>Yk v Mv cs uv us hu a h H hus;have hnext:=fun a ha=>AF v Mv cs a ha h H;have hlen:=Mv.len;obtain⟨s,k,p,rfl,h1,h2,h3⟩:=H;obtain⟨ad1,c1,e1⟩:=h1.shape;obtain⟨ad2,c2,e2⟩:=h2.shape;obtain⟨ad3,c3,e3⟩:=h3.shape;subst e1;subst e2;subst e3;obtain⟨ad4,c4,rfl⟩:=hus.shape;obtain⟨C,hC⟩:∃C,C=[Value.slice ad1 v.ag.length c1,.int .i64 v.aW,.int .i64 v.bC,.slice ad2 v.aE.length c2,.slice ad3 v.aI.length c3]:=⟨_,rfl⟩;have hCl:C.length=5:=by rw[hC];rfl
 have hCt:C.take 5=C:=bZ (by omega);simp -implicitDefEqProofs;refine bL (Sb h v C (.slice ad4 us.length c4) us a M) _ ⟨0,rfl,by omega,by omega,by simp,by simp,by simp,by simp,by simp,by simp,by simp[hC],by simp,by omega⟩ ?_;rw[←hC]at hfree hnext;rintro n ⟨T,⟨x,G⟩⟩ ⟨i,rfl,hi,hil,hG,g1,g2,g3,g4,g9,x4,hlr,hin⟩;simp at hG g1 g2 g3 g4 g9 x4;subst hG;have w1:IntKind.wrap .i64 (a+(i:Int))=a+i:=bK (by omega);by_cases q1:i<M
 ·have q1':(i:Int)<(M:Int):=by omega
  have hstep:kZ v us a (M-i) i=if qI v us (a+i)&&(decide (i=0) || vB v (a+i-1))then kZ v us a (M-(i+1)) (i+1)else i:=by
   rw[show M-i=(M-(i+1))+1 by omega,kZ]
  have w2:=bU (i:=i) (by omega);simp -implicitDefEqProofs[g1,g2,g3,g4,g9,x4,q1,q1',w1,hCl,hCt];refine(hfree (a+i)).mono ?_;rintro r h' ⟨e,rfl⟩;replace e:=e.symm;subst e;simp -implicitDefEqProofs[af];intro _;by_cases q2:qI v us (a+i)=true
  ·have q2':=q2;unfold qI at q2';simp at q2';by_cases q3:i=0
   ·subst q3;simp only[Int.natCast_zero,Int.add_zero]at q2;simp at hstep;rw[q2]at hstep;simp -implicitDefEqProofs[g1,g2,g3,g4,g9,x4,q2,w2];exact⟨M-1,by omega,1,rfl,by omega,by omega,rfl,by simp[g1],by simp[g2],by simp[g3],by simp[g4],by simp[bK],by simp[x4],by rw[hlr];simpa using hstep,by omega⟩
   ·have q3':¬(i:Int)=0:=(by omega);have w3:IntKind.wrap .i64 (a+(i:Int)-1)=a+i-1:=bK (by omega);simp -implicitDefEqProofs[g1,g2,g3,g4,g9,x4,q2,q3,q3',w1,w3,hCl,hCt];refine(hnext (a+i-1) (by omega)).mono ?_;rintro r h' ⟨e,rfl⟩;replace e:=e.symm;subst e;simp -implicitDefEqProofs[af];intro _;by_cases q4:vB v (a+i-1)=true
    ·rw[q2,q4]at hstep;simp at hstep;simp -implicitDefEqProofs[g1,g2,g3,g4,g9,x4,q4,w2];exact⟨M-(i+1),by omega,i+1,rfl,by omega,by omega,rfl,by simp[g1],by simp[g2],by simp[g3],by simp[g4],by simp,by simp[x4],by rw[hlr,hstep],by omega⟩
    ·rw[q2,Bool.eq_false_iff.2 q4]at hstep;simp[q3]at hstep;simp -implicitDefEqProofs[g1,g2,g3,g4,g9,x4,q4];rw[hlr,hstep]
  ·rw[Bool.eq_false_iff.2 q2]at hstep;simp at hstep;simp -implicitDefEqProofs[g1,g2,g3,g4,g9,x4,q2];rw[hlr,hstep]
 ·have e:i=M:=by omega
  subst e;simp -implicitDefEqProofs[g1,g2,g3,g4,g9,x4];rw[hlr];simp[kZ]
structure lh {α:Type} (t e sz by_:Nat) (enc:α→List Value):Prop where
 el:fW PP t=some (e,sz)
 un:PP.underlying t=some (.slice e)
 ze:∃zl,dR PP e=some zl∧zl.length=sz
 zu:jk PP e=some by_
 co:PP.cellsOf e=sz
 pos:0<sz
 b0:0<by_
 len:∀x,(enc x).length=sz
 one:∀x,(enc x).all one=true
theorem rT:lh 22 3 1 8 ab:=⟨IT,PZ,⟨_,BL,rfl⟩,zt,px,by decide,by decide,V.dV,fun _=>rfl⟩
theorem lZ:lh 66 29 2 16 al:=⟨IY,Qn,⟨_,BK,rfl⟩,CD,GM,by decide,by decide,me,fun _=>rfl⟩
theorem Xq:lh 67 69 2 16 kQ:=⟨IZ,Qo,⟨_,BO,rfl⟩,CJ,GR,by decide,by decide,vK,fun _=>rfl⟩
theorem I0:lh 131 4 1 1 eX:=⟨IS,PV,⟨_,Q8,rfl⟩,CH,GP,by decide,by decide,zr,fun _=>rfl⟩
section
variable {α:Type} {t e sz by_:Nat} {enc:α→List Value} {h0 H:aa} {o:Option Nat} {xs:List α} {v:Value}
theorem jB (E:lh t e sz by_ enc) (W:Ow e enc h0 H o xs v) (a:α) (hl:(xs.length+1)*by_≤140737488355328) (T:Fr) (x:bV) (s y:Nat) (hs:Fr.get T s=some v) (hy:Fr.get T y=some (.slice (some ⟨H.n,0,none⟩) 1 1)):
  dq PP ⟨T,⟨x,H.new (.row true e (enc a))⟩⟩ t t (.tmp s) (.tmp y)=some (.slice (some ⟨H.n+1,0,none⟩) (xs.length+1) (xs.length+1),⟨T,⟨x,cg (H.new (.row true e (enc a))) o (.row true e (xs.flatMap enc++enc a))⟩⟩):=by
 obtain⟨zl,hz,hzl⟩:=E.ze;have hlen:=E.len a;have htk:(enc a).take sz=enc a:=bZ (by omega);refine Oq (σ:=⟨T,⟨x,H.new (.row true e (enc a))⟩⟩) (W.ext (Ext.new _ _)) E.el hz E.zu E.co E.pos E.b0 hzl E.len (by simpa using hs) ?_ (E.one a) (by decide) hl;simp[dM,E.un,hy,hlen,htk]
theorem Ow.one (W:Ow e enc h0 H o xs v) (hn:h0.n≤H.n) (c:aZ) (a:α) {cells:List Value} (hc:cells=xs.flatMap enc++enc a):Ow e enc h0 (cg (H.new c) o (.row true e cells)) (some (H.n+1)) (xs++[a]) (.slice (some ⟨H.n+1,0,none⟩) (xs.length+1) (xs.length+1)):=
 (W.ext (Ext.new H c)).app (by rw[ef];omega) [a] (by simpa using hc) rfl
theorem jD (E:Ext h0 H) (W:Ow e enc h0 H o xs v) (c c':aZ):Ext h0 (cg (H.new c) o c'):=(E.bN c).app (fun b hb=>by have:=W.lt b hb;exact⟨this.1,by rw[ef];omega⟩) c'
end
def Sc (h:aa) (a:Int) (M n:Nat) (σ:St):Prop:=∃(i:Nat) (o:Option Nat) (v:Value),n=M-i∧i≤M∧Ext h σ.m.h∧Ow 3 ab h σ.m.h o (mg a i) v∧σ.t.get 0=some (.int .i64 a)∧σ.t.get 5=some v∧σ.t.get 7=some (.int .i64 (M:Nat))∧σ.t.get 8=some (.int .i64 (i:Nat))
theorem uh (a:Int) (n:Nat):(mg a n).length=n:=by simp[mg]
theorem ag8 (a:Int) (n:Nat):mg a (n+1)=mg a n++[a+n]:=by simp[mg,nY]
theorem ag7 (a:Int) (ha: -4611686018427387904≤a∧a≤4611686018427387904) (M:Nat) (hM:M≤1048576) (h:aa):ao PP 285 [.int .i64 a,.int .i64 (M:Nat)] h (fun v h'=>Ext h h'∧aK 3 ab h' v (mg a M)):=by
 refine ao.jT (post:=fun v h'=>Ext h h'∧cL 3 ab h h' v (mg a M)) ?_ (fun v h' ⟨E,W⟩=>by
  obtain⟨h'',w,E',S⟩:=W.dB E;exact⟨h'',w,E',S⟩)
 refine aC mix (aD Tryz.func285) rfl rfl rfl aeV ?_;simp only[ai,Tryz.f285];simp -implicitDefEqProofs;refine bL (Sc h a M) _ ⟨0,none,_,rfl,by omega,Ext.bJ h,Ow.nil,by simp⟩ ?_;rintro n ⟨T,⟨x,H⟩⟩ ⟨i,o,v,rfl,hi,E,W,g0,g5,g7,g8⟩;simp at E W g0 g5 g7 g8;obtain⟨rfl,_⟩:=id W;simp -implicitDefEqProofs[g0,g5,g7,g8];refine bY (fun hc=>?_) (fun hc=>?_)
 ·have w1:=bU (i:=i) (by omega);obtain⟨z,hz⟩:∃z,z=a+(i:Int):=⟨_,rfl⟩;have w2:IntKind.wrap .i64 (a+(i:Int))=z:=by rw[bK (by omega),hz]
  have hA:=jB rT W z (by rw[uh];omega);simp only[ab,uh,Option.map_map]at hA;have hr1:List.range 1=[0]:=rfl;simp -implicitDefEqProofs[g0,g5,g7,g8,w1,w2,aP,hr1,hA,uh];refine⟨M-(i+1),by omega,i+1,some (H.n+1),.slice (some ⟨H.n+1,0,none⟩) (i+1) (i+1),rfl,by omega,jD E W _ _,?_,by simp[g0,g7]⟩;have:=Ow.one W E.n (.row true 3 [.int .i64 z]) z (cells:=(mg a i).flatMap ab++[.int .i64 z]) rfl;rw[uh]at this;rw[ag8,←hz];simpa using this
 ·have e:i=M:=by omega
  subst e;simp -implicitDefEqProofs[g0,g5,g7,g8];exact⟨E,W.own⟩
def rG (h:aa) (r:Option (List Int)) (v:Value) (h':aa):Prop:=Ext h h'∧match r with
 |some l=>∃s,aK 3 ab h' s l∧v= .tuple #[s,.bool true]
 |none=>v= .tuple #[.slice none 0 0,.bool false]
theorem alc (v:aj) (Mv:gY v) (cs:List Value) (uv:Value) (us:List Bool) (hu:us.length≤1073741824) (a:Int) (ha: -4611686018427387904≤a∧a≤4611686018427387904) (size:Int) (hz:size≤1048576) (h:aa) (H:bR h v cs) (hus:yP h uv us):
  ao PP 245 [.agg ⟨cs⟩,uv,.int .i64 a,.int .i64 size] h (rG h (oY v us a size)):=by
 refine aC mix (aD Tryz.func245) rfl rfl rfl aeE ?_;simp only[ai,Tryz.f245];have hlong:=fun M hM=>aab v Mv cs uv us hu a ha M hM h H hus;obtain⟨s,k,p,rfl,h1,h2,h3⟩:=H;obtain⟨ad1,c1,e1⟩:=h1.shape;obtain⟨ad2,c2,e2⟩:=h2.shape;obtain⟨ad3,c3,e3⟩:=h3.shape;subst e1;subst e2;subst e3;obtain⟨ad4,c4,rfl⟩:=hus.shape;unfold oY rG;by_cases q1:size<1
 ·simp -implicitDefEqProofs[q1];exact Ext.bJ h
 by_cases q2:(v.ag.length:Int)<size
 ·simp -implicitDefEqProofs[q1,q2];exact Ext.bJ h
 obtain⟨M,rfl⟩:∃M:Nat,size=M:=⟨size.toNat,by omega⟩;simp -implicitDefEqProofs[q1,q2];refine(hlong M (by omega)).mono ?_;rintro r h' ⟨e,rfl⟩;replace e:=e.symm;subst e;simp -implicitDefEqProofs[af];intro _;by_cases q3:kZ v us a M 0<M
 ·simp -implicitDefEqProofs[q3];exact Ext.bJ h
 ·simp -implicitDefEqProofs[q3];refine(ag7 a ha M (by omega) h).mono ?_;rintro r h' ⟨E,S⟩;obtain⟨ad,c,rfl⟩:=S.shape;simp -implicitDefEqProofs[af];intro _;exact⟨E,S⟩
theorem aaa {v:aj} {us:List Bool} {a:Int}:∀(m n:Nat),(0<n→0≤a∧a+n≤v.ag.length)→0<kZ v us a m n→0≤a∧a+(kZ v us a m n:Nat)≤v.ag.length:=by
 intro m;induction m with
 |zero=>intro n h q;exact h q
 |succ m ih=>
  intro n h q;rw[kZ]at q ⊢;split
  ·rename_i hc;rw[if_pos hc]at q;refine ih (n+1) (fun _=>?_) q;rw[bX]at hc;have hf:=hc.1;unfold qI at hf;simp at hf;rcases Nat.eq_zero_or_pos n with e|e
   ·subst e;omega
   ·have:=h e;omega
  ·rename_i hc;rw[if_neg hc]at q;exact h q
theorem yE {v:aj} {us:List Bool} {a size:Int} {l:List Int} (h:oY v us a size=some l):l=mg a size.toNat∧1≤size∧0≤a∧a+size≤v.ag.length:=by
 unfold oY at h;split at h
 ·cases h
 ·rename_i hc;obtain rfl:=bP h;have:=aaa (v:=v) (us:=us) (a:=a) size.toNat 0 (by omega) (by omega);refine⟨rfl,by omega,this.1,?_⟩;have hc3:¬(kZ v us a size.toNat 0:Int)<size:=fun q=>hc (.inr (.inr q));omega
theorem OP {a:Int} {n:Nat} {x:Int} (h:x∈mg a n):a≤x∧x<a+n:=by
 unfold mg at h;obtain⟨k,hk,rfl⟩:=dI.1 h;rw[dv]at hk;omega
theorem Zv (v:aj) (vc:List Value) (uv lv:Value) (l:List Int) (hin:∀x∈l,0≤x∧x<v.ag.length) (hl:l.length≤1073741824) (k:Int) (h:aa) (H:bR h v vc) (hs:bq h lv l) (bl bh:Nat) {w1 w2:Bool}
  (hbl:h.f bl= .row w1 22 [lv]) (hbh:h.f bh= .row w2 239 (vc++[uv])):ao PP 286 [.int .i64 k,.pointer (some ⟨bl,0,none⟩),.pointer (some ⟨bh,0,none⟩)] h (fun r h'=>h'=h∧r= .int .i64 (km v l k)):=by
 refine aC mix (aD Tryz.func286) rfl rfl rfl aeW ?_;simp only[ai,Tryz.f286];obtain⟨s,kk,p,rfl,h1,h2,h3⟩:=H;obtain⟨ad1,c1,e1⟩:=h1.shape;subst e1;obtain⟨ad4,c4,rfl⟩:=hs.shape;unfold km;by_cases q1:k<0
 ·simp -implicitDefEqProofs[q1]
 by_cases q2:(l.length:Int)≤k
 ·simp -implicitDefEqProofs[q1,q2,hbl]
 obtain⟨i,rfl⟩:∃i:Nat,k=i:=⟨k.toNat,by omega⟩;have hil:i<l.length:=by omega
 have hti:l[i]? =some l[i]:=av hil;obtain⟨_,b,o,wb,cells,r,rfl,hb,hd,hlc,_⟩:=hs.at 1 V.dV hti;rw[Nat.mul_one]at hd;have hlc':o+i+1≤cells.length:=by omega
 have hgd:l.getD i 0=l[i]:=by rw[bB,hti];rfl
 have hx:=hin l[i] (fy hil);obtain⟨x,hxe⟩:∃x,x=l[i]:=⟨_,rfl⟩;rw[←hxe]at hx hgd hd;obtain⟨j,rfl⟩:∃j:Nat,x=j:=⟨x.toNat,by omega⟩;have hjl:j<v.ag.length:=by omega
 obtain⟨t,ht⟩:∃t,t=iT v j:=⟨_,rfl⟩;have hsj:=uC hjl;rw[←ht]at hsj;obtain⟨_,b',o',wb',cells',r',rfl,hb',hd',hlc2,_⟩:=h1.at 4 V.gK hsj;have hd3:cells'.drop (o'+j*4+3)= .int .i64 t.kind::r':=by rw[←fx,hd'];rfl
 have l3:o'+j*4+3+1≤cells'.length:=by omega
 simp -implicitDefEqProofs[q1,q2,hbl,hbh,hil,hb,hd,hlc',ab,hjl,hb',hd3,l3,hgd];rw[←hxe,jN,←ht]
def c1 (v:aj) (l:List Int) (x:Int) (i:Nat):Nat:=((List.range i).filter fun k:Nat=>decide (km v l k=x)).length
theorem CO (v:aj) (l:List Int) (x:Int) (i:Nat):c1 v l x (i+1)=if km v l i=x then c1 v l x i+1 else c1 v l x i:=by
 unfold c1;rw[nY,nr,bF];by_cases h:km v l i=x
 ·simp[h]
 ·simp[h]
theorem CN (v:aj) (l:List Int) (x:Int) (i:Nat):c1 v l x i≤i:=by
 unfold c1;have:=List.length_filter_le (fun k:Nat=>decide (km v l k=x)) (List.range i);simpa using this
def mY (v:aj) (l:List Int) (k:Nat):Bool:=decide (km v l k≠1) || (decide (km v l ((k:Int)-1)=2) || decide (km v l ((k:Int)+1)=2))
theorem Ng (v:aj) (l:List Int) (du:Int):sf v l du=((List.range l.length).all (mY v l)&&(!(decide (du=0)&&decide (0<c1 v l 2 l.length))&&decide ((c1 v l 1 l.length:Int)=du))):=rfl
def BU (v:aj) (l:List Int) (du:Int) (fv:Value) (H:aa) (m:Nat) (n:Nat) (σ:St):Prop:=∃i:Nat,n=m-i∧i≤m∧σ.m.h=H∧(List.range i).all (mY v l)=true∧σ.t.get 2=some (.int .i64 du)∧σ.t.get 7=some fv∧σ.t.get 8=some (.int .i64 (c1 v l 1 i:Nat))∧σ.t.get 9=some (.int .i64 (c1 v l 2 i:Nat))∧
 σ.t.get 13=some (.int .i64 (m:Nat))∧σ.t.get 14=some (.int .i64 (i:Nat))
theorem ZA (v:aj) (vc:List Value) (uv lv:Value) (hnu:cu uv=true) (l:List Int) (hin:∀x∈l,0≤x∧x<v.ag.length) (hl:l.length≤1048576) (du:Int) (h:aa) (H:bR h v vc) (hs:bq h lv l):
  ao PP 246 [.agg ⟨vc++[uv]⟩,lv,.int .i64 du] h (fun r h'=>Ext h h'∧r= .bool (sf v l du)):=by
 refine aC mix (aD Tryz.func246) rfl rfl rfl aeF ?_;simp only[ai,Tryz.f246];obtain⟨C,hC⟩:∃C,C=vc++[uv]:=⟨_,rfl⟩;have hCl:C.length=6:=by obtain⟨s,kk,p,rfl,_⟩:=H;rw[hC];rfl
 obtain⟨ad4,c4,rfl⟩:=hs.shape;obtain⟨m,hm⟩:∃m,m=l.length:=⟨_,rfl⟩;obtain⟨G,hG⟩:∃G,G=(h.new (.row true 239 C)).new (.row true 22 [.slice ad4 l.length c4]):=⟨_,rfl⟩;have E:Ext h G:=by rw[hG];exact(Ext.new _ _).bN _
 have k1:=fun k=>Zv v vc uv (.slice ad4 l.length c4) l hin (by omega) k G (V.bR.ext H E) (hs.ext E) (h.n+1) h.n (w1:=true) (w2:=true) (by rw[hG];simp) (by rw[hG,←hC];simp);rw[←hC];have hfl:∀i,mY v l i=false→i<m→sf v l du=false:=fun i hi him=>by
  rw[Ng,V.all_false (by omega) hi];rfl
 simp -implicitDefEqProofs[hCl];rw[←hG];refine bL (BU v l du (.func (.func 286) #[] #[.pointer (some ⟨h.n+1,0,none⟩),.pointer (some ⟨h.n,0,none⟩)]) G m) m ⟨0,by omega,by omega,by simp,rfl,by simp[c1,hm]⟩ ?_;rintro n ⟨T,⟨x,G2⟩⟩ ⟨i,rfl,hi,e,aQ,g2,g7,g8,g9,g13,g14⟩;simp at e g2 g7 g8 g9 g13 g14;subst e;simp -implicitDefEqProofs[g2,g7,g8,g9,g13,g14];refine bY (fun hc=>?_) (fun hc=>?_)
 ·have him:i<m:=by omega
  have w1:=bU (i:=i) (by omega);have w1':IntKind.wrap .i64 ((i:Int)+1)=(i:Int)+1:=bK (by omega);have w2:IntKind.wrap .i64 ((i:Int)-1)=(i:Int)-1:=bK (by omega);have l1:=CN v l 1 i;have l2:=CN v l 2 i;have w3:IntKind.wrap .i64 ((c1 v l 1 i:Int)+1)=((c1 v l 1 i+1:Nat):Int):=by rw[bK (by omega)];omega
  have w4:IntKind.wrap .i64 ((c1 v l 2 i:Int)+1)=((c1 v l 2 i+1:Nat):Int):=by rw[bK (by omega)];omega
  have s1:=CO v l 1 i;have s2:=CO v l 2 i;simp -implicitDefEqProofs[g2,g7,g8,g9,g13,g14];refine(k1 i).mono ?_;rintro r h' ⟨rfl,rfl⟩;simp -implicitDefEqProofs[af];intro _;obtain⟨kk,hkk⟩:∃kk,kk=km v l i:=⟨_,rfl⟩;rw[←hkk]at s1 s2 ⊢;by_cases q1:kk=1
  ·rw[if_pos q1]at s1;rw[if_neg (by omega)]at s2;simp -implicitDefEqProofs[g2,g7,g8,g9,g13,g14,q1,w2,w3];refine(k1 ((i:Int)-1)).mono ?_;rintro r h' ⟨e,rfl⟩;replace e:=e.symm;subst e;simp -implicitDefEqProofs[af];intro _;have fin:mY v l i=true→qj (fun σ'=>∃j,j<m-i∧BU v l du (.func (.func 286) #[] #[.pointer (some ⟨h.n+1,0,none⟩),.pointer (some ⟨h.n,0,none⟩)]) h' m j σ') (vk PP Tryz.f246.results.toList (fun r h'=>Ext h h'∧r= .bool (sf v l du))) .normal ⟨T,⟨x,h'⟩⟩∨True:=fun _=>.inr trivial;by_cases q2:km v l ((i:Int)-1)=2
   ·have hok:mY v l i=true:=(by unfold mY;simp[q2]);simp -implicitDefEqProofs[g2,g7,g8,g9,g13,g14,q2,w1,w3];exact⟨m-(i+1),by omega,i+1,rfl,by omega,rfl,V.all_succ aQ hok,by simp[g2,g7,s1,w3,g9,s2,g13]⟩
   ·simp -implicitDefEqProofs[g2,g7,g8,g9,g13,g14,q2,w1',w3];refine(k1 ((i:Int)+1)).mono ?_;rintro r h'' ⟨e,rfl⟩;replace e:=e.symm;subst e;simp -implicitDefEqProofs[af];intro _;by_cases q3:km v l ((i:Int)+1)=2
    ·have hok:mY v l i=true:=(by unfold mY;simp[q3]);simp -implicitDefEqProofs[g2,g7,g8,g9,g13,g14,q3,w1,w3];exact⟨m-(i+1),by omega,i+1,rfl,by omega,rfl,V.all_succ aQ hok,by simp[g2,g7,s1,w3,g9,s2,g13]⟩
    ·have hok:mY v l i=false:=(by unfold mY;rw[←hkk,q1];simp[q2,q3]);have hf:=hfl i hok him;simp -implicitDefEqProofs[q3,hf];exact E
  ·rw[if_neg q1]at s1;have hok:mY v l i=true:=(by unfold mY;rw[←hkk];simp[q1]);by_cases q2:kk=2
   ·rw[if_pos q2]at s2;simp -implicitDefEqProofs[g2,g7,g8,g9,g13,g14,q1,q2,w1,w4];exact⟨m-(i+1),by omega,i+1,rfl,by omega,rfl,V.all_succ aQ hok,by simp[g2,g7,g8,s1,s2,w4,g13]⟩
   ·rw[if_neg q2]at s2;simp -implicitDefEqProofs[g2,g7,g8,g9,g13,g14,q1,q2,w1];exact⟨m-(i+1),by omega,i+1,rfl,by omega,rfl,V.all_succ aQ hok,by simp[g2,g7,g8,s1,g9,s2,g13]⟩
 ·have e:i=m:=by omega
  subst e;have he:sf v l du=(!(decide (du=0)&&decide (0<c1 v l 2 i))&&decide ((c1 v l 1 i:Int)=du)):=by
   rw[Ng,←hm,aQ,tu]
  rw[he];obtain⟨A,hA⟩:∃A,A=c1 v l 1 i:=⟨_,rfl⟩;obtain⟨Bc,hB⟩:∃B,B=c1 v l 2 i:=⟨_,rfl⟩;rw[←hA]at g8 ⊢;rw[←hB]at g9 ⊢;by_cases q1:du=0
  ·by_cases q2:0<Bc
   ·have q2':(0:Int)<(Bc:Int):=(by omega);simp -implicitDefEqProofs[g2,g7,g8,g9,g13,g14,q1,q2,q2'];exact E
   ·have q2':¬(0:Int)<(Bc:Int):=(by omega);subst q1;by_cases q3:A=0
    ·simp -implicitDefEqProofs[g2,g7,g8,g9,g13,g14,q2,q2',q3];exact E
    ·simp -implicitDefEqProofs[g2,g7,g8,g9,g13,g14,q2,q2',q3];exact E
  ·by_cases q3:(A:Int)=du
   ·simp -implicitDefEqProofs[g2,g7,g8,g9,g13,g14,q1,q3];exact E
   ·simp -implicitDefEqProofs[g2,g7,g8,g9,g13,g14,q1,q3];exact E
end Go.Proofs.Ybk.K

import Derived.Test.YtbcdmljanolkeaaGreatDoorMd
import Derived.Lib.ItoaNum
import Derived.Shelf.SlSortCmp.WholeK
import Derived.Shelf.Sort.Plain
import Derived.Test.YtbcdmljanolkeaaGreatDoorProg
import Derived.Shelf.Slices.CompactI
set_option linter.unusedVariables false
set_option linter.unusedSimpArgs false
set_option linter.unusedSectionVars false
set_option linter.constructorNameAsVariable false
set_option maxRecDepth 20000
namespace Go.Proofs.Ybk.T
open Go Go.Am
set_option maxHeartbeats 2000000
def dV (h:aa) (v:Value) (ts:List a8):Prop:=∃ad c,v= .slice ad ts.length c∧((ad=none∧ts=[]∧c=0)∨∃b off w cells rest,ad=some ⟨b,off,none⟩∧h.f b= .row w 193 cells∧cells.drop off=ts.flatMap cg++rest∧off≤cells.length∧b<h.n)
theorem nI.apK {h0 h:aa} {v:Value} {ts:List a8} (H:nI h0 h v ts):dV h v ts:=by
 obtain⟨ad,rfl,z⟩:=H
 refine⟨ad,_,rfl,?_⟩
 rcases z with⟨z1,z2⟩|⟨b,z1,z2,z3,z4⟩
 ·exact .inl ⟨z1,z2,by rw[z2];rfl⟩
 ·exact .inr ⟨b,0,true,_,[],z1,z2,by simp,by simp,z4⟩
theorem dV.ext {h h':aa} {v:Value} {ts:List a8} (H:dV h v ts) (e:Ext h h'):dV h' v ts:=by
 obtain⟨ad,c,q,z⟩:=H
 refine⟨ad,c,q,?_⟩
 rcases z with z|⟨b,off,w,cells,rest,z1,z2,z3,z4,z5⟩
 ·exact .inl z
 ·exact .inr ⟨b,off,w,cells,rest,z1,by rw[e.f b z5,z2],z3,z4,Nat.lt_of_lt_of_le z5 e.n⟩
theorem Km (ts:List a8) (i:Nat):(ts.flatMap cg).drop (i*5)=(ts.drop i).flatMap cg:=by
 induction ts generalizing i with
 |nil=>simp
 |cons t r ih=>cases i with
  |zero=>simp
  |succ i=>
   rw[List.drop_succ_cons,←ih i,List.flatMap_cons,List.drop_append]
   rw[List.drop_eq_nil_of_le (by simp[cg];omega)]
   simp[cg]
   congr 1
   omega
theorem dV.at {h:aa} {ad:Option Addr} {n c:Nat} {ts:List a8} (H:dV h (.slice ad n c) ts) {i:Nat} {t:a8} (hi:ts[i]? =some t):
  n=ts.length∧∃b off w cells rest,ad=some ⟨b,off,none⟩∧h.f b= .row w 193 cells∧cells.drop (off+i*5)=cg t++rest∧off+i*5+5≤cells.length∧b<h.n:=by
 obtain⟨ad',c',q,z⟩:=H
 simp only[Value.slice.injEq]at q
 obtain⟨rfl,rfl,rfl⟩:=q
 have hlt:i<ts.length:=by rw[List.getElem?_eq_some_iff]at hi;exact hi.1
 refine⟨rfl,?_⟩
 rcases z with⟨_,rfl,_⟩|⟨b,off,w,cells,rest,z1,z2,z3,z4,z5⟩
 ·simp at hlt
 ·have hd:ts.drop i=t::ts.drop (i+1):=by
   rw[List.getElem?_eq_some_iff]at hi
   obtain⟨h1,h2⟩:=hi
   rw[List.drop_eq_getElem_cons h1,h2]
  have e:cells.drop (off+i*5)=cg t++((ts.drop (i+1)).flatMap cg++rest):=by
   rw[←List.drop_drop,z3,List.drop_append,Km,hd,List.flatMap_cons,ue,List.append_assoc]
   rw[show i*5-ts.length*5=0 by omega];rfl
  refine⟨b,off,w,cells,_,z1,z2,e,?_,z5⟩
  have:=congrArg List.length e
  simp[cg]at this
  omega
theorem dV.sub {h:aa} {ad:Addr} {ts:List a8} {c i k c':Nat} (H:dV h (.slice (some ad) ts.length c) ts) (h1:i≤k) (h2:k≤ts.length):dV h (.slice (some ⟨ad.block,ad.off+i*5,ad.spot⟩) (k-i) c') ((ts.take k).drop i):=by
 obtain⟨ad',c',q,z⟩:=H
 simp only[Value.slice.injEq]at q
 obtain⟨rfl,_,rfl⟩:=q
 rcases z with⟨z1,_⟩|⟨b,off,w,cells,rest,z1,z2,z3,z4,z5⟩
 ·simp at z1
 ·simp only[Option.some.injEq]at z1
  subst z1
  have hcl:cells.length=off+(ts.length*5+rest.length):=by
   have:=congrArg List.length z3
   rw[List.length_drop,List.length_append,ue]at this;omega
  have e2:(ts.drop i).flatMap cg=((ts.take k).drop i).flatMap cg++(ts.drop k).flatMap cg:=by
   rw[←List.flatMap_append,List.drop_take]
   congr 1
   rw[show ts.drop k=(ts.drop i).drop (k-i) by rw[List.drop_drop];congr 1;omega,List.take_append_drop]
  refine⟨_,c',by rw[List.length_drop,List.length_take];congr 1;omega,.inr ⟨b,off+i*5,w,cells,(ts.drop k).flatMap cg++rest,rfl,z2,?_,?_,z5⟩⟩
  ·rw[←List.drop_drop,z3,List.drop_append,Km,ue,show i*5-ts.length*5=0 by omega,e2,List.append_assoc];rfl
  ·omega
def fN (ts:List a8):Nat:=(ts.takeWhile (fun t=>decide (t.kind≠3))).length
def uF (s:Value) (ts:List a8) (a:Nat) (h:aa) (n:Nat) (σ:St):Prop:=∃k:Nat,n=ts.length-k∧a≤k∧k≤ts.length∧σ.t.get 0=some s∧σ.t.get 1=some (.int .i64 a)∧σ.t.get 6=some (.int .i64 k)∧σ.m.h=h∧k+fN (ts.drop k)=a+fN (ts.drop a)
def Tm (h:aa) (ts:List a8) (a:Nat) (v:Value):Prop:=∃s',dV h s' ((ts.take (a+fN (ts.drop a))).drop a)∧v= .tuple #[s',.int .i64 ((if a+fN (ts.drop a)<ts.length then a+fN (ts.drop a)+1 else ts.length:Nat):Int)]
theorem oz (s:Value) (ts:List a8) (a:Nat) (ha:a<ts.length) (hl:ts.length≤1073741824) (h:aa) (hs:dV h s ts):
  ai PP 158 [s,.int .i64 a] h (fun v h'=>h'=h∧Tm h ts a v):=by
 refine az mix abq Vy rfl (by show 2≤40;decide) aiF ?_
 simp only[vI,Tryz.f158]
 obtain⟨s0,hs1⟩:∃s0,s0=s:=⟨_,rfl⟩
 have hs0:=hs
 obtain⟨ad,c,hse,hz⟩:=hs
 obtain⟨ad,rfl⟩:∃x,ad=some x:=by
  rcases hz with⟨_,rfl,_⟩|⟨b,off,_,_,_,e,_⟩
  ·simp at ha
  ·exact⟨_,e⟩
 have hsz:∃w cells,h.f ad.block= .row w 193 cells∧ad.spot=none:=by
  rcases hz with⟨e,_⟩|⟨b,off,w,cells,rest,e,e2,_⟩
  ·simp at e
  ·simp only[Option.some.injEq]at e;subst e;exact⟨w,cells,e2,rfl⟩
 obtain⟨w0,cells0,hrow,hspot⟩:=hsz
 obtain⟨blk,off0,sp⟩:=ad
 simp only at hspot hrow
 subst hspot
 subst hse
 have c1:¬(a:Int)<0:=by omega
 have c2:¬(ts.length:Int)<(a:Int):=by omega
 simp[c1,c2]
 refine bD (uF (.slice (some ⟨blk,off0,none⟩) ts.length c) ts a h) _ ⟨a,rfl,by omega,by omega,by simp,by simp,by simp,rfl,rfl⟩ ?_
 rintro n ⟨T,⟨x,H⟩⟩ ⟨k,rfl,hak,hk,g0,g1,g6,rfl,hr⟩
 simp at g0 g1 g6 hrow hs0
 simp[g0,g1,g6]
 refine bB (fun hc=>?_) (fun hc=>?_)<;>simp only[decide_eq_true_eq,decide_eq_false_iff_not]at hc
 ·have hkl:k<ts.length:=by omega
  have ht:ts[k]? =some ts[k]:=List.getElem?_eq_getElem hkl
  obtain⟨_,b,off,w,cells,rest,e1,e2,e3,e4,e5⟩:=hs0.at ht
  simp only[Option.some.injEq,Addr.mk.injEq,and_true]at e1
  obtain⟨rfl,rfl⟩:=e1
  have hle:off0+k*5+1≤cells.length:=by omega
  have hdk:ts.drop k=ts[k]::ts.drop (k+1):=List.drop_eq_getElem_cons hkl
  simp[g0,g1,g6,hkl,e2,e3,hle,cg]
  refine bB (fun hq=>?_) (fun hq=>?_)<;>simp only[decide_eq_true_eq,decide_eq_false_iff_not]at hq
  ·have hw:IntKind.wrap .i64 ((k:Int)+1)=((k+1:Nat):Int):=by rw[aA (by omega)];omega
   have hn0:fN (ts.drop k)=0:=by rw[hdk,fN,List.takeWhile_cons];simp[hq]
   have hr2:a+fN (ts.drop a)=k:=by omega
   simp[g0,g1,g6,hw,e2,hak,hk]
   refine⟨_,?_,by rw[hr2,if_pos hkl];simp;rfl⟩
   rw[hr2];exact hs0.sub hak hk
  ·have hw:IntKind.wrap .i64 ((k:Int)+1)=((k+1:Nat):Int):=by rw[aA (by omega)];omega
   have hn0:fN (ts.drop k)=fN (ts.drop (k+1))+1:=by rw[hdk,fN,List.takeWhile_cons];simp[hq,fN]
   simp[g0,g1,g6,hw]
   exact⟨ts.length-(k+1),by omega,k+1,rfl,by omega,by omega,by simp[g0],by simp[g1],by simp,rfl,by omega⟩
 ·have hke:k=ts.length:=by omega
  have hn0:fN (ts.drop k)=0:=by rw[List.drop_eq_nil_of_le (by omega)];rfl
  have hr2:a+fN (ts.drop a)=ts.length:=by omega
  have hal:a≤ts.length:=by omega
  simp[g0,g1,g6,hrow,hal]
  refine⟨_,?_,by rw[hr2,if_neg (by omega)]⟩
  rw[hr2];exact hs0.sub hal (Nat.le_refl _)
@[irreducible] def aq4 (n d:Nat):Nat:=if 1099511627776<n*10+d then 1099511627776 else n*10+d
@[irreducible] def aq5 (n d:Nat):Nat:=n*10+d
def sd (l:List UInt8) (a k:Nat) (z6 z8:List Value) (ln q:Int) (h:aa) (σ:St):Prop:=
 σ.m.h=h∧σ.t.get 0=some (.string (B l))∧σ.t.get 1=some (.int .i64 (a:Nat))∧σ.t.get 6=some (.pointer (some ⟨6,0,some 0⟩))∧σ.t.get 8=some (.pointer (some ⟨8,0,some 0⟩))∧σ.t.get 10=some (.int .i64 (k:Nat))∧
 σ.t.get 11=some (.pointer (some ⟨11,0,some 0⟩))∧σ.t.get 12=some (.pointer (some ⟨12,0,some 0⟩))∧σ.m.x.look 6=some (193,z6)∧σ.m.x.look 8=some (36,z8)∧σ.m.x.look 11=some (36,[.int .i64 ln,.int .i64 q])∧
 σ.m.x.look 12=some (193,[.int .i64 0,.int .i64 0,.int .i64 ln,.int .i64 q,.string (B [])])
def pieces:List (List UInt8):=[[115,101,97,116],[32],[53],[45,51],[10],[35,32,120,10],[119,104,101,101,108],[9],[50,49,52,55,52,56,51,54,52,55],[50,49,52,55,52,56,51,54,52,56],[45,50,49,52,55,52,56,51,54,52,56],[45,50,49,52,55,52,56,51,54,52,57],[45],[97,49],[49,97],[49,45],[59],[195,169],[103,97,112],[107,105,108,108],[112,111,108,101],[13],[35],[48],[99,111,109,112,97,110,105,111,110],[57,57,57,57,57,57,57,57,57,57,57,57,57,57,57,57,57,57,57,57],[65],[32,32],[49],[50]]
attribute [local simp] oh
attribute [local simp ↓ high] aqt
theorem agu (l:List UInt8) (a:Nat) (ln aj:Int):(dC l a ln aj).code=0∨(dC l a ln aj).code=2∨(dC l a ln aj).code=4:=by
 unfold dC ie
 generalize a+eG false (l.drop a)=k
 cases l[k]? with
 |none=>simp
 |some c=>
  dsimp only
  (repeat' split)<;>simp
end Go.Proofs.Ybk.T
namespace Go.Proofs.Ybk.F
open Go Go.Am
set_option maxHeartbeats 2000000
theorem aow {σ:St} (d:Option Nat) (x:Operand) (ty yt:TypeId) (pos:String) (aft:Array Edge) (g:Option (Nat×Bool)) (hx:aG σ x=some .nilIface):
  cu PP σ ⟨d,.binOp .eql 110 x (.const .nilIface) yt,ty,pos,aft,g⟩=some (.bool true,σ):=by
 refine mw (by simp[Op.operands,gZ hx rfl];rfl) rfl ?_ rfl
 have e1:eqGuard .eql 110 x (.const .nilIface) .nilIface .nilIface=pure ():=by unfold eqGuard;simp
 have e2:binOp .eql 110 .nilIface .nilIface=(do pure (.bool (←Op.equal 110 .nilIface .nilIface))):=rfl
 have e3:(Op.equal 110 .nilIface .nilIface).aJ PP=some true:=by
  have key:∀n,(Op.equalIn (n+1) 110 .nilIface .nilIface).aJ PP=some true:=fun n=>by simp[Op.equalIn,bP,lN AA,oZ]
  exact key 9999
 have e4:iH σ (.const .nilIface)= .nilIface:=rfl
 simp only[execOp,iS hx,e4,e1,e2,bP,oZ,Option.bind_some,e3]
attribute [simp] aow
def kI (a:Int):Int:=if a<0 then 0 else a
def pB (h:aa) (l:List FR) (v:Value) (h':aa):Prop:=Ext h h'∧dp h' h'.n v l
theorem ry (code line aj:Int) (h:aa):ai PP 120 [.int .i64 code,.int .i64 line,.int .i64 aj] h (pB h (if code≤0 then[]else[⟨code,kI line,kI aj⟩])):=by
 refine az mix aa6 Ve rfl (by show 3≤18;decide) ail ?_
 simp only[vn,Tryz.f120]
 by_cases h1:code≤0
 ·simp -implicitDefEqProofs[h1]
  exact⟨Ext.bu h,.nil⟩
 ·simp -implicitDefEqProofs[h1,mh]
  exact⟨Ext.new h _,.cons h.n ⟨code,kI line,kI aj⟩ .nilIface [] (by simp[kI]) (by simp) .nil⟩
theorem dp.shape {h:aa} {n:Nat} {E:Value} {l:List FR} (H:dp h n E l):(E= .nilIface∧l=[])∨∃b f E' r,E= .iface 207 (.pointer (some ⟨b,0,none⟩))∧l=f::r∧h.f b= .row true 223 [.int .i64 f.code,.int .i64 f.line,.int .i64 f.aj,E']∧b<n∧dp h n E' r:=by
 cases H with
 |nil=>exact .inl ⟨rfl,rfl⟩
 |cons b f E l h1 h2 h3=>exact .inr ⟨b,f,E,l,rfl,rfl,h1,h2,h3⟩
theorem aqN (E:Value) (l:List FR) (code:Int) (h:aa) (H:dp h h.n E l):ai PP 157 [E,.int .i64 code] h (pB h (if code≤0 then l else⟨code,0,0⟩::l)):=by
 refine az mix abp Vx rfl (by show 2≤19;decide) aiE ?_
 simp only[vH,Tryz.f157]
 rcases H.shape with⟨rfl,rfl⟩|⟨b,f,E',r,rfl,rfl,h1,h2,h3⟩
 ·by_cases hc:code≤0
  ·simp -implicitDefEqProofs[hc]
   exact⟨Ext.bu h,H⟩
  ·simp -implicitDefEqProofs[hc]
   refine(ry code 0 0 h).mono ?_
   rintro v h' ⟨E,hv⟩
   rw[if_neg hc]at hv
   rcases hv.shape with⟨_,q⟩|⟨b,f,E',r,rfl,q,k1,k2,k3⟩
   ·cases q
   simp -implicitDefEqProofs[ae]
   intro _
   exact⟨E,hv⟩
 ·by_cases hc:code≤0
  ·simp -implicitDefEqProofs[hc]
   exact⟨Ext.bu h,H⟩
  ·simp -implicitDefEqProofs[hc,mh]
   exact⟨Ext.new h _,.cons h.n ⟨code,0,0⟩ _ _ (by simp) (by simp) (H.ext (Ext.new h _) |>.up (by simp) (fun _ _=>rfl))⟩
def lM (b:Nat):List Value:=[.pointer (some ⟨b,0,none⟩)]
def uu (h:aa) (bs:List Nat) (l:List FR):Prop:=bs.length=l.length∧∀(j b:Nat) (f:FR),bs[j]? =some b→l[j]? =some f→b<h.n∧∃E,h.f b= .row true 223 [.int .i64 f.code,.int .i64 f.line,.int .i64 f.aj,E]
def RK (h:aa) (l:List FR) (v:Value) (h':aa):Prop:=Ext h h'∧∃bs o,uu h bs l∧bz 207 lM h h' o bs v
def sb (h:aa) (l:List FR) (bf:Nat) (m:Nat) (σ:St):Prop:=∃(i:Nat) (E:Value) (bs:List Nat) (o:Option Nat) (v old:Value),m=l.length-i∧i≤l.length∧Ext h σ.m.h∧dp h h.n E (l.drop i)∧uu h bs (l.take i)∧bz 207 lM h σ.m.h o bs v∧o≠some bf∧bf<σ.m.h.n∧σ.m.h.f bf= .row true 207 [old]∧
 σ.t.get 0=some E∧σ.t.get 3=some v∧σ.t.get 4=some (.pointer (some ⟨bf,0,none⟩))
theorem uP (E:Value) (l:List FR) (hl:l.length≤1000) (h:aa) (G:bQ h) (H:dp h h.n E l):ai PP 202 [E] h (RK h l):=by
 refine az mix abQ VZ rfl (by show 1≤17;decide) ai4 ?_
 simp only[wx,Tryz.f202]
 have hloc:bL E=true:=by rcases H.shape with⟨rfl,_⟩|⟨b,f,E',r,rfl,_⟩<;>rfl
 simp -implicitDefEqProofs
 refine bD (sb h l h.n) l.length ⟨0,E,[],none,.slice none 0 0,.pointer none,rfl,by omega,Ext.new h _,H,⟨by simp,fun j b f hj=>by simp at hj⟩,bz.nil,by simp,by simp,by simp,by simp,by simp,by simp⟩ ?_
 rintro m ⟨T,⟨x,H1⟩⟩ ⟨i,Ei,bs,o,v,old,rfl,hi,hE,hch,hB,hO,hob,hbf,hfb,g0,g3,g4⟩
 simp at hE hO hbf hfb g0 g3 g4
 obtain⟨rfl,ho⟩:=id hO
 have hEi:bL Ei=true:=by rcases hch.shape with⟨rfl,_⟩|⟨b,f,E',r,rfl,_⟩<;>rfl
 have hG1:=G.ext hE
 have hr1:List.range 1=[0]:=rfl
 rcases hch.shape with⟨rfl,hd⟩|⟨b,f,E',r,rfl,hd,h1,h2,h3⟩
 ·have hie:i=l.length:=by have:=congrArg List.length hd;rw[List.length_drop]at this;simp at this;omega
  simp -implicitDefEqProofs[g0,g3,g4]
  refine(Bp _ H1 hG1).mono ?_
  rintro r H2 ⟨e3,rfl⟩
  replace e3:=e3.symm
  subst e3
  simp -implicitDefEqProofs[ae,g0,g3,g4]
  intro _
  rw[hie,List.take_length]at hB
  exact⟨hE,bs,o,hB,hO⟩
 ·simp -implicitDefEqProofs[g0,g3,g4]
  refine(Bo b h.n old H1 hG1 hfb).mono ?_
  rintro r H2 ⟨rfl,e3⟩
  have hbn:¬b=h.n:=by omega
  have bq:H1.f b= .row true 223 [.int .i64 f.code,.int .i64 f.line,.int .i64 f.aj,E']:=by rw[hE.f b h2];exact h1
  subst e3
  have hil:i<l.length:=by
   rcases Nat.lt_or_ge i l.length with z|z
   ·exact z
   ·rw[List.drop_eq_nil_of_le z]at hd;cases hd
  have hti:l[i]? =some f:=by
   have:(l.drop i)[0]? =some f:=by rw[hd];rfl
   simpa using this
  have hdr:l.drop (i+1)=r:=by
   have:(l.drop i).drop 1=r:=by rw[hd];rfl
   rw[List.drop_drop]at this;exact this
  have hBl:bs.length=i:=by have:=hB.1;rw[List.length_take]at this;omega
  have hB':uu h (bs++[b]) (l.take (i+1)):=by
   rw[List.take_add_one,hti]
   refine⟨by simp[hB.1],fun j b' f' hj hf=>?_⟩
   rcases Nat.lt_or_ge j i with z|z
   ·rw[List.getElem?_append_left (by omega)]at hj
    rw[List.getElem?_append_left (by rw[List.length_take];omega)]at hf
    exact hB.2 j b' f' hj hf
   ·rw[List.getElem?_append_right (by omega)]at hj
    rw[List.getElem?_append_right (by rw[List.length_take];omega)]at hf
    have e1:j-bs.length=0:=by
     rcases Nat.eq_zero_or_pos (j-bs.length)with q|q
     ·exact q
     ·rw[List.getElem?_eq_none (by simp;omega)]at hj;cases hj
    rw[e1]at hj
    have e2:j-(l.take i).length=0:=by rw[List.length_take];omega
    rw[e2]at hf
    simp at hj hf
    subst hj;subst hf
    exact⟨h2,E',h1⟩
  have hE2:∀c,Ext h (H1.set h.n c):=fun c=>hE.cq (Nat.le_refl _) c
  have hnH:=hE.n
  have b1:¬b=H1.n:=by omega
  have b2:¬b=H1.n+1:=by omega
  have f1:¬h.n=H1.n:=by omega
  have f2:¬h.n=H1.n+1:=by omega
  have f3:¬H1.n+1=h.n:=by omega
  have hE'loc:bL E'=true:=by rcases h3.shape with⟨rfl,_⟩|⟨b,f,E',r,rfl,_⟩<;>rfl
  have nxt:∀σ2:St,Ext h σ2.m.h→∀o',bz 207 lM h σ2.m.h (some o') (bs++[b]) (.slice (some ⟨o',0,none⟩) (i+1) (i+1))→o'≠h.n→h.n<σ2.m.h.n→σ2.m.h.f h.n= .row true 207 [.pointer (some ⟨b,0,none⟩)]→
    σ2.t.get 0=some E'→σ2.t.get 3=some (.slice (some ⟨o',0,none⟩) (i+1) (i+1))→σ2.t.get 4=some (.pointer (some ⟨h.n,0,none⟩))→∃j,j<l.length-i∧sb h l h.n j σ2:=by
   intro σ2 x1 o' x2 x3 x4 x5 x6 x7 x8
   exact⟨l.length-(i+1),by omega,i+1,E',bs++[b],some o',_,_,rfl,by omega,x1,by rw[hdr];exact h3,hB',x2,by simpa using x3,x4,x5,x6,x7,x8⟩
  cases o with
  |none=>
   simp only at ho
   subst ho
   have hi0:i=0:=by simpa using hBl.symm
   subst hi0
   simp -implicitDefEqProofs[ae,g0,g3,g4,aI,hr1,cB,cQ,cH,hbn,bq,b1,b2,f1,f2,f3]
   intro _
   refine nxt _ ?_ (H1.n+1) ⟨by simp,?_,?_,?_⟩ (by omega) ?_ ?_ (by simp) (by simp) (by simp)
   ·exact((hE2 _).bA _).bA _
   ·simp[lM]
   ·omega
   ·simp
   ·simp;omega
   ·simp[f1,f2]
  |some bo=>
   simp only at ho
   obtain⟨ho1,ho2,ho3⟩:=ho
   have hbo:¬bo=h.n:=fun q=>hob (by rw[q])
   have o1:¬bo=H1.n:=by omega
   have o2:¬h.n=bo:=fun q=>hbo q.symm
   have o3:¬b=bo:=by omega
   obtain⟨F,hF⟩:∃F,F=bs.flatMap lM:=⟨_,rfl⟩
   have hFl:F.length=i:=by have:=dA 1 (enc:=lM) (fun _=>rfl) bs;rw[←hF]at this;omega
   rw[←hF]at ho1
   have e8:F.take i=F:=List.take_of_length_le (by omega)
   have hmx:(i+1)*8≤140737488355328:=by omega
   rw[hBl]at g3
   simp -implicitDefEqProofs[ae,g0,g3,g4,aI,hr1,cB,cQ,cH,hbn,bq,b1,b2,f1,f2,f3,hbo,o1,o2,o3,ho1,hFl,e8,hmx]
   intro _
   refine nxt _ ?_ (H1.n+1) ⟨by simp[hBl],?_,?_,?_⟩ (by omega) ?_ ?_ (by simp) (by simp) (by simp)
   ·exact((((hE2 _).bA _).cq ho2 _).bA _)
   ·simp[lM,hF]
   ·omega
   ·simp
   ·simp;omega
   ·simp[f1,f2,o2]
end Go.Proofs.Ybk.F
namespace Go.Proofs.Ybk.F
open Go Go.Am
set_option maxHeartbeats 4000000
def aq6:List FR→Int
 |[]=>0
 |f::_=>f.code
def sT (f:FR):Bool:= !decide (f.line=0) || !decide (f.aj=0)
def kU:List FR→Int×Int
 |[]=>(0,0)
 |f::r=>if sT f then(f.line,f.aj)else kU r
def uF (h H:aa) (sv:Value) (l:List FR) (m:Nat) (σ:St):Prop:=∃i:Nat,m=l.length-i∧i≤l.length∧σ.m.h=H∧kU l=kU (l.drop i)∧σ.t.get 2=some (.pointer (some ⟨2,0,some 0⟩))∧σ.t.get 6=some sv∧σ.t.get 7=some (.int .i64 (l.length:Nat))∧σ.t.get 8=some (.int .i64 (i:Nat))∧σ.m.x.look 2=some (36,[.int .i64 0,.int .i64 0])
theorem lP (E:Value) (l:List FR) (hl:l.length≤1000) (h:aa) (G:bQ h) (H:dp h h.n E l):ai PP 149 [E] h (fun v h'=>Ext h h'∧v= .agg ⟨[.int .i64 (kU l).1,.int .i64 (kU l).2]⟩):=by
 refine az mix abh Vp rfl (by show 1≤24;decide) aiw ?_
 simp only[vz,Tryz.f149]
 have hEi:bL E=true:=by rcases H.shape with⟨rfl,_⟩|⟨b,f,E',r,rfl,_⟩<;>rfl
 have hcall:=uP E l hl h G H
 have hE2:=hEi
 simp only[bL,fO,Option.isNone_iff_eq_none]at hE2
 simp -implicitDefEqProofs[hE2]
 refine hcall.mono ?_
 rintro v h' ⟨X,bs,o,hB,hO⟩
 obtain⟨rfl,ho⟩:=id hO
 have hbl:=hB.1
 obtain⟨n,hn⟩:∃n,n=l.length:=⟨_,rfl⟩
 rw[←hn]at hbl hl
 rw[hbl]
 simp -implicitDefEqProofs[ae]
 intro _
 refine bD (uF h h' (.slice (o.map fun b=>⟨b,0,none⟩) n n) l) n ⟨0,by omega,by omega,rfl,rfl,by simp,by simp,by simp[hn],by simp,by simp⟩ ?_
 rintro m ⟨T,⟨x,H1⟩⟩ ⟨i,rfl,hi,rfl,hsp,g2,g6,g7,g8,x2⟩
 simp at g2 g6 g7 g8 x2
 rw[←hn]at g7 hi
 simp -implicitDefEqProofs[g2,g6,g7,g8,x2]
 refine bB (fun hc=>?_) (fun hc=>?_)<;>simp only[decide_eq_true_eq,decide_eq_false_iff_not]at hc
 ·have hin:i<n:=by omega
  obtain⟨bo,rfl⟩:∃bo,o=some bo:=by
   cases o with
   |none=>simp only at ho;rw[ho]at hbl;simp at hbl;omega
   |some b=>exact⟨b,rfl⟩
  simp only at ho
  obtain⟨ho1,ho2,ho3⟩:=ho
  have hbi:bs[i]? =some bs[i]:=List.getElem?_eq_getElem (by omega)
  have hli:l[i]? =some l[i]:=List.getElem?_eq_getElem (by omega)
  obtain⟨hbn,E',hrow⟩:=hB.2 i _ _ hbi hli
  obtain⟨b,hb⟩:∃b,b=bs[i]:=⟨_,rfl⟩
  obtain⟨f,hf⟩:∃f,f=l[i]:=⟨_,rfl⟩
  rw[←hb]at hbn hrow hbi
  rw[←hf]at hrow hli
  have hrow':H1.f b= .row true 223 [.int .i64 f.code,.int .i64 f.line,.int .i64 f.aj,E']:=by rw[X.f b hbn];exact hrow
  obtain⟨F,hF⟩:∃F,F=bs.flatMap lM:=⟨_,rfl⟩
  have hFl:F.length=n:=by have:=dA 1 (enc:=lM) (fun _=>rfl) bs;rw[←hF]at this;omega
  have hFd:(F.drop i).take 1=[.pointer (some ⟨b,0,none⟩)]:=by
   have h1:=mR 1 (enc:=lM) (fun _=>rfl) bs i
   rw[Nat.mul_one]at h1
   rw[hF,h1,List.drop_eq_getElem_cons (by omega),←hb];rfl
  rw[←hF]at ho1
  have eJ:i+1≤n:=by omega
  have w1:IntKind.wrap .i64 ((i:Int)+1)=((i+1:Nat):Int):=by rw[aA (by omega)];omega
  have hdl:l.drop i=f::l.drop (i+1):=by rw[List.drop_eq_getElem_cons (by omega),←hf]
  simp -implicitDefEqProofs[g2,g6,g7,g8,x2,hin,ho1,hFl,hFd,eJ,hrow']
  cases hs:sT f with
  |true=>
   have hsv:kU l=(f.line,f.aj):=by rw[hsp,hdl];simp[kU,hs]
   have hs':(!decide (f.line=0) || !decide (f.aj=0))=true:=hs
   rw[hs']
   simp -implicitDefEqProofs[g2,g6,g7,g8,x2,hrow',hsv]
   exact X
  |false=>
   have hs':(!decide (f.line=0) || !decide (f.aj=0))=false:=hs
   rw[hs']
   simp -implicitDefEqProofs[g2,g6,g7,g8,x2,w1]
   exact⟨l.length-(i+1),by omega,i+1,rfl,by omega,rfl,by rw[hsp,hdl];simp[kU,hs],by simp,by simp,by simp[hn],by simp,by simp⟩
 ·have hie:i=n:=by omega
  have hs0:kU l=(0,0):=by rw[hsp,hie,hn,List.drop_length];rfl
  simp -implicitDefEqProofs[g2,g6,g7,g8,x2,hs0]
  exact X
def ZC:List UInt8:=[48,49,50,51,52,53,54,55,56,57]
theorem F7 (r:Nat) (hr:r<10):(ZC.take (r+1)).drop r=[UInt8.ofNat (48+r)]:=by
 have:r=0∨r=1∨r=2∨r=3∨r=4∨r=5∨r=6∨r=7∨r=8∨r=9:=by omega
 rcases this with rfl|rfl|rfl|rfl|rfl|rfl|rfl|rfl|rfl|rfl<;>rfl
theorem F6 {u:Nat} (h:u<10):Lib.decDigits u=[UInt8.ofNat (48+u)]:=by rw[Lib.decDigits,dif_pos h]
theorem F0 {u:Nat} (h:¬u<10):Lib.decDigits u=Lib.decDigits (u / 10)++[UInt8.ofNat (48+u % 10)]:=by rw[Lib.decDigits,dif_neg h]
theorem ZA:∀(k u:Nat),1≤k→u<10 ^ k→(Lib.decDigits u).length≤k:=by
 intro k
 induction k with
 |zero=>intro u h;omega
 |succ k ih=>
  intro u _ hu
  by_cases h:u<10
  ·rw[F6 h];simp
  ·rw[F0 h,List.length_append]
   have hk:1≤k:=by
    rcases Nat.eq_zero_or_pos k with z|z
    ·subst z;simp at hu;omega
    ·exact z
   have:=ih (u / 10) hk (by rw[Nat.pow_succ]at hu;omega)
   simp;omega
theorem pQ {u:Nat} (h:u≤18446744073709551615):(Lib.decDigits u).length≤20:=ZA 20 u (by omega) (by omega)
def uG (n0:Nat) (h:aa) (n:Nat) (σ:St):Prop:=∃s:List UInt8,n≤18446744073709551615∧σ.m.h=h∧Lib.decDigits n0=Lib.decDigits n++s∧σ.t.get 0=some (.int .u64 (n:Nat))∧σ.t.get 3=some (.string (B s))
theorem F8 (n:Nat) (hn:n≤18446744073709551615) (h:aa):ai PP 131 [.int .u64 (n:Nat)] h (fun v h'=>h'=h∧v= .string (B (Lib.decDigits n))):=by
 refine az mix abd Vl rfl (by show 1≤22;decide) ais ?_
 simp only[vv,Tryz.f131]
 simp -implicitDefEqProofs
 refine bD (uG n h) n ⟨[],hn,rfl,by simp,by simp,by simp⟩ ?_
 rintro m ⟨T,⟨x,H⟩⟩ ⟨s,hm,rfl,hd,g0,g3⟩
 simp at g0 g3
 simp -implicitDefEqProofs[g0,g3]
 refine bB (fun hc=>?_) (fun hc=>?_)<;>simp only[decide_eq_true_eq,decide_eq_false_iff_not]at hc
 ·have hm9:¬m<10:=by omega
  obtain⟨r,hr⟩:∃r,r=m % 10:=⟨_,rfl⟩
  obtain⟨r1,hr1⟩:∃r1,r1=r+1:=⟨_,rfl⟩
  obtain⟨q,hq⟩:∃q,q=m / 10:=⟨_,rfl⟩
  have hr10:r<10:=by omega
  have e1:(m:Int).tmod 10=(r:Int):=by rw[Int.tmod_eq_emod_of_nonneg (by omega)];omega
  have e2:(m:Int).tdiv 10=(q:Int):=by rw[Int.tdiv_eq_ediv_of_nonneg (by omega)];omega
  have w0:IntKind.wrap .u64 (r:Int)=(r:Int):=gp (by omega)
  have w1:IntKind.wrap .u64 ((r:Int)+1)=(r1:Int):=by rw[gp (by omega)];omega
  have w2:IntKind.wrap .u64 (q:Int)=(q:Int):=gp (by omega)
  obtain⟨ch,hch⟩:∃ch,ch=UInt8.ofNat (48+r):=⟨_,rfl⟩
  have d1:(([48,49,50,51,52,53,54,55,56,57]:List UInt8).take r1).drop r=[ch]:=by rw[hr1,hch];exact F7 r hr10
  have hsl:1+s.length≤9223372036854775807:=by have:=congrArg List.length hd;have h2:=pQ hn;rw[List.length_append]at this;omega
  have b1:r1≤10:=by omega
  have b2:r≤r1:=by omega
  simp -implicitDefEqProofs[g0,g3,e1,e2,w0,w1,w2,d1,b1,b2,hsl]
  refine⟨q,by omega,ch::s,by omega,rfl,?_,by simp,by simp⟩
  rw[hd,F0 hm9,←hq,←hr,←hch,List.append_assoc];rfl
 ·have hm10:m<10:=by omega
  obtain⟨r1,hr1⟩:∃r1,r1=m+1:=⟨_,rfl⟩
  have w1:IntKind.wrap .u64 ((m:Int)+1)=(r1:Int):=by rw[gp (by omega)];omega
  obtain⟨ch,hch⟩:∃ch,ch=UInt8.ofNat (48+m):=⟨_,rfl⟩
  have d1:(([48,49,50,51,52,53,54,55,56,57]:List UInt8).take r1).drop m=[ch]:=by rw[hr1,hch];exact F7 m hm10
  have hsl:1+s.length≤9223372036854775807:=by have:=congrArg List.length hd;have h2:=pQ hn;rw[List.length_append]at this;omega
  have b1:r1≤10:=by omega
  have b2:m≤r1:=by omega
  have hres:Lib.decDigits n=ch::s:=by rw[hd,F6 hm10,hch];rfl
  simp -implicitDefEqProofs[g0,g3,w1,d1,b1,b2,hres,hsl]
theorem lh (n:Int) (hn: -9223372036854775808≤n∧n≤9223372036854775807) (h:aa):ai PP 89 [.int .i64 n] h (fun v h'=>h'=h∧v= .string (B (Lib.itoa n))):=by
 refine az mix adH XM rfl (by show 1≤15;decide) akF ?_
 simp only[yy,Tryz.f89]
 by_cases h1:n<0
 ·obtain⟨u,hu⟩:∃u:Nat,u=n.natAbs:=⟨_,rfl⟩
  have w1:IntKind.wrap .i64 (n+1)=n+1:=aA (by omega)
  have w2:IntKind.wrap .i64 (-(n+1))= -(n+1):=aA (by omega)
  have w2':IntKind.wrap .i64 (-1 + -n)= -1 + -n:=aA (by omega)
  have w3:IntKind.wrap .u64 (-(n+1))= -(n+1):=gp (by omega)
  have w3':IntKind.wrap .u64 (-1 + -n)= -1 + -n:=gp (by omega)
  have w4:IntKind.wrap .u64 (-(n+1)+1)=(u:Int):=by rw[gp (by omega)];omega
  have w4':IntKind.wrap .u64 (-1 + -n+1)=(u:Int):=by rw[gp (by omega)];omega
  have hres:Lib.itoa n=45::Lib.decDigits u:=by unfold Lib.itoa;rw[if_pos h1,hu]
  simp -implicitDefEqProofs[h1,w1,w2,w2',w3,w3',w4,w4']
  have hlen:1+(Lib.decDigits u).length≤9223372036854775807:=by have:=pQ (u:=u) (by omega);omega
  refine(F8 u (by omega) h).mono ?_
  rintro v h' ⟨rfl,rfl⟩
  simp -implicitDefEqProofs[ae,hres,hlen]
 ·obtain⟨u,hu⟩:∃u:Nat,n=u:=⟨n.toNat,by omega⟩
  have w3:IntKind.wrap .u64 n=(u:Int):=by rw[hu,gp (by omega)]
  have hres:Lib.itoa n=Lib.decDigits u:=by unfold Lib.itoa;rw[if_neg h1];congr 1;omega
  simp -implicitDefEqProofs[h1,w3]
  refine(F8 u (by omega) h).mono ?_
  rintro v h' ⟨rfl,rfl⟩
  simp -implicitDefEqProofs[ae,hres]
end Go.Proofs.Ybk.F
namespace Go.Proofs.Ybk
open Go Go.Am
set_option maxHeartbeats 2000000
open T (a8 cg dv cE)
open V (aq aP ah al aQ ab aB)
open F (FR dp bQ)
def kl:List UInt8:=[115,101,97,116]
def jK:List UInt8:=[119,104,101,101,108]
def jJ:List UInt8:=[99,111,109,112,97,110,105,111,110]
def fH:List UInt8:=[103,97,112]
def gG:List UInt8:=[114,97,100,105,117,115]
def fI:List UInt8:=[107,105,108,108]
def gU:List UInt8:=[112,111,108,101]
def gy (w:List UInt8):Option (List Nat):=
 if w=kl∨w=jK∨w=jJ then some [257,225,225]else if w=fH then some [173]else if w=gG then some [256]else if w=fI then some [257,225]else if w=gU then some [225,225,173]else none
def kF (f:Nat) (n:Int):Bool:=if f=257 then aB n 0 999 else if f=225 then aB n (-1048576) 1048576 else if f=173 then aB n 1 1048576 else decide (n=0) || aB n 1 1048576
def pV (f:Nat):List Value:=[.func (.func f) #[] #[]]
def jv (ln aj:Int):List FR:=[⟨2,0,0⟩,⟨2,F.kI ln,F.kI aj⟩]
def r9 (h:aa) (l:List FR) (v:Value) (h':aa):Prop:=Ext h h'∧dp h' h'.n v l
theorem jM (ln aj:Int) (h:aa):ai PP 119 [cE ln aj] h (r9 h (jv ln aj)):=by
 refine az mix aa5 Vd rfl (by show 1≤9;decide) aik ?_
 simp only[vm,Tryz.f119]
 simp -implicitDefEqProofs[cE]
 refine(F.ry 2 ln aj h).mono ?_
 rintro v H1 ⟨E1,C1⟩
 rw[if_neg (by decide)]at C1
 rcases C1.shape with⟨_,q⟩|⟨b,f,E',r,rfl,q,k1,k2,k3⟩
 ·cases q
 simp -implicitDefEqProofs[ae]
 intro _
 refine(F.aqN _ _ 2 H1 C1).mono ?_
 rintro v H2 ⟨E2,C2⟩
 rw[if_neg (by decide)]at C2
 rcases C2.shape with⟨_,q⟩|⟨b,f,E',r,rfl,q,k1,k2,k3⟩
 ·cases q
 simp -implicitDefEqProofs[ae]
 intro _
 exact⟨E1.trans E2,C2⟩
theorem lP (t:a8) (h:aa):ai PP 159 [dv t] h (fun v h'=>h'=h∧v=cE t.line t.aj):=by
 refine az mix abr Vz rfl (by show 1≤8;decide) aiG ?_
 simp only[vJ,Tryz.f159]
 simp -implicitDefEqProofs[dv,cg,cE]
theorem aaF (b:Nat) (f:FR) (E:Value) (h:aa) (hb:h.f b= .row true 223 [.int .i64 f.code,.int .i64 f.line,.int .i64 f.aj,E]):ai PP 148 [.pointer (some ⟨b,0,none⟩)] h (fun v h'=>h'=h∧v= .int .i64 f.code):=by
 refine az mix abg Vo rfl (by show 1≤7;decide) aiv ?_
 simp only[vy,Tryz.f148]
 simp -implicitDefEqProofs[hb]
def ou (w:List UInt8):Int:=if w=jK then 1 else if w=jJ then 2 else 0
theorem kD (w:List UInt8) (h:aa):ai PP 217 [.string (B w)] h (fun v h'=>h'=h∧v= .int .i64 (ou w)):=by
 refine az mix ab6 Wj rfl (by show 1≤8;decide) ajk ?_
 simp only[wP,Tryz.f217]
 unfold ou jK jJ
 by_cases h1:w=[119,104,101,101,108]
 ·simp -implicitDefEqProofs[h1]
 ·by_cases h2:w=[99,111,109,112,97,110,105,111,110]
  ·simp -implicitDefEqProofs[h2]
  ·simp -implicitDefEqProofs[h1,h2]
theorem amt (n:Int) (h:aa):ai PP 256 [.int .i64 n] h (fun v h'=>h'=h∧v= .bool (kF 256 n)):=by
 refine az mix acu WH rfl (by show 1≤9;decide) ajF ?_
 simp only[xi,Tryz.f256]
 by_cases h1:n=0
 ·simp -implicitDefEqProofs[h1,kF]
 ·simp -implicitDefEqProofs[h1,kF]
  refine(V.tP n h).mono ?_
  rintro r h' ⟨rfl,rfl⟩
  simp -implicitDefEqProofs[ae]
theorem j7 (f:Nat) (hf:f=256∨f=173∨f=257∨f=225) (n:Int) (h:aa):ai PP f [.int .i64 n] h (fun v h'=>h'=h∧v= .bool (kF f n)):=by
 rcases hf with rfl|rfl|rfl|rfl
 ·exact amt n h
 ·exact V.tP n h
 ·exact V.PR n h
 ·exact V.nW n h
def AP (h:aa) (w:List UInt8) (v:Value) (h':aa):Prop:=Ext h h'∧match gy w with
 |some bs=>∃b,v= .tuple #[.slice (some ⟨b,0,none⟩) bs.length bs.length,.bool true]∧h'.f b= .row true 247 (bs.flatMap pV)∧b<h'.n
 |none=>v= .tuple #[.slice none 0 0,.bool false]
theorem XO (w:List UInt8) (h:aa):ai PP 216 [.string (B w)] h (AP h w):=by
 refine az mix ab5 Wi rfl (by show 1≤24;decide) ajj ?_
 simp only[wO,Tryz.f216]
 have hr3:List.range 3=[0,1,2]:=rfl
 have hr2:List.range 2=[0,1]:=rfl
 have hr1:List.range 1=[0]:=rfl
 have out:∀(bs:List Nat),gy w=some bs→AP h w (.tuple #[.slice (some ⟨h.n,0,none⟩) bs.length bs.length,.bool true]) (h.new (.row true 247 (bs.flatMap pV))):=fun bs e=>by
  refine⟨Ext.new h _,?_⟩
  rw[e]
  exact⟨h.n,rfl,by simp,by simp⟩
 by_cases h1:w=[115,101,97,116]
 ·subst h1
  simp -implicitDefEqProofs[aI,hr3]
  exact out [257,225,225] (by decide)
 by_cases h2:w=[119,104,101,101,108]
 ·subst h2
  simp -implicitDefEqProofs[aI,hr3]
  exact out [257,225,225] (by decide)
 by_cases h3:w=[99,111,109,112,97,110,105,111,110]
 ·subst h3
  simp -implicitDefEqProofs[aI,hr3]
  exact out [257,225,225] (by decide)
 by_cases h4:w=[103,97,112]
 ·subst h4
  simp -implicitDefEqProofs[aI,hr1]
  exact out [173] (by decide)
 by_cases h5:w=[114,97,100,105,117,115]
 ·subst h5
  simp -implicitDefEqProofs[aI,hr1]
  exact out [256] (by decide)
 by_cases h6:w=[107,105,108,108]
 ·subst h6
  simp -implicitDefEqProofs[aI,hr2]
  exact out [257,225] (by decide)
 by_cases h7:w=[112,111,108,101]
 ·subst h7
  simp -implicitDefEqProofs[aI,hr3]
  exact out [225,225,173] (by decide)
 ·simp -implicitDefEqProofs[h1,h2,h3,h4,h5,h6,h7]
  refine⟨Ext.bu h,?_⟩
  have e:gy w=none:=by simp only[gy,kl,jK,jJ,fH,gG,fI,gU,h1,h2,h3,h4,h5,h6,h7,or_self,if_false]
  rw[e]
end Go.Proofs.Ybk
namespace Go.Proofs.Ybk
open Go Go.Am
set_option maxHeartbeats 4000000
open T (a8 cg dv cE dV)
open V (aq aP ah al aQ ab aB)
open F (FR dp bQ)
def iy (bl bc:Int):List Nat→List a8→Option (Int×Int)
 |[],_=>none
 |_::_,[]=>some (bl,bc)
 |_::bs,t::r=>if t.kind=2 then iy bl bc bs r else some (t.line,t.aj)
def jz:List Nat→List a8→Option (Int×Int)
 |b::bs,t::r=>if kF b t.n then jz bs r else some (t.line,t.aj)
 |_,_=>none
def nd (bs:List Nat) (rest:List a8) (bl bc:Int):Option (Int×Int):=match iy bl bc bs rest with
 |some e=>some e
 |none=>match rest.drop bs.length with
  |t::_=>some (t.line,t.aj)
  |[]=>jz bs rest
def jj (t:a8):Option (List Nat):=if t.kind=1 then gy t.text else none
def fc (ts:List a8) (bl bc:Int):Option (Int×Int):=match ts with
 |[]=>none
 |t0::rest=>match jj t0 with
  |none=>some (t0.line,t0.aj)
  |some bs=>nd bs rest bl bc
theorem nC {cells rest:List Value} {p:Nat} {t:a8} (h:cells.drop p=cg t++rest):cells.drop p= .int .i64 t.kind:: .int .i64 t.n:: .int .i64 t.line:: .int .i64 t.aj:: .string (B t.text)::rest∧
  cells.drop (p+1)= .int .i64 t.n:: .int .i64 t.line:: .int .i64 t.aj:: .string (B t.text)::rest∧cells.drop (p+4)= .string (B t.text)::rest:=by
 refine⟨h,?_,?_⟩
 ·rw[←List.drop_drop,h];rfl
 ·rw[←List.drop_drop,h];rfl
theorem Bs {w:List UInt8} {bs:List Nat} (h:gy w=some bs):bs.length≤3∧1≤bs.length∧∀b∈bs,b=256∨b=173∨b=257∨b=225:=by
 unfold gy at h
 repeat' split at h
 all_goals first
  |(simp only[Option.some.injEq]at h;subst h;decide)
  |cases h
theorem iv {h h':aa} {a b:Int} {E:Value} (H:r9 h (jv a b) E h'):∃b,E= .iface 207 (.pointer (some ⟨b,0,none⟩)):=by
 rcases H.2.shape with⟨_,q⟩|⟨b,f,E',r,rfl,q,_⟩
 ·cases q
 ·exact⟨b,rfl⟩
def A5 (h:aa) (ts:List a8) (bl bc:Int) (v:Value) (h':aa):Prop:=Ext h h'∧match fc ts bl bc with
 |some e=>∃E,v= .tuple #[.slice none 0 0,E]∧dp h' h'.n E (jv e.1 e.2)
 |none=>∃s,v= .tuple #[s,.nilIface]∧bS 3 ab h h' s (ts.tail.map (·.n))
def AT (h:aa) (sv:Value) (bb:Nat) (bs:List Nat) (rest:List a8) (bl bc:Int) (m:Nat) (σ:St):Prop:=∃(k:Nat) (o:Option Nat) (v:Value),m=bs.length-k∧k≤bs.length∧k≤rest.length∧Ext h σ.m.h∧F.bz 3 ab h σ.m.h o ((rest.take k).map (·.n)) v∧
 iy bl bc bs rest=iy bl bc (bs.drop k) (rest.drop k)∧σ.t.get 0=some sv∧σ.t.get 3=some (.pointer (some ⟨3,0,some 0⟩))∧σ.t.get 6=some (.slice (some ⟨bb,0,none⟩) bs.length bs.length)∧σ.t.get 8=some v∧
 σ.t.get 35=some (.int .i64 (bs.length:Nat))∧σ.t.get 36=some (.int .i64 (k:Nat))∧σ.m.x.look 3=some (36,[.int .i64 bl,.int .i64 bc])
def SS (H:aa) (sv ov bv:Value) (bs:List Nat) (rest:List a8) (n m:Nat) (σ:St):Prop:=∃j:Nat,m=n-j∧j≤n∧σ.m.h=H∧jz bs rest=jz (bs.drop j) (rest.drop j)∧
 σ.t.get 0=some sv∧σ.t.get 8=some ov∧σ.t.get 86=some bv∧σ.t.get 87=some (.int .i64 (n:Nat))∧σ.t.get 88=some (.int .i64 (j:Nat))
theorem agI (sv:Value) (t0:a8) (rest:List a8) (bl bc:Int) (hl:rest.length≤1073741824) (h:aa) (hs:dV h sv (t0::rest)):ai PP 160 [sv,cE bl bc] h (A5 h (t0::rest) bl bc):=by
 refine az mix abu VB rfl (by show 2≤109;decide) aiI ?_
 simp only[vL,Tryz.f160]
 obtain⟨ad,c,rfl,_⟩:=id hs
 obtain⟨_,b,off,w,cells,r0,rfl,e2,e3,e4,e5⟩:=hs.at (i:=0) (t:=t0) rfl
 simp only[Nat.zero_mul,Nat.add_zero]at e3 e4
 obtain⟨d0,d1,d4⟩:=nC e3
 have hl0:off+1≤cells.length:=by omega
 have hl4:off+4+1≤cells.length:=by omega
 have hl5:off+5≤cells.length:=by omega
 simp -implicitDefEqProofs[e2,d0,d4,hl0,hl4,cE]
 refine(XO t0.text h).mono ?_
 rintro v H1 ⟨E1,hB⟩
 have e2':H1.f b= .row w 193 cells:=by rw[E1.f b e5,e2]
 have d5:(cells.drop off).take 5=cg t0:=by rw[d0];rfl
 have sp0:=lP t0 H1
 simp only[dv,cg]at sp0
 have fin:jj t0=none→∀E H2,r9 H1 (jv t0.line t0.aj) E H2→A5 h (t0::rest) bl bc (.tuple #[.slice none 0 0,E]) H2:=fun hw E H2 ⟨q1,q2⟩=>by
  refine⟨E1.trans q1,?_⟩
  have hle:fc (t0::rest) bl bc=some (t0.line,t0.aj):=by simp only[fc,hw]
  rw[hle]
  exact⟨E,rfl,q2⟩
 cases hbn:gy t0.text with
 |none=>
  have hw:jj t0=none:=by unfold jj;rw[hbn];split<;>rfl
  rw[hbn]at hB
  subst hB
  by_cases hk:t0.kind=1
  all_goals
   try rw[hk]at sp0
   simp -implicitDefEqProofs[ae,e2',d0,hl0,hl5,hk]
   intro _
   refine sp0.mono ?_
   rintro r H2 ⟨e,rfl⟩
   replace e:=e.symm
   subst e
   simp -implicitDefEqProofs[ae]
   intro _
   refine(jM t0.line t0.aj H1).mono ?_
   intro E H2 hE
   obtain⟨be,rfl⟩:=iv hE
   simp -implicitDefEqProofs[ae]
   intro _
   exact fin hw _ H2 hE
 |some bs=>
  rw[hbn]at hB
  obtain⟨bb,rfl,hbb,hbl⟩:=hB
  by_cases hk:t0.kind=1
  rotate_left
  ·have hw:jj t0=none:=by unfold jj;rw[if_neg hk]
   simp -implicitDefEqProofs[ae,e2',d0,hl0,hl5,hk]
   intro _
   refine sp0.mono ?_
   rintro r H2 ⟨e,rfl⟩
   replace e:=e.symm
   subst e
   simp -implicitDefEqProofs[ae]
   intro _
   refine(jM t0.line t0.aj H1).mono ?_
   intro E H2 hE
   obtain⟨be,rfl⟩:=iv hE
   simp -implicitDefEqProofs[ae]
   intro _
   exact fin hw _ H2 hE
  ·have hw:jj t0=some bs:=by unfold jj;rw[if_pos hk];exact hbn
   simp -implicitDefEqProofs[ae,e2',d0,hl0,hl5,hk]
   intro _
   obtain⟨hb3,bq,hbf⟩:=Bs hbn
   obtain⟨nb,hnb⟩:∃nb,nb=bs.length:=⟨_,rfl⟩
   rw[←hnb]at hb3 bq
   refine bD (AT H1 (.slice (some ⟨b,off,none⟩) (rest.length+1) c) bb bs rest bl bc) nb ⟨0,none,.slice none 0 0,by omega,by omega,by omega,Ext.bu H1,F.bz.nil,rfl,by simp,by simp,by simp[hnb],by simp,by simp[hnb],by simp,by simp⟩ ?_
   rintro m ⟨T,⟨x,H⟩⟩ ⟨k,o,v,rfl,hk1,hk2,E2,hO,hch,g0,g3,g6,g8,g35,g36,x3⟩
   simp at E2 g0 g3 g6 g8 g35 g36 x3
   rw[←hnb]at hk1 g6 g35
   obtain⟨rfl,ho⟩:=id hO
   have hol:((rest.take k).map (·.n)).length=k:=by rw[List.length_map,List.length_take];omega
   rw[hol]at g8 hO
   have bC:H.f bb= .row true 247 (bs.flatMap pV):=by rw[E2.f bb hbl];exact hbb
   have hsH:=(hs.ext E1).ext E2
   simp -implicitDefEqProofs[g0,g3,g6,g8,g35,g36,x3]
   refine bB (fun hc=>?_) (fun hc=>?_)<;>simp only[decide_eq_true_eq,decide_eq_false_iff_not]at hc
   ·have w1:IntKind.wrap .i64 ((k:Int)+1)=((k+1:Nat):Int):=by rw[aA (by omega)];omega
    have hkb:k<bs.length:=by omega
    obtain⟨bx,br,hbd⟩:∃x r,bs.drop k=x::r:=⟨_,_,List.drop_eq_getElem_cons hkb⟩
    by_cases hend:rest.length≤k
    ·have hke:k=rest.length:=by omega
     have hle:fc (t0::rest) bl bc=some (bl,bc):=by
      simp only[fc,hw,nd,hch]
      rw[hbd,hke,List.drop_length]
      rfl
     simp -implicitDefEqProofs[g0,g3,g6,g8,g35,g36,x3,w1,hend]
     refine(jM bl bc H).mono ?_
     intro E H2 hE
     obtain⟨be,rfl⟩:=iv hE
     simp -implicitDefEqProofs[ae]
     intro _
     refine⟨(E1.trans E2).trans hE.1,?_⟩
     rw[hle]
     exact⟨_,rfl,hE.2⟩
    ·have hkr:k<rest.length:=by omega
     obtain⟨t,ht⟩:∃t,t=rest[k]:=⟨_,rfl⟩
     have hget:(t0::rest)[k+1]? =some t:=by rw[List.getElem?_cons_succ,ht];exact List.getElem?_eq_getElem hkr
     have hrd:rest.drop k=t::rest.drop (k+1):=by rw[ht];exact List.drop_eq_getElem_cons hkr
     obtain⟨_,b',off',w',cells',r',q1,q2,q3,q4,q5⟩:=hsH.at hget
     simp only[Option.some.injEq,Addr.mk.injEq,and_true]at q1
     obtain⟨rfl,rfl⟩:=q1
     obtain⟨p0,p1,p4⟩:=nC q3
     have p5:(cells'.drop (off+(k+1)*5)).take 5=cg t:=by rw[q3];rfl
     have k0:(0:Int)≤(k:Int)+1:=by omega
     have n0:off+(k+1)*5+1≤cells'.length:=by omega
     have n1:off+(k+1)*5+1+1≤cells'.length:=by omega
     have n5:off+(k+1)*5+5≤cells'.length:=by omega
     by_cases ht2:t.kind=2
     ·have hch2:iy bl bc bs rest=iy bl bc (bs.drop (k+1)) (rest.drop (k+1)):=by
       have hb1':bs.drop (k+1)=br:=by rw[←List.drop_drop,hbd];rfl
       rw[hch,hbd,hrd,iy,if_pos ht2,hb1']
      have htk:(rest.take (k+1)).map (·.n)=(rest.take k).map (·.n)++[t.n]:=by
       rw[List.take_add_one,List.getElem?_eq_getElem hkr,←ht];simp
      have hr1:List.range 1=[0]:=rfl
      have nxt:∀σ2:St,Ext H1 σ2.m.h→∀o',F.bz 3 ab H1 σ2.m.h (some o') ((rest.take (k+1)).map (·.n)) (.slice (some ⟨o',0,none⟩) (k+1) (k+1))→σ2.t.get 0=some (.slice (some ⟨b,off,none⟩) (rest.length+1) c)→
        σ2.t.get 3=some (.pointer (some ⟨3,0,some 0⟩))→σ2.t.get 6=some (.slice (some ⟨bb,0,none⟩) nb nb)→σ2.t.get 8=some (.slice (some ⟨o',0,none⟩) (k+1) (k+1))→σ2.t.get 35=some (.int .i64 (nb:Nat))→σ2.t.get 36=some (.int .i64 ((k+1:Nat):Int))→σ2.m.x.look 3=some (36,[.int .i64 bl,.int .i64 bc])→
        ∃j,j<bs.length-k∧AT H1 (.slice (some ⟨b,off,none⟩) (rest.length+1) c) bb bs rest bl bc j σ2:=by
       intro σ2 x1 o' x2 y0 y3 y6 y8 y35 y36 yx
       exact⟨bs.length-(k+1),by omega,k+1,some o',_,rfl,by omega,by omega,x1,x2,hch2,y0,y3,by rw[y6,hnb],y8,by rw[y35,hnb],y36,yx⟩
      cases o with
      |none=>
       simp only at ho
       have hk0:k=0:=by have:=congrArg List.length ho;rw[hol]at this;exact this
       subst hk0
       have hre:rest≠[]:=by intro q;rw[q]at hkr;simp at hkr
       have hw1:IntKind.wrap .i64 1=1:=rfl
       have hr1':¬((rest.length:Int)+1≤1):=by omega
       have hr2':0<rest.length:=hkr
       have hr3':(1:Int)<(rest.length:Int)+1:=by omega
       simp only[Nat.zero_add,Nat.one_mul,Nat.add_zero]at q3 p0 p1 n0 n1 n5
       simp -implicitDefEqProofs[hre,hw1,hr1',hr2',hr3',g0,g3,g6,g8,g35,g36,x3,w1,hend,hkr,k0,q2,p0,p1,n0,n1,ht2,aI,hr1,cB,cQ,cH]
       refine nxt _ ?_ (H.n+1) ⟨by rw[htk];simp,?_,?_,?_⟩ (by simp) (by simp) (by simp) (by simp) (by simp) (by simp) (by simp)
       ·exact(Ext.bA E2 _).bA _
       ·rw[htk];simp[ab]
       ·have:=E2.n;omega
       ·simp
      |some bp=>
       simp only at ho
       obtain⟨hq1,hq2,hq3⟩:=ho
       obtain⟨K,hK⟩:∃K,K=((rest.take k).map (·.n)).flatMap ab:=⟨_,rfl⟩
       have hKl:K.length=k:=by have:=dA 1 (enc:=ab) (fun _=>rfl) ((rest.take k).map (·.n));rw[←hK,hol]at this;omega
       rw[←hK]at hq1
       have e8:K.take k=K:=List.take_of_length_le (by omega)
       have o1:¬bp=H.n:=by omega
       have hmx:(k+1)*8≤140737488355328:=by omega
       simp -implicitDefEqProofs[g0,g3,g6,g8,g35,g36,x3,w1,hend,hkr,k0,q2,p0,p1,n0,n1,ht2,aI,hr1,cB,cQ,cH,hq1,hKl,e8,hmx,o1]
       refine nxt _ ?_ (H.n+1) ⟨by simp;omega,?_,?_,?_⟩ (by simp) (by simp) (by simp) (by simp) (by simp) (by simp) (by simp)
       ·exact((Ext.bA E2 _).cq hq2 _).bA _
       ·rw[htk,List.flatMap_append,←hK];simp[ab]
       ·have:=E2.n;omega
       ·simp
     ·have hle:fc (t0::rest) bl bc=some (t.line,t.aj):=by
       simp only[fc,hw,nd,hch]
       rw[hbd,hrd,iy,if_neg ht2]
      have spt:=lP t H
      simp only[dv,cg]at spt
      simp -implicitDefEqProofs[g0,g3,g6,g8,g35,g36,x3,w1,hend,hkr,k0,q2,p0,p1,n0,n1,n5,ht2]
      refine spt.mono ?_
      rintro r H2 ⟨e,rfl⟩
      replace e:=e.symm
      subst e
      simp -implicitDefEqProofs[ae]
      intro _
      refine(jM t.line t.aj H).mono ?_
      intro E H2 hE
      obtain⟨be,rfl⟩:=iv hE
      simp -implicitDefEqProofs[ae]
      intro _
      refine⟨(E1.trans E2).trans hE.1,?_⟩
      rw[hle]
      exact⟨_,rfl,hE.2⟩
   ·have hkn:k=nb:=by omega
    subst hkn
    have hch0:iy bl bc bs rest=none:=by rw[hch,List.drop_of_length_le (by omega)];rfl
    by_cases hmore:k<rest.length
    ·obtain⟨t,ht⟩:∃t,t=rest[k]:=⟨_,rfl⟩
     have hget:(t0::rest)[k+1]? =some t:=by rw[List.getElem?_cons_succ,ht];exact List.getElem?_eq_getElem hmore
     have hrd:rest.drop k=t::rest.drop (k+1):=by rw[ht];exact List.drop_eq_getElem_cons hmore
     obtain⟨_,b',off',w',cells',r',q1,q2,q3,q4,q5⟩:=hsH.at hget
     simp only[Option.some.injEq,Addr.mk.injEq,and_true]at q1
     obtain⟨rfl,rfl⟩:=q1
     obtain⟨p0,p1,p4⟩:=nC q3
     have w1:IntKind.wrap .i64 ((k:Int)+1)=((k+1:Nat):Int):=by rw[aA (by omega)];omega
     have k0:(0:Int)≤(k:Int)+1:=by omega
     have n5:off+(k+1)*5+5≤cells'.length:=by omega
     have hle:fc (t0::rest) bl bc=some (t.line,t.aj):=by
      simp only[fc,hw,nd,hch0]
      rw[←hnb,hrd]
     have spt:=lP t H
     simp only[dv,cg]at spt
     simp -implicitDefEqProofs[g0,g3,g6,g8,g35,g36,x3,w1,k0,hmore,q2,p0,n5]
     refine spt.mono ?_
     rintro r H2 ⟨e,rfl⟩
     replace e:=e.symm
     subst e
     simp -implicitDefEqProofs[ae]
     intro _
     refine(jM t.line t.aj H).mono ?_
     intro E H2 hE
     obtain⟨be,rfl⟩:=iv hE
     simp -implicitDefEqProofs[ae]
     intro _
     refine⟨(E1.trans E2).trans hE.1,?_⟩
     rw[hle]
     exact⟨_,rfl,hE.2⟩
    ·have hkl:k=rest.length:=by omega
     have w1:IntKind.wrap .i64 ((rest.length:Int)+1)=((rest.length+1:Nat):Int):=by rw[aA (by omega)];omega
     have hle0:fc (t0::rest) bl bc=jz bs rest:=by
      simp only[fc,hw,nd,hch0]
      rw[←hnb,hkl,List.drop_length]
     obtain⟨bo,rfl⟩:∃bo,o=some bo:=by
      cases o with
      |none=>simp only at ho;rw[ho]at hol;simp at hol;omega
      |some b=>exact⟨b,rfl⟩
     simp only at ho
     obtain⟨hq1,hq2,hq3⟩:=ho
     rw[hkl,List.take_length]at hq1 hO
     rw[←hkl]at hO
     simp -implicitDefEqProofs[g0,g3,g6,g8,g35,g36,x3,w1,hkl]
     refine bD (SS H (.slice (some ⟨b,off,none⟩) (rest.length+1) c) (.slice (some ⟨bo,0,none⟩) rest.length rest.length) (.slice (some ⟨bb,0,none⟩) rest.length rest.length) bs rest rest.length) rest.length ⟨0,by omega,by omega,rfl,rfl,by simp,by simp,by simp,by simp,by simp⟩ ?_
     clear g0 g3 g6 g8 g35 g36 x3
     rintro m ⟨T,⟨x,H'⟩⟩ ⟨j,rfl,hj,rfl,hmay,g0,g8,g86,g87,g88⟩
     simp at g0 g8 g86 g87 g88
     simp -implicitDefEqProofs[g0,g8,g86,g87,g88]
     refine bB (fun hc2=>?_) (fun hc2=>?_)<;>simp only[decide_eq_true_eq,decide_eq_false_iff_not]at hc2
     ·have hjr:j<rest.length:=by omega
      have hjb:j<bs.length:=by omega
      obtain⟨t,ht⟩:∃t,t=rest[j]:=⟨_,rfl⟩
      obtain⟨f,hf⟩:∃f,f=bs[j]:=⟨_,rfl⟩
      have hbd:bs.drop j=f::bs.drop (j+1):=by rw[hf];exact List.drop_eq_getElem_cons hjb
      have hrd:rest.drop j=t::rest.drop (j+1):=by rw[ht];exact List.drop_eq_getElem_cons hjr
      have hff:=hbf f (by rw[hf];exact List.getElem_mem hjb)
      obtain⟨F,hF⟩:∃F,F=bs.flatMap pV:=⟨_,rfl⟩
      have hFl:F.length=bs.length:=by have:=dA 1 (enc:=pV) (fun _=>rfl) bs;rw[←hF]at this;omega
      have hFd:(F.drop j).take 1=[.func (.func f) #[] #[]]:=by
       have h1:=mR 1 (enc:=pV) (fun _=>rfl) bs j
       rw[Nat.mul_one]at h1
       rw[hF,h1,hbd];rfl
      rw[←hF]at bC
      obtain⟨K,hK⟩:∃K,K=(rest.map (·.n)).flatMap ab:=⟨_,rfl⟩
      have hKl:K.length=rest.length:=by have:=dA 1 (enc:=ab) (fun _=>rfl) (rest.map (·.n));rw[←hK,List.length_map]at this;omega
      have hKd:(K.drop j).take 1=[.int .i64 t.n]:=by
       have h1:=mR 1 (enc:=ab) (fun _=>rfl) (rest.map (·.n)) j
       rw[Nat.mul_one]at h1
       rw[hK,h1,←List.map_drop,hrd];rfl
      rw[←hK]at hq1
      have bC:H'.f bb= .row true 247 F:=bC
      have hq1:H'.f bo= .row true 3 K:=hq1
      have hsH':dV H' (.slice (some ⟨b,off,none⟩) (rest.length+1) c) (t0::rest):=hsH
      have j1:j+1≤F.length:=by omega
      have j2:j+1≤K.length:=by omega
      simp -implicitDefEqProofs[g0,g8,g86,g87,g88,hjr,bC,hFd,j1,hq1,hKd,j2]
      refine(j7 f hff t.n H').mono ?_
      rintro r H2 ⟨e,rfl⟩
      replace e:=e.symm
      subst e
      cases hmf:kF f t.n with
      |true=>
       have e4:IntKind.wrap .i64 ((j:Int)+1)=((j+1:Nat):Int):=by rw[aA (by omega)];omega
       simp -implicitDefEqProofs[ae,g0,g8,g86,g87,g88,e4]
       intro _
       exact⟨rest.length-(j+1),by omega,j+1,rfl,by omega,rfl,by rw[hmay,hbd,hrd,jz,if_pos hmf],by simp[g0],by simp[g8],by simp[g86],by simp[g87],by simp⟩
      |false=>
       have hget:(t0::rest)[j+1]? =some t:=by rw[List.getElem?_cons_succ,ht];exact List.getElem?_eq_getElem hjr
       obtain⟨_,b',off',w',cells',r',q1,q2,q3,q4,q5⟩:=hsH'.at hget
       simp only[Option.some.injEq,Addr.mk.injEq,and_true]at q1
       obtain⟨rfl,rfl⟩:=q1
       obtain⟨p0,p1,p4⟩:=nC q3
       have wj:IntKind.wrap .i64 ((j:Int)+1)=((j+1:Nat):Int):=by rw[aA (by omega)];omega
       have k0:(0:Int)≤(j:Int)+1:=by omega
       have n5:off+(j+1)*5+5≤cells'.length:=by omega
       have hle:fc (t0::rest) bl bc=some (t.line,t.aj):=by
        rw[hle0,hmay,hbd,hrd,jz,hmf];rfl
       have spt:=lP t H'
       simp only[dv,cg]at spt
       simp -implicitDefEqProofs[ae,g0,g8,g86,g87,g88,wj,k0,hjr,q2,p0,n5]
       intro _
       refine spt.mono ?_
       rintro r H2 ⟨e,rfl⟩
       replace e:=e.symm
       subst e
       simp -implicitDefEqProofs[ae]
       intro _
       refine(jM t.line t.aj H').mono ?_
       intro E H2 hE
       obtain⟨be,rfl⟩:=iv hE
       simp -implicitDefEqProofs[ae]
       intro _
       refine⟨(E1.trans E2).trans hE.1,?_⟩
       rw[hle]
       exact⟨_,rfl,hE.2⟩
     ·have hje:j=rest.length:=by omega
      have hnone:jz bs rest=none:=by rw[hmay,hje,List.drop_length];cases bs.drop rest.length<;>rfl
      simp -implicitDefEqProofs[g0,g8,g86,g87,g88]
      refine⟨E1.trans E2,?_⟩
      rw[hle0,hnone]
      exact⟨_,rfl,_,by rw[List.tail_cons,List.length_map],.inr ⟨bo,rfl,hq1,Nat.le_trans E1.n hq2,hq3⟩⟩
end Go.Proofs.Ybk
namespace Go.Proofs.Ybk
open Go Go.Am
set_option maxHeartbeats 2000000
open T (a8 cg dv cE dV)
open V (aq aP ah al aQ ab aB)
open F (FR dp bQ)
theorem gu:PP=Tryz.prog:=by unfold PP;rfl
def jZ (row x:Int):Value:=.agg ⟨[.int .i64 row,.int .i64 x]⟩
def sN (s:aq) (i:Nat):MapEntry:=⟨jZ s.row s.x,.int .i64 (i:Nat),i⟩
def mO:List aq→Nat→List MapEntry
 |[],_=>[]
 |s::r,i=>sN s i::mO r (i+1)
def lk (l:List aq):List MapEntry:=mO l 0
def kO (row x:Int):List aq→Nat→Option Nat
 |[],_=>none
 |s::r,i=>if s.row=row∧s.x=x then some i else kO row x r (i+1)
def iA (l:List aq) (row x:Int):Option Nat:=kO row x l 0
theorem FH (e:Bool) (a b:Int):(Instr.checkKey e 10000 228 (jZ a b)).aJ PP=some ():=by
 rw[gu]
 cases e<;>kernel_rfl
theorem aat (a b c d:Int):(Op.equal 228 (jZ a b) (jZ c d)).aJ PP=some (decide (a=c)&&decide (b=d)):=by
 have h:nZ PP 228 [.int .i64 a,.int .i64 b] [.int .i64 c,.int .i64 d]=some (decide (a=c)&&decide (b=d)):=by
  simp[nZ,jU,cA]
 exact(yQ h).2.1
theorem al9 {a b:Int} {l:List aq} {i k:Nat} (h:kO a b l i=some k):i≤k:=by
 induction l generalizing i with
 |nil=>cases h
 |cons s r ih=>
  simp only[kO]at h
  split at h
  ·simp only[Option.some.injEq]at h;omega
  ·have:=ih h;omega
theorem UL (a b:Int) (l:List aq) (i j:Nat):(Instr.findAsking 228 (jZ a b) (mO l i) j).aJ PP=some ((kO a b l i).map fun k=>(k-i+j,.int .i64 (k:Nat))):=by
 induction l generalizing i j with
 |nil=>rfl
 |cons s r ih=>
  simp only[mO,Instr.findAsking,bP,sN,aat,Option.bind_some,kO]
  by_cases h1:s.row=a∧s.x=b
  ·have h2:(decide (a=s.row)&&decide (b=s.x))=true:=by simp[h1.1,h1.2]
   simp[h2,h1,oZ]
  ·have h2:(decide (a=s.row)&&decide (b=s.x))=false:=by
    rw[←Bool.not_eq_true];intro q;simp at q;exact h1 ⟨q.1.symm,q.2.symm⟩
   rw[h2,if_neg h1]
   simp only[Bool.false_eq_true,if_false,ih]
   cases hp:kO a b r (i+1)with
   |none=>rfl
   |some k=>
    have:=al9 hp
    simp only[Option.map_some,Option.some.injEq,Prod.mk.injEq,and_true]
    omega
theorem Kf (a b:Int) (l:List aq):(Instr.findKey 228 (jZ a b) (lk l)).aJ PP=some ((iA l a b).map fun k=>(k,.int .i64 (k:Nat))):=by
 simp only[Instr.findKey,bP,lN AD,Option.bind_some]
 cases l with
 |nil=>rfl
 |cons s r=>
  have e:Instr.findNow (Go.TypeDesc.struct #[⟨ "row",3,0,false,"","parterre/parse",0⟩,⟨ "x",3,1,false,"","parterre/parse",8⟩]) (jZ a b) (lk (s::r)) 0=none:=rfl
  rw[e]
  have:=UL a b (s::r) 0 0
  simp only[Nat.sub_zero,Nat.add_zero]at this
  exact this
theorem Kh (a b:Int) (l:List aq):(l7 228 3 (jZ a b) (lk l).toArray true).aJ PP=some (.tuple #[.int .i64 (((iA l a b).getD 0:Nat):Int),.bool (iA l a b).isSome]):=by
 have hz:(zeroValue 3).aJ PP=some (.int .i64 0):=by rw[gu];kernel_rfl
 simp only[l7,bP,FH,Option.bind_some,Kf]
 cases hp:iA l a b with
 |none=>
  show(zeroValue 3 >>= fun a=>pure (Value.tuple #[a,.bool false]):Sem Value).aJ PP=_
  rw[bP,hz];rfl
 |some k=>simp[bP,oZ]
theorem aqE (a b:Int) (l:List aq):(pn 228 (jZ a b) (lk l).toArray).aJ PP=some ((iA l a b).map fun k=>(k,.int .i64 (k:Nat))):=by
 simp only[pn,bP,FH,Option.bind_some,Kf]
theorem aan (l:List aq) (s:aq) (i:Nat):mO (l++[s]) i=mO l i++[sN s (i+l.length)]:=by
 induction l generalizing i with
 |nil=>rfl
 |cons a r ih=>simp only[List.cons_append,mO,ih,List.length_cons];rw[show i+1+r.length=i+(r.length+1) by omega]
theorem aar (l:List aq) (s:aq):lk (l++[s])=lk l++[sN s l.length]:=by
 have:=aan l s 0
 rw[Nat.zero_add]at this
 exact this
end Go.Proofs.Ybk
namespace Go.Proofs.Ybk
open Go Go.Am
set_option maxHeartbeats 4000000
open T (a8 cg dv cE dV)
open V (aq aP ah al aQ ab aB)
open F (FR dp bQ)
structure jl where
 row:Int
 x:Int
 line:Int
 aj:Int
 ns:Int
 nm:Int
deriving DecidableEq
def iX (k:jl):List Value:=[.int .i64 k.row,.int .i64 k.x,.int .i64 k.line,.int .i64 k.aj,.int .i64 k.ns,.int .i64 k.nm]
structure Rd where
 af:List aq
 aV:Int
 bg:Int
 aD:List jl
 aE:List aP
 dX:Bool
deriving DecidableEq
def fT:Rd:=⟨[],0,0,[],[],false⟩
def cF (r:Rd) (t0:a8) (rest:List a8):Rd×Bool:=
 let n:=fun i=>(rest.getD i T.gV).n
 if t0.text=fH then(if 0<r.aV then(r,false)else({r with aV:=n 0},true))
 else if t0.text=gG then(if r.dX then(r,false)else({r with dX:=true,bg:=n 0},true))
 else if t0.text=fI then
  let k:=r.aD++[⟨n 0,n 1,t0.line,t0.aj,(rest.getD 0 T.gV).line,(rest.getD 0 T.gV).aj⟩]
  ({r with aD:=k},decide (k.length≤200))
 else if t0.text=gU then
  let p:=r.aE++[⟨n 0,n 1,n 2⟩]
  ({r with aE:=p},decide (p.length≤200))
 else match iA r.af (n 0) (n 1)with
  |some _=>(r,false)
  |none=>let s:=r.af++[⟨n 0,n 1,n 2,ou t0.text⟩];({r with af:=s},decide (s.length≤4096))
def jo (h0 h:aa) (r:Rd) (el ec:Int) (ks:Value) (br:Nat):Prop:=∃(os op ok:Option Nat) (ss sp sk:Value) (bm:Nat),
 h.f br= .row true 170 [ss,.int .i64 r.aV,.int .i64 r.bg,ks,sp,.int .i64 el,.int .i64 ec,.map (some bm),sk,.bool r.dX]∧h0.n≤br∧br<h.n∧
 F.bz 99 al h0 h os r.af ss∧F.bz 103 aQ h0 h op r.aE sp∧F.bz 230 iX h0 h ok r.aD sk∧h.f bm= .obj (.map (lk r.af).toArray r.af.length)∧h0.n≤bm∧bm<h.n
def PI (r:Rd):Prop:=r.af.length≤1000000∧r.aD.length≤1000000∧r.aE.length≤1000000
theorem PL {w:List UInt8} {bs:List Nat} (h:gy w=some bs) {rest:List a8} (hl:rest.length=bs.length):
  ((w=fH∨w=gG)∧∃a,rest=[a])∨(w=fI∧∃a b,rest=[a,b])∨((w=gU∨w=kl∨w=jK∨w=jJ)∧∃a b c,rest=[a,b,c]):=by
 have l1:rest.length=1→∃a,rest=[a]:=fun q=>by
  match rest,q with
  |[a],_=>exact⟨a,rfl⟩
 have l2:rest.length=2→∃a b,rest=[a,b]:=fun q=>by
  match rest,q with
  |[a,b],_=>exact⟨a,b,rfl⟩
 have l3:rest.length=3→∃a b c,rest=[a,b,c]:=fun q=>by
  match rest,q with
  |[a,b,c],_=>exact⟨a,b,c,rfl⟩
 unfold gy at h
 split at h
 ·rename_i hw
  simp only[Option.some.injEq]at h;subst h
  exact .inr (.inr ⟨.inr hw,l3 hl⟩)
 split at h
 ·rename_i hw
  simp only[Option.some.injEq]at h;subst h
  exact .inl ⟨.inl hw,l1 hl⟩
 split at h
 ·rename_i hw
  simp only[Option.some.injEq]at h;subst h
  exact .inl ⟨.inr hw,l1 hl⟩
 split at h
 ·rename_i hw
  simp only[Option.some.injEq]at h;subst h
  exact .inr (.inl ⟨hw,l2 hl⟩)
 split at h
 ·rename_i hw
  simp only[Option.some.injEq]at h;subst h
  exact .inr (.inr ⟨.inl hw,l3 hl⟩)
 ·cases h
theorem ja {α:Type} {e:TypeId} {enc:α→List Value} {h0 h:aa} {o:Option Nat} {xs:List α} {v:Value} (H:F.bz e enc h0 h o xs v) {b:Nat} {e':TypeId} {cs:List Value} (hb:h.f b= .row true e' cs) (he:e≠e'):o≠some b:=by
 rintro rfl
 have h1:=H.2.1
 rw[hb]at h1
 simp only[aO.row.injEq]at h1
 exact he h1.2.1.symm
theorem oW {α:Type} {e:TypeId} {enc:α→List Value} {h0 h:aa} {o:Option Nat} {xs:List α} {v:Value} (H:F.bz e enc h0 h o xs v) {b:Nat} {ob:Obj} (hb:h.f b= .obj ob):o≠some b:=by
 rintro rfl
 have h1:=H.2.1
 rw[hb]at h1
 cases h1
theorem jo.put {h0 h:aa} {r:Rd} {el ec:Int} {ks:Value} {br:Nat} (R:jo h0 h r el ec ks br) (aV bg:Int) (dX:Bool):∃(os op ok:Option Nat) (ss sp sk:Value) (bm:Nat),
  h.f br= .row true 170 [ss,.int .i64 r.aV,.int .i64 r.bg,ks,sp,.int .i64 el,.int .i64 ec,.map (some bm),sk,.bool r.dX]∧
  jo h0 (h.set br (.row true 170 [ss,.int .i64 aV,.int .i64 bg,ks,sp,.int .i64 el,.int .i64 ec,.map (some bm),sk,.bool dX])) {r with aV:=aV,bg:=bg,dX:=dX} el ec ks br:=by
 obtain⟨os,op,ok,ss,sp,sk,bm,hbr,hbr1,hbr2,hos,hop,hok,hbm,hbm1,hbm2⟩:=R
 refine⟨os,op,ok,ss,sp,sk,bm,hbr,os,op,ok,ss,sp,sk,bm,by simp,hbr1,hbr2,hos.ki _ (ja hos hbr (by decide)),hop.ki _ (ja hop hbr (by decide)),hok.ki _ (ja hok hbr (by decide)),?_,hbm1,hbm2⟩
 rw[eT,if_neg]
 ·exact hbm
 ·rintro rfl;rw[hbr]at hbm;cases hbm
theorem ano (h:aa) (b:Nat) (x y:aO):(h.set b x).set b y=h.set b y:=by
 unfold aa.set
 congr 1
 funext i
 by_cases hi:i=b<;>simp[hi]
def fq (h:aa) (o:Option Nat) (c0 c1:aO):aa:=match o with
 |none=>(h.new c0).new c1
 |some b=>((h.new c0).set b .dead).new c1
theorem mc (h:aa) (o:Option Nat) (c0 c1:aO):(fq h o c0 c1).n=h.n+1+1:=by cases o<;>simp[fq]
theorem zd (h:aa) (o:Option Nat) (c0 c1:aO) {b:Nat} (hb:b<h.n) (ho:o≠some b):(fq h o c0 c1).f b=h.f b:=by
 have n1:¬b=h.n:=by omega
 have n2:¬b=h.n+1:=by omega
 cases o with
 |none=>simp[fq,n1,n2]
 |some x=>
  have n3:¬b=x:=fun q=>ho (by rw[q])
  simp[fq,n1,n2,n3]
theorem alv {α:Type} {e:TypeId} {enc:α→List Value} {h0 h h':aa} {o:Option Nat} {xs:List α} {v:Value} (H:F.bz e enc h0 h o xs v) (hs:∀b,o=some b→h'.f b=h.f b) (hn:h.n≤h'.n):F.bz e enc h0 h' o xs v:=by
 obtain⟨rfl,z⟩:=H
 refine⟨rfl,?_⟩
 cases o with
 |none=>exact z
 |some b=>exact⟨by rw[hs b rfl];exact z.1,z.2.1,Nat.lt_of_lt_of_le z.2.2 hn⟩
theorem tD {α:Type} {e:TypeId} {enc:α→List Value} {h0 h:aa} {o:Option Nat} {xs:List α} {v:Value} (H:F.bz e enc h0 h o xs v) (hn:h0.n≤h.n) (c0:aO) (x:α) {cells:List Value} (hc:cells=xs.flatMap enc++enc x) {br:Nat} (hbr:br<h.n) (X:aO):
  F.bz e enc h0 ((fq h o c0 (.row true e cells)).set br X) (some (h.n+1)) (xs++[x]) (.slice (some ⟨h.n+1,0,none⟩) (xs.length+1) (xs.length+1)):=by
 have key:F.bz e enc h0 (fq h o c0 (.row true e cells)) (some (h.n+1)) (xs++[x]) (.slice (some ⟨h.n+1,0,none⟩) (xs.length+1) (xs.length+1)):=by
  cases o with
  |none=>
   have hx:xs=[]:=H.2
   subst hx
   exact F.bz.tL hn c0 x (by rw[hc];rfl)
  |some b=>exact H.push c0 x (by rw[hc];simp)
 exact key.ki _ (by simp;omega)
theorem lJ {α:Type} {e:TypeId} {enc:α→List Value} {h0 h:aa} {o o':Option Nat} {xs:List α} {v:Value} (H:F.bz e enc h0 h o xs v) (c0 c1:aO) {br:Nat} (X:aO) (h1:∀b,o'=some b→o≠some b) (h2:o≠some br):F.bz e enc h0 ((fq h o' c0 c1).set br X) o xs v:=by
 refine alv H (fun b hb=>?_) (by show h.n≤(fq h o' c0 c1).n;rw[mc];omega)
 rw[eT,if_neg (fun q=>h2 (by rw[hb,q]))]
 refine zd h o' c0 c1 ?_ (fun q=>h1 b q hb)
 subst hb
 exact H.2.2.2
theorem sO {h0 h:aa} (E:Ext h0 h) {o:Option Nat} (ho:∀b,o=some b→h0.n≤b) (c0 c1:aO) {br:Nat} (hbr:h0.n≤br) (X:aO):Ext h0 ((fq h o c0 c1).set br X):=by
 refine Ext.cq ?_ hbr _
 cases o with
 |none=>exact(E.bA _).bA _
 |some b=>exact((E.bA _).cq (ho b rfl) _).bA _
theorem tC {α:Type} {e:TypeId} {enc:α→List Value} {h0 h:aa} {o:Option Nat} {xs:List α} {v:Value} (H:F.bz e enc h0 h o xs v):∀b,o=some b→h0.n≤b:=by
 rintro b rfl
 exact H.2.2.1
theorem lK {α β:Type} {e e':TypeId} {enc:α→List Value} {enc':β→List Value} {h0 h:aa} {o o':Option Nat} {xs:List α} {ys:List β} {v v':Value} (H:F.bz e enc h0 h o xs v) (H':F.bz e' enc' h0 h o' ys v') (he:e≠e'):∀b,o'=some b→o≠some b:=by
 rintro b rfl
 exact ja H H'.2.1 he
theorem tj {h:aa} {o:Option Nat} (c0 c1:aO) {br bm:Nat} (X:aO) {ob:Obj} (hbm:h.f bm= .obj ob) (hlt:bm<h.n) (ho:o≠some bm) (hb:bm≠br):((fq h o c0 c1).set br X).f bm= .obj ob:=by
 rw[eT,if_neg hb,zd h o c0 c1 hlt ho,hbm]
def nF (h h':aa):Prop:=∀(b:Nat) (w:Bool) (cells:List Value),b<h.n→h.f b= .row w 193 cells→h'.f b= .row w 193 cells
def r6 (h0 h:aa) (r:Rd) (t0:a8) (rest:List a8) (el ec:Int) (ks:Value) (br:Nat) (v:Value) (h':aa):Prop:=
 v= .bool (cF r t0 rest).2∧Ext h0 h'∧jo h0 h' (cF r t0 rest).1 el ec ks br∧nF h h'
theorem qd {h h':aa} (K:nF h h') {b:Nat} (hb:∀w cells,h.f b≠.row w 193 cells) (x:aO):nF h (h'.set b x):=fun i w cells hi hf=>by
 have hne:¬i=b:=by rintro rfl;exact hb _ _ hf
 rw[eT,if_neg hne]
 exact K i w cells hi hf
theorem mV (h:aa):nF h h:=fun _ _ _ _ hf=>hf
theorem zq {h h':aa} (K:nF h h') (hn:h.n≤h'.n) {o:Option Nat} (c0 c1:aO) (ho:∀b,o=some b→∀w cells,h'.f b≠.row w 193 cells):nF h (fq h' o c0 c1):=fun i w cells hi hf=>by
 have h1:=K i w cells hi hf
 rw[zd h' o c0 c1 (by omega) (fun q=>ho i q w cells h1)]
 exact h1
theorem zU {α:Type} {e:TypeId} {enc:α→List Value} {h0 h:aa} {o:Option Nat} {xs:List α} {v:Value} (H:F.bz e enc h0 h o xs v) (he:e≠193):∀b,o=some b→∀w cells,h.f b≠.row w 193 cells:=by
 rintro b rfl w cells q
 have h1:=H.2.1
 rw[q]at h1
 simp only[aO.row.injEq]at h1
 exact he h1.2.1.symm
theorem rO {h:aa} {b:Nat} {w:Bool} {e:TypeId} {cs:List Value} (hb:h.f b= .row w e cs) (he:e≠193):∀w cells,h.f b≠.row w 193 cells:=by
 intro w' cells q
 rw[hb]at q
 simp only[aO.row.injEq]at q
 exact he q.2.1
theorem agN {h:aa} {b:Nat} {o:Obj} (hb:h.f b= .obj o):∀w cells,h.f b≠.row w 193 cells:=by
 intro w' cells q
 rw[hb]at q
 cases q
theorem TG (h0 h:aa) (r:Rd) (t0:a8) (rest:List a8) (bs:List Nat) (hb:gy t0.text=some bs) (hl:rest.length=bs.length) (el ec:Int) (ks:Value) (hks:bL ks=true) (br:Nat) (tv nv:Value)
  (E0:Ext h0 h) (R:jo h0 h r el ec ks br) (hr:PI r) (ht:dV h tv (t0::rest)) (hn:bS 3 ab h0 h nv (rest.map (·.n))):ai PP 161 [.pointer (some ⟨br,0,none⟩),tv,nv] h (r6 h0 h r t0 rest el ec ks br):=by
 refine az mix abv VC rfl (by show 3≤169;decide) aiJ ?_
 simp only[vM,Tryz.f161]
 obtain⟨os,op,ok,ss,sp,sk,bm,hbr,hbr1,hbr2,hos,hop,hok,hbm,hbm1,hbm2⟩:=id R
 obtain⟨ad,c,rfl,_⟩:=id ht
 obtain⟨_,bt,off,wt,cells,r0,rfl,e2,e3,e4,e5⟩:=ht.at (i:=0) (t:=t0) rfl
 simp only[Nat.zero_mul,Nat.add_zero]at e3 e4
 obtain⟨d0,d1,d4⟩:=nC e3
 have hl4:off+4+1≤cells.length:=by omega
 have hl5:off+5≤cells.length:=by omega
 obtain⟨adn,rfl,hn'⟩:=id hn
 rcases PL hb hl with⟨hw,a,rfl⟩|⟨hw,a,b,rfl⟩|⟨hw,a,b,c',rfl⟩
 ·obtain⟨bn,rfl,hbn,hbn1,hbn2⟩:∃bn,adn=some ⟨bn,0,none⟩∧h.f bn= .row true 3 [.int .i64 a.n]∧h0.n≤bn∧bn<h.n:=by
   rcases hn' with⟨_,q⟩|⟨bn,q1,q2,q3,q4⟩
   ·cases q
   ·exact⟨bn,q1,q2,q3,q4⟩
  rcases hw with hw|hw
  ·rw[hw,fH]at d4
   by_cases hg:0<r.aV
   ·have hres:cF r t0 [a]=(r,false):=by simp[cF,hw,hg]
    simp -implicitDefEqProofs[e2,d4,hl4,hbr,hg,fH]
    exact⟨by rw[hres],E0,by rw[hres];exact R,mV h⟩
   ·have hres:cF r t0 [a]=({r with aV:=a.n},true):=by simp[cF,hw,hg]
    obtain⟨_,_,_,ss',sp',sk',bm',q1,q2⟩:=R.put a.n r.bg r.dX
    rw[hbr]at q1
    simp only[aO.row.injEq,List.cons.injEq,Value.map.injEq,Option.some.injEq,true_and,and_true]at q1
    obtain⟨rfl,rfl,rfl,rfl⟩:=q1
    simp -implicitDefEqProofs[e2,d4,hl4,hbr,hg,fH,hbn]
    exact⟨by rw[hres],E0.cq hbr1 _,by rw[hres];exact q2,qd (mV h) (rO hbr (by decide)) _⟩
  ·rw[hw,gG]at d4
   have hw2:¬gG=fH:=by decide
   cases hg:r.dX with
   |true=>
    have hres:cF r t0 [a]=(r,false):=by simp[cF,hw,hg,hw2]
    simp -implicitDefEqProofs[e2,d4,hl4,hbr,hg]
    exact⟨by rw[hres],E0,by rw[hres];exact R,mV h⟩
   |false=>
    have hres:cF r t0 [a]=({r with dX:=true,bg:=a.n},true):=by simp[cF,hw,hg,hw2]
    obtain⟨_,_,_,ss',sp',sk',bm',q1,q2⟩:=R.put r.aV a.n true
    rw[hbr]at q1
    simp only[aO.row.injEq,List.cons.injEq,Value.map.injEq,Option.some.injEq,true_and,and_true]at q1
    obtain⟨rfl,rfl,rfl,rfl⟩:=q1
    simp -implicitDefEqProofs[e2,d4,hl4,hbr,hg,hbn]
    rw[ano]
    exact⟨by rw[hres],E0.cq hbr1 _,by rw[hres];exact q2,qd (mV h) (rO hbr (by decide)) _⟩
 ·obtain⟨bn,rfl,hbn,hbn1,hbn2⟩:∃bn,adn=some ⟨bn,0,none⟩∧h.f bn= .row true 3 [.int .i64 a.n,.int .i64 b.n]∧h0.n≤bn∧bn<h.n:=by
   rcases hn' with⟨_,q⟩|⟨bn,q1,q2,q3,q4⟩
   ·cases q
   ·exact⟨bn,q1,q2,q3,q4⟩
  rw[hw,fI]at d4
  have hw1:¬fI=fH:=by decide
  have hw2:¬fI=gG:=by decide
  have hr1:List.range 1=[0]:=rfl
  have hr6:List.range 6=[0,1,2,3,4,5]:=rfl
  obtain⟨kq,hkq⟩:∃k:jl,k=⟨a.n,b.n,t0.line,t0.aj,a.line,a.aj⟩:=⟨_,rfl⟩
  have hres:cF r t0 [a,b]=({r with aD:=r.aD++[kq]},decide ((r.aD++[kq]).length≤200)):=by simp[cF,hw,hw1,hw2,hkq]
  obtain⟨_,b',off',w',cells',r',q1,q2,q3,q4,q5⟩:=ht.at (i:=1) (t:=a) rfl
  simp only[Option.some.injEq,Addr.mk.injEq,and_true]at q1
  obtain⟨rfl,rfl⟩:=q1
  rw[e2]at q2
  simp only[aO.row.injEq,true_and]at q2
  obtain⟨rfl,rfl⟩:=q2
  rw[Nat.one_mul]at q3 q4
  obtain⟨p0,p1,p4⟩:=nC q3
  have hl10:off+5+5≤cells.length:=by omega
  have sp1:=lP t0 h
  have sp2:=lP a h
  simp only[dv,cg,hw,fI]at sp1 sp2
  obtain⟨rfl,hko⟩:=id hok
  simp -implicitDefEqProofs[e2,d0,d4,p0,hl4,hl5,hl10,hbr,hbn,hw,fI]
  refine sp1.mono ?_
  rintro r1 H2 ⟨e,rfl⟩
  replace e:=e.symm
  subst e
  simp -implicitDefEqProofs[aC,cE,e2,d0,d4,p0,hl4,hl5,hl10,hbr,hbn,hw,fI]
  intro _
  refine sp2.mono ?_
  rintro r1 H2 ⟨e,rfl⟩
  replace e:=e.symm
  subst e
  have mkK:∀cells,cells=r.aD.flatMap iX++iX kq→r6 h0 h r t0 [a,b] el ec ks br (.bool (decide ((r.aD.length:Int)+1≤200))) ((fq h ok (.row true 230 (iX kq)) (.row true 230 cells)).set br
    (.row true 170 [ss,.int .i64 r.aV,.int .i64 r.bg,ks,sp,.int .i64 el,.int .i64 ec,.map (some bm),.slice (some ⟨h.n+1,0,none⟩) (r.aD.length+1) (r.aD.length+1),.bool r.dX])):=by
   intro cells hc
   refine⟨?_,sO E0 (tC hok) _ _ hbr1 _,?_,qd (zq (mV h) (Nat.le_refl _) _ _ (zU hok (by decide))) (rO hbr (by decide)) _⟩
   ·rw[hres];congr 1;rw[decide_eq_decide,List.length_append,List.length_singleton];omega
   rw[hres]
   refine⟨os,op,some (h.n+1),_,_,_,bm,by rw[eT,if_pos rfl],hbr1,?_,lJ hos _ _ _ (lK hos hok (by decide)) (ja hos hbr (by decide)),lJ hop _ _ _ (lK hop hok (by decide)) (ja hop hbr (by decide)),tD hok E0.n _ kq hc hbr2 _,tj _ _ _ hbm hbm2 (oW hok hbm) (by rintro rfl;rw[hbr]at hbm;cases hbm),hbm1,?_⟩
   ·show br<(fq h ok _ _).n;rw[mc];omega
   ·show bm<(fq h ok _ _).n;rw[mc];omega
  cases ok with
  |none=>
   simp only at hko
   have o2:¬br=h.n:=by omega
   have o3:¬br=h.n+1:=by omega
   simp -implicitDefEqProofs[aC,cE,e2,d0,d4,p0,hl4,hl5,hl10,hbr,hbn,hw,fI,hko,aI,hr6,hr1,cB,cQ,cH,o2,o3]
   intro _
   have hk0:r.aD.flatMap iX++iX kq=iX kq:=by rw[hko];rfl
   have key:=mkK (iX kq) (hk0.symm)
   rw[hkq,hko]at key
   exact key
  |some bk=>
   simp only at hko
   obtain⟨hk1,hk2,hk3⟩:=hko
   obtain⟨K,hK⟩:∃K,K=r.aD.flatMap iX:=⟨_,rfl⟩
   have hKl:K.length=r.aD.length*6:=by have:=dA 6 (enc:=iX) (fun _=>rfl) r.aD;rw[←hK]at this;omega
   rw[←hK]at hk1
   have hmx:(r.aD.length+1)*48≤140737488355328:=by have:=hr.2.1;omega
   have o1:¬bk=h.n:=by omega
   have o2:¬br=h.n:=by omega
   have o3:¬br=h.n+1:=by omega
   have o4:¬br=bk:=by rintro rfl;rw[hbr]at hk1;simp at hk1
   have e8:K.take (r.aD.length*6)=K:=List.take_of_length_le (by omega)
   simp -implicitDefEqProofs[aC,cE,e2,d0,d4,p0,hl4,hl5,hl10,hbr,hbn,hw,fI,aI,hr6,hr1,cB,cQ,cH,hk1,hKl,hmx,o1,o2,o3,o4,e8]
   intro _
   have key:=mkK (K++iX kq) (by rw[hK])
   rw[hkq]at key
   exact key
 ·obtain⟨bn,rfl,hbn,hbn1,hbn2⟩:∃bn,adn=some ⟨bn,0,none⟩∧h.f bn= .row true 3 [.int .i64 a.n,.int .i64 b.n,.int .i64 c'.n]∧h0.n≤bn∧bn<h.n:=by
   rcases hn' with⟨_,q⟩|⟨bn,q1,q2,q3,q4⟩
   ·cases q
   ·exact⟨bn,q1,q2,q3,q4⟩
  have hr1:List.range 1=[0]:=rfl
  have hr3:List.range 3=[0,1,2]:=rfl
  have hr4:List.range 4=[0,1,2,3]:=rfl
  by_cases hwp:t0.text=gU
  ·rw[hwp,gU]at d4
   have hw1:¬gU=fH:=by decide
   have hw2:¬gU=gG:=by decide
   have hw3:¬gU=fI:=by decide
   obtain⟨pq,hpq⟩:∃k:aP,k=⟨a.n,b.n,c'.n⟩:=⟨_,rfl⟩
   have hres:cF r t0 [a,b,c']=({r with aE:=r.aE++[pq]},decide ((r.aE++[pq]).length≤200)):=by simp[cF,hwp,hw1,hw2,hw3,hpq]
   have mkK:∀cells,cells=r.aE.flatMap aQ++aQ pq→r6 h0 h r t0 [a,b,c'] el ec ks br (.bool (decide ((r.aE.length:Int)+1≤200))) ((fq h op (.row true 103 (aQ pq)) (.row true 103 cells)).set br
     (.row true 170 [ss,.int .i64 r.aV,.int .i64 r.bg,ks,.slice (some ⟨h.n+1,0,none⟩) (r.aE.length+1) (r.aE.length+1),.int .i64 el,.int .i64 ec,.map (some bm),sk,.bool r.dX])):=by
    intro cells hc
    refine⟨?_,sO E0 (tC hop) _ _ hbr1 _,?_,qd (zq (mV h) (Nat.le_refl _) _ _ (zU hop (by decide))) (rO hbr (by decide)) _⟩
    ·rw[hres];congr 1;rw[decide_eq_decide,List.length_append,List.length_singleton];omega
    rw[hres]
    refine⟨os,some (h.n+1),ok,_,_,_,bm,by rw[eT,if_pos rfl],hbr1,?_,lJ hos _ _ _ (lK hos hop (by decide)) (ja hos hbr (by decide)),tD hop E0.n _ pq hc hbr2 _,lJ hok _ _ _ (lK hok hop (by decide)) (ja hok hbr (by decide)),tj _ _ _ hbm hbm2 (oW hop hbm) (by rintro rfl;rw[hbr]at hbm;cases hbm),hbm1,?_⟩
    ·show br<(fq h op _ _).n;rw[mc];omega
    ·show bm<(fq h op _ _).n;rw[mc];omega
   obtain⟨rfl,hko⟩:=id hop
   have o2:¬br=h.n:=by omega
   have o3:¬br=h.n+1:=by omega
   cases op with
   |none=>
    simp only at hko
    simp -implicitDefEqProofs[e2,d0,d4,hl4,hl5,hbr,hbn,hko,aI,hr3,hr1,cB,cQ,cH,o2,o3]
    have hk0:r.aE.flatMap aQ++aQ pq=aQ pq:=by rw[hko];rfl
    have key:=mkK (aQ pq) (hk0.symm)
    rw[hpq,hko]at key
    exact key
   |some bk=>
    simp only at hko
    obtain⟨hk1,hk2,hk3⟩:=hko
    obtain⟨K,hK⟩:∃K,K=r.aE.flatMap aQ:=⟨_,rfl⟩
    have hKl:K.length=r.aE.length*3:=by have:=dA 3 (enc:=aQ) (fun _=>rfl) r.aE;rw[←hK]at this;omega
    rw[←hK]at hk1
    have hmx:(r.aE.length+1)*24≤140737488355328:=by have:=hr.2.2;omega
    have o1:¬bk=h.n:=by omega
    have o4:¬br=bk:=by rintro rfl;rw[hbr]at hk1;simp at hk1
    have e8:K.take (r.aE.length*3)=K:=List.take_of_length_le (by omega)
    simp -implicitDefEqProofs[e2,d0,d4,hl4,hl5,hbr,hbn,aI,hr3,hr1,cB,cQ,cH,hk1,hKl,hmx,o1,o2,o3,o4,e8]
    have key:=mkK (K++aQ pq) (by rw[hK])
    rw[hpq]at key
    exact key
  ·have hws:t0.text=kl∨t0.text=jK∨t0.text=jJ:=by
    rcases hw with q|q
    ·exact absurd q hwp
    ·exact q
   have z1:¬t0.text=fH:=by rcases hws with q|q|q<;>rw[q]<;>decide
   have z2:¬t0.text=gG:=by rcases hws with q|q|q<;>rw[q]<;>decide
   have z3:¬t0.text=fI:=by rcases hws with q|q|q<;>rw[q]<;>decide
   have y1:¬t0.text=[103,97,112]:=z1
   have y2:¬t0.text=[114,97,100,105,117,115]:=z2
   have y3:¬t0.text=[107,105,108,108]:=z3
   have y4:¬t0.text=[112,111,108,101]:=hwp
   have f1:=Kh a.n b.n r.af
   simp only[jZ]at f1
   cases hp:iA r.af a.n b.n with
   |some q=>
    have hres:cF r t0 [a,b,c']=(r,false):=by simp[cF,z1,z2,z3,hwp,hp]
    rw[hp]at f1
    simp -implicitDefEqProofs[e2,d0,d4,hl4,hl5,hbr,hbn,y1,y2,y3,y4,lH,hbm,f1,bM,cA]
    exact⟨by rw[hres],E0,by rw[hres];exact R,mV h⟩
   |none=>
    have f2:=aqE a.n b.n r.af
    rw[hp]at f1 f2
    simp only[jZ]at f2
    obtain⟨sq,hsq⟩:∃k:aq,k=⟨a.n,b.n,c'.n,ou t0.text⟩:=⟨_,rfl⟩
    have hres:cF r t0 [a,b,c']=({r with af:=r.af++[sq]},decide ((r.af++[sq]).length≤4096)):=by simp[cF,z1,z2,z3,hwp,hp,hsq]
    have nb1:¬br=bm:=by rintro rfl;rw[hbr]at hbm;cases hbm
    have nb2:¬bn=bm:=by rintro rfl;rw[hbn]at hbm;cases hbm
    have nb3:¬bt=bm:=by rintro rfl;rw[e2]at hbm;cases hbm
    obtain⟨Om,hOm⟩:∃o,o=Obj.map (lk r.af++[(⟨Value.agg ⟨[.int .i64 a.n,.int .i64 b.n]⟩,.int .i64 (r.af.length:Nat),r.af.length⟩:MapEntry)]).toArray (r.af.length+1):=⟨_,rfl⟩
    have hOm2:Om= .map (lk (r.af++[sq])).toArray (r.af++[sq]).length:=by
     rw[hOm,aar,List.length_append,hsq];rfl
    obtain⟨M,hM⟩:∃M,M=h.set bm (.obj Om):=⟨_,rfl⟩
    have Mn:M.n=h.n:=by rw[hM];rfl
    have Mbr:M.f br= .row true 170 [ss,.int .i64 r.aV,.int .i64 r.bg,ks,sp,.int .i64 el,.int .i64 ec,.map (some bm),sk,.bool r.dX]:=by rw[hM,eT,if_neg nb1,hbr]
    have Mbm:M.f bm= .obj Om:=by rw[hM,eT,if_pos rfl]
    have Mos:=hos.ki (.obj Om) (oW hos hbm)
    have Mop:=hop.ki (.obj Om) (oW hop hbm)
    have Mok:=hok.ki (.obj Om) (oW hok hbm)
    rw[←hM]at Mos Mop Mok
    have ME:Ext h0 M:=by rw[hM];exact E0.cq hbm1 _
    have mkK:∀cells,cells=r.af.flatMap al++al sq→r6 h0 h r t0 [a,b,c'] el ec ks br (.bool (decide ((r.af.length:Int)+1≤4096))) ((fq M os (.row true 99 (al sq)) (.row true 99 cells)).set br
      (.row true 170 [.slice (some ⟨M.n+1,0,none⟩) (r.af.length+1) (r.af.length+1),.int .i64 r.aV,.int .i64 r.bg,ks,sp,.int .i64 el,.int .i64 ec,.map (some bm),sk,.bool r.dX])):=by
     intro cells hc
     refine⟨?_,sO ME (tC Mos) _ _ hbr1 _,?_,qd (zq (by rw[hM];exact qd (mV h) (agN hbm) _) (by rw[Mn];exact Nat.le_refl _) _ _ (zU Mos (by decide))) (rO hbr (by decide)) _⟩
     ·rw[hres];congr 1;rw[decide_eq_decide,List.length_append,List.length_singleton];omega
     rw[hres]
     refine⟨some (M.n+1),op,ok,_,_,_,bm,by rw[eT,if_pos rfl],hbr1,?_,tD Mos ME.n _ sq hc (by rw[Mn];exact hbr2) _,lJ Mop _ _ _ (lK Mop Mos (by decide)) (ja Mop Mbr (by decide)),lJ Mok _ _ _ (lK Mok Mos (by decide)) (ja Mok Mbr (by decide)),?_,hbm1,?_⟩
     ·show br<(fq M os _ _).n;rw[mc];omega
     ·rw[tj _ _ _ Mbm (by rw[Mn];exact hbm2) (oW Mos Mbm) (fun q=>nb1 q.symm),hOm2]
     ·show bm<(fq M os _ _).n;rw[mc];omega
    obtain⟨rfl,hko⟩:=id Mos
    have o2:¬br=M.n:=by omega
    have o3:¬br=M.n+1:=by omega
    have Mbn:M.f bn= .row true 3 [.int .i64 a.n,.int .i64 b.n,.int .i64 c'.n]:=by rw[hM,eT,if_neg nb2,hbn]
    have Mbt:M.f bt= .row wt 193 cells:=by rw[hM,eT,if_neg nb3,e2]
    have o5:¬bn=M.n:=by omega
    have o6:¬bn=M.n+1:=by omega
    have o7:¬bt=M.n:=by omega
    have o8:¬bt=M.n+1:=by omega
    have knd:=kD t0.text M
    rw[hOm]at hM
    simp -implicitDefEqProofs[e2,d0,d4,hl4,hl5,hbr,hbn,y1,y2,y3,y4,hbm,f1,f2,nb1,nb2,nb3]
    rw[←hM]
    refine knd.mono ?_
    rintro r1 H2 ⟨e,rfl⟩
    replace e:=e.symm
    subst e
    cases os with
    |none=>
     simp only at hko
     simp -implicitDefEqProofs[aC,Mbt,d0,d4,hl4,hl5,Mbr,Mbn,hko,aI,hr4,hr1,cB,cQ,cH,o2,o3,o5,o6,o7,o8]
     intro _
     have hk0:r.af.flatMap al++al sq=al sq:=by rw[hko];rfl
     have key:=mkK (al sq) (hk0.symm)
     rw[hsq,hko]at key
     exact key
    |some bk=>
     simp only at hko
     obtain⟨hk1,hk2,hk3⟩:=hko
     obtain⟨K,hK⟩:∃K,K=r.af.flatMap al:=⟨_,rfl⟩
     have hKl:K.length=r.af.length*4:=by have:=dA 4 (enc:=al) (fun _=>rfl) r.af;rw[←hK]at this;omega
     rw[←hK]at hk1
     have hmx:(r.af.length+1)*32≤140737488355328:=by have:=hr.1;omega
     have o1:¬bk=M.n:=by omega
     have o4:¬br=bk:=by rintro rfl;rw[Mbr]at hk1;simp at hk1
     have o9:¬bn=bk:=by rintro rfl;rw[Mbn]at hk1;simp at hk1
     have o10:¬bt=bk:=by rintro rfl;rw[Mbt]at hk1;simp at hk1
     have e8:K.take (r.af.length*4)=K:=List.take_of_length_le (by omega)
     simp -implicitDefEqProofs[aC,Mbt,d0,d4,hl4,hl5,Mbr,Mbn,aI,hr4,hr1,cB,cQ,cH,hk1,hKl,hmx,o1,o2,o3,o4,o5,o6,o7,o8,o9,o10,e8]
     intro _
     have key:=mkK (K++al sq) (by rw[hK])
     rw[hsq]at key
     exact key
def rowAt (ts:List a8) (a:Nat):List a8:=(ts.take (a+T.fN (ts.drop a))).drop a
def mZ (ts:List a8) (a:Nat):Nat:=if a+T.fN (ts.drop a)<ts.length then a+T.fN (ts.drop a)+1 else ts.length
def iO (ts:List a8) (el ec:Int) (k:Nat):Int×Int:=match ts[k]? with
 |some t=>(t.line,t.aj)
 |none=>(el,ec)
def fe (ts:List a8) (el ec:Int):Nat→Nat→Rd→Rd×Option (Int×Int)
 |0,_,r=>(r,none)
 |f+1,a,r=>if a<ts.length then match rowAt ts a with
   |[]=>fe ts el ec f (mZ ts a) r
   |t0::rest=>match fc (t0::rest) (iO ts el ec (a+(rest.length+1))).1 (iO ts el ec (a+(rest.length+1))).2 with
    |some e=>(r,some e)
    |none=>if(cF r t0 rest).2 then fe ts el ec f (mZ ts a) (cF r t0 rest).1 else((cF r t0 rest).1,some (t0.line,t0.aj))
  else(r,none)
theorem zE {ts:List a8} {el ec:Int} {f a:Nat} {r:Rd} (ha:a<ts.length) (hr:rowAt ts a=[]):fe ts el ec (f+1) a r=fe ts el ec f (mZ ts a) r:=by
 rw[fe,if_pos ha,hr]
theorem zD {ts:List a8} {el ec:Int} {f a:Nat} {r:Rd} {t0:a8} {rest:List a8} (ha:a<ts.length) (hr:rowAt ts a=t0::rest):fe ts el ec (f+1) a r=
  match fc (t0::rest) (iO ts el ec (a+(rest.length+1))).1 (iO ts el ec (a+(rest.length+1))).2 with
    |some e=>(r,some e)
    |none=>if(cF r t0 rest).2 then fe ts el ec f (mZ ts a) (cF r t0 rest).1 else((cF r t0 rest).1,some (t0.line,t0.aj)):=by
 rw[fe,if_pos ha,hr]
theorem agq {ts:List a8} {a:Nat} (h:a<ts.length):a<mZ ts a∧mZ ts a≤ts.length:=by
 unfold mZ
 split<;>omega
theorem amP {ts:List a8} {a:Nat} (h:a<ts.length):(rowAt ts a).length=T.fN (ts.drop a)∧a+T.fN (ts.drop a)≤ts.length:=by
 have h1:T.fN (ts.drop a)≤(ts.drop a).length:=by unfold T.fN;exact(List.takeWhile_sublist _).length_le
 rw[List.length_drop]at h1
 refine⟨?_,by omega⟩
 unfold rowAt
 rw[List.length_drop,List.length_take]
 omega
theorem jo.ext {h0 h h':aa} {r:Rd} {el ec:Int} {ks:Value} {br:Nat} (R:jo h0 h r el ec ks br) (E:Ext h h'):jo h0 h' r el ec ks br:=by
 obtain⟨os,op,ok,ss,sp,sk,bm,hbr,hbr1,hbr2,hos,hop,hok,hbm,hbm1,hbm2⟩:=R
 exact⟨os,op,ok,ss,sp,sk,bm,by rw[E.f br hbr2];exact hbr,hbr1,Nat.lt_of_lt_of_le hbr2 E.n,hos.ext E,hop.ext E,hok.ext E,by rw[E.f bm hbm2];exact hbm,hbm1,Nat.lt_of_lt_of_le hbm2 E.n⟩
theorem alu {α:Type} {e:TypeId} {enc:α→List Value} {h0 h1 h:aa} {v:Value} {xs:List α} (H:bS e enc h1 h v xs) (hn:h0.n≤h1.n):bS e enc h0 h v xs:=by
 obtain⟨ad,rfl,z⟩:=H
 refine⟨ad,rfl,?_⟩
 rcases z with z|⟨b,q1,q2,q3,q4⟩
 ·exact .inl z
 ·exact .inr ⟨b,q1,q2,Nat.le_trans hn q3,q4⟩
def mn (r:Rd):Prop:=r.af.length≤4096∧r.aD.length≤200∧r.aE.length≤200
theorem mn.small {r:Rd} (H:mn r):PI r:=⟨by have:=H.1;omega,by have:=H.2.1;omega,by have:=H.2.2;omega⟩
theorem Ba {r:Rd} {t0:a8} {rest:List a8} (H:mn r) (h:(cF r t0 rest).2=true):mn (cF r t0 rest).1:=by
 obtain⟨h1,h2,h3⟩:=H
 unfold cF at h ⊢
 dsimp only at h ⊢
 by_cases c1:t0.text=fH
 ·rw[if_pos c1]
  split<;>exact⟨h1,h2,h3⟩
 rw[if_neg c1]at h ⊢
 by_cases c2:t0.text=gG
 ·rw[if_pos c2]
  split<;>exact⟨h1,h2,h3⟩
 rw[if_neg c2]at h ⊢
 by_cases c3:t0.text=fI
 ·rw[if_pos c3]at h ⊢
  exact⟨h1,by simpa using h,h3⟩
 rw[if_neg c3]at h ⊢
 by_cases c4:t0.text=gU
 ·rw[if_pos c4]at h ⊢
  exact⟨h1,h2,by simpa using h⟩
 rw[if_neg c4]at h ⊢
 split
 ·exact⟨h1,h2,h3⟩
 ·rename_i hp
  rw[hp]at h
  exact⟨by simpa using h,h2,h3⟩
theorem Oo {t0:a8} {rest:List a8} {bl bc:Int} (h:fc (t0::rest) bl bc=none):∃bs,gy t0.text=some bs∧rest.length=bs.length:=by
 unfold fc at h
 simp only at h
 cases hw:jj t0 with
 |none=>rw[hw]at h;cases h
 |some bs=>
  rw[hw]at h
  have hb:gy t0.text=some bs:=by unfold jj at hw;split at hw;exact hw;cases hw
  refine⟨bs,hb,?_⟩
  simp only[nd]at h
  cases hc:iy bl bc bs rest with
  |some e=>rw[hc]at h;cases h
  |none=>
   rw[hc]at h
   simp only at h
   have h1:bs.length≤rest.length:=by
    clear h hb hw
    induction bs generalizing rest with
    |nil=>simp
    |cons b r ih=>cases rest with
     |nil=>cases hc
     |cons t q=>
      simp only[iy]at hc
      split at hc
      ·have:=ih hc;simp;omega
      ·cases hc
   cases hd:rest.drop bs.length with
   |nil=>have:=congrArg List.length hd;rw[List.length_drop]at this;simp at this;omega
   |cons t q=>rw[hd]at h;cases h
theorem apL {h h':aa} {v:Value} {t0:a8} {rest:List a8} (H:dV h v (t0::rest)) (K:nF h h') (hn:h.n≤h'.n):dV h' v (t0::rest):=by
 obtain⟨ad,c,q,z⟩:=H
 refine⟨ad,c,q,?_⟩
 rcases z with⟨_,q2,_⟩|⟨b,off,w,cells,r,z1,z2,z3,z4,z5⟩
 ·cases q2
 ·exact .inr ⟨b,off,w,cells,r,z1,K b w cells z5 z2,z3,z4,Nat.lt_of_lt_of_le z5 hn⟩
theorem aox {σ:St} (d:Option Nat) (x:Operand) (ty yt:TypeId) (pos:String) (aft:Array Edge) (g:Option (Nat×Bool)) (hx:aG σ x=some .nilIface):
  cu PP σ ⟨d,.binOp .neq 110 x (.const .nilIface) yt,ty,pos,aft,g⟩=some (.bool false,σ):=by
 refine mw (by simp[Op.operands,gZ hx rfl];rfl) rfl ?_ rfl
 have e1:eqGuard .neq 110 x (.const .nilIface) .nilIface .nilIface=pure ():=by unfold eqGuard;simp
 have e2:binOp .neq 110 .nilIface .nilIface=(do pure (.bool (!(←Op.equal 110 .nilIface .nilIface)))):=rfl
 have e3:(Op.equal 110 .nilIface .nilIface).aJ PP=some true:=by
  have key:∀n,(Op.equalIn (n+1) 110 .nilIface .nilIface).aJ PP=some true:=fun n=>by simp[Op.equalIn,bP,lN AA,oZ]
  exact key 9999
 have e4:iH σ (.const .nilIface)= .nilIface:=rfl
 simp only[execOp,iS hx,e4,e1,e2,bP,oZ,Option.bind_some,e3]
 rfl
attribute [simp] aox
def Tn (ts:List a8) (h0:aa) (el ec:Int) (ks:Value) (br:Nat) (r0:Rd) (v:Value) (h':aa):Prop:=
 Ext h0 h'∧jo h0 h' (fe ts el ec (ts.length+1) 0 r0).1 el ec ks br∧match(fe ts el ec (ts.length+1) 0 r0).2 with
  |some e=>dp h' h'.n v (jv e.1 e.2)
  |none=>v= .nilIface∧mn (fe ts el ec (ts.length+1) 0 r0).1
def Sx (ts:List a8) (h0:aa) (el ec:Int) (ks:Value) (br:Nat) (tv:Value) (r0:Rd) (m:Nat) (σ:St):Prop:=∃(f a:Nat) (r:Rd),m=ts.length-a∧a≤ts.length∧ts.length<f+a∧fe ts el ec (ts.length+1) 0 r0=fe ts el ec f a r∧mn r∧
 Ext h0 σ.m.h∧jo h0 σ.m.h r el ec ks br∧σ.t.get 0=some (.pointer (some ⟨br,0,none⟩))∧σ.t.get 1=some tv∧σ.t.get 5=some (.int .i64 (a:Nat))
def Tv (H:aa) (br:Nat) (tv rv:Value) (nx:Nat) (bl bc:Int) (σ:St):Prop:=σ.m.h=H∧σ.t.get 0=some (.pointer (some ⟨br,0,none⟩))∧σ.t.get 1=some tv∧σ.t.get 6=some rv∧σ.t.get 7=some (.int .i64 (nx:Nat))∧σ.t.get 8=some (.pointer (some ⟨8,0,some 0⟩))∧σ.m.x.look 8=some (36,[.int .i64 bl,.int .i64 bc])
theorem afz (ts:List a8) (hl:ts.length≤1048577) (h0 h:aa) (el ec:Int) (ks:Value) (hks:bL ks=true) (br:Nat) (r0:Rd) (hr0:mn r0) (tv:Value) (ht:dV h0 tv ts) (E0:Ext h0 h) (R:jo h0 h r0 el ec ks br):
  ai PP 121 [.pointer (some ⟨br,0,none⟩),tv] h (Tn ts h0 el ec ks br r0):=by
 refine az mix aa7 Vf rfl (by show 2≤63;decide) aim ?_
 simp only[vo,Tryz.f121]
 obtain⟨ad,c,rfl,_⟩:=id ht
 obtain⟨n,hn⟩:∃n,n=ts.length:=⟨_,rfl⟩
 simp -implicitDefEqProofs[←hn]
 rw[hn]
 refine bD (Sx ts h0 el ec ks br (.slice ad ts.length c) r0) n ⟨ts.length+1,0,r0,by omega,by omega,by omega,rfl,hr0,E0,R,by simp,by simp,by simp⟩ ?_
 rintro m ⟨Tf,⟨x,H⟩⟩ ⟨f,a,r,rfl,ha,hf,hlr,hok,E1,R1,g0,g1,g5⟩
 simp at E1 R1 g0 g1 g5
 have htH:=ht.ext E1
 simp -implicitDefEqProofs[g0,g1,g5]
 refine bB (fun hc=>?_) (fun hc=>?_)<;>simp only[decide_eq_true_eq,decide_eq_false_iff_not]at hc
 ·have hal:a<ts.length:=by omega
  obtain⟨hrl,hkl⟩:=amP hal
  obtain⟨k,hk⟩:∃k,k=T.fN (ts.drop a):=⟨_,rfl⟩
  obtain⟨row,hrow⟩:∃row,row=rowAt ts a:=⟨_,rfl⟩
  obtain⟨nx,hnx⟩:∃nx,nx=mZ ts a:=⟨_,rfl⟩
  have hng:=agq hal
  have hrow2:(ts.take (a+k)).drop a=row:=by rw[hrow,hk];rfl
  have hnx2:(if a+k<ts.length then a+k+1 else ts.length)=nx:=by rw[hnx,hk];rfl
  rw[←hk,←hrow]at hrl
  rw[←hk]at hkl
  rw[←hnx]at hng
  obtain⟨os,op,ok,ss,sp,sk,bm,hbr,_⟩:=id R1
  simp -implicitDefEqProofs[g0,g1,g5,hc,hal]
  refine(T.oz _ ts a hal (by omega) H htH).mono ?_
  rintro v H2 ⟨e,s',hs',rfl⟩
  replace e:=e.symm
  subst e
  rw[←hk,hrow2]at hs'
  rw[←hk,hnx2]
  obtain⟨ad',c',rfl,_⟩:=id hs'
  rw[hrl]
  have w1:IntKind.wrap .i64 ((a:Int)+(k:Int))=((a+k:Nat):Int):=by rw[aA (by omega)];omega
  simp -implicitDefEqProofs[ae,g0,g1,g5,hbr]
  intro _
  obtain⟨bh,hbh⟩:∃bh,bh=iO ts el ec (a+k):=⟨_,rfl⟩
  refine sF (Tv H br (.slice ad ts.length c) (.slice ad' k c') nx bh.1 bh.2) ?_ ?_
  ·by_cases hak:a+k<ts.length
   ·obtain⟨t,htt⟩:∃t,t=ts[a+k]:=⟨_,rfl⟩
    have hget:ts[a+k]? =some t:=by rw[htt];exact List.getElem?_eq_getElem hak
    have hbh2:bh=(t.line,t.aj):=by rw[hbh,iO,hget]
    obtain⟨_,b',off',w',cells',r',q1,q2,q3,q4,q5⟩:=htH.at hget
    obtain⟨p0,p1,p4⟩:=nC q3
    have spt:=lP t H
    simp only[dv,cg]at spt
    subst q1
    have k0:(0:Int)≤(a:Int)+(k:Int):=by omega
    have hak':(a:Int)+(k:Int)<(ts.length:Int):=by omega
    have tn:((a:Int)+(k:Int)).toNat=a+k:=by omega
    simp -implicitDefEqProofs[w1,hak,hak',q2,p0,q4,k0,tn]
    refine spt.mono ?_
    rintro r1 H2 ⟨e,rfl⟩
    replace e:=e.symm
    subst e
    simp -implicitDefEqProofs[ae,cE]
    intro _
    exact⟨rfl,by simp,by simp,by simp,by simp,by simp,by simp[hbh2]⟩
   ·have hbh2:bh=(el,ec):=by rw[hbh,iO,List.getElem?_eq_none (by omega)]
    have hak':¬(a:Int)+(k:Int)<(ts.length:Int):=by omega
    simp -implicitDefEqProofs[w1,hak,hak']
    exact⟨rfl,by simp,by simp,by simp,by simp,by simp,by simp[hbh2]⟩
  ·clear g0 g1 g5
   rintro⟨Tg,⟨y,H2⟩⟩ ⟨e,g0,g1,g6,g7,g8,x8⟩
   replace e:H=H2:=e.symm
   subst e
   simp at g0 g1 g6 g7 g8 x8
   obtain⟨f',rfl⟩:∃f',f=f'+1:=⟨f-1,by omega⟩
   cases row with
   |nil=>
    have hk0:k=0:=by simpa using hrl.symm
    subst hk0
    have hstep:=hlr.trans (zE hal hrow.symm)
    rw[←hnx]at hstep
    simp -implicitDefEqProofs[g0,g1,g6,g7,g8,x8]
    exact⟨ts.length-nx,by omega,f',nx,r,rfl,hng.2,by omega,hstep,hok,E1,R1,by simp,by simp,by simp⟩
   |cons t0 rest=>
    have hk1:k=rest.length+1:=by simpa using hrl.symm
    have hkne:¬(k:Int)=0:=by omega
    have hstep:=hlr.trans (zD hal hrow.symm)
    rw[←hnx]at hstep
    simp only[←hk1,←hbh]at hstep
    have hkne':¬k=0:=by omega
    have hs2:=hs'
    rw[hrl]at hs2
    have fP:=agI (.slice ad' k c') t0 rest bh.1 bh.2 (by omega) H hs2
    simp only[cE]at fP
    simp -implicitDefEqProofs[g0,g1,g6,g7,g8,x8,hkne,hkne']
    refine fP.mono ?_
    rintro v H3 ⟨E3,hN⟩
    have R3:=R1.ext E3
    have E13:=E1.trans E3
    cases hle:fc (t0::rest) bh.1 bh.2 with
    |some e=>
     rw[hle]at hN hstep
     obtain⟨E,rfl,hE⟩:=hN
     obtain⟨be,rfl⟩:=iv (h:=H) (a:=e.1) (b:=e.2) ⟨E3,hE⟩
     simp -implicitDefEqProofs[ae,g0,g1,g6,g7,g8,x8]
     intro _
     refine⟨E13,by rw[hstep];exact R3,?_⟩
     rw[hstep]
     exact hE
    |none=>
     rw[hle]at hN hstep
     obtain⟨s3,rfl,hO3⟩:=hN
     obtain⟨bs,bq,bC⟩:=Oo hle
     have hO4:=alu (h0:=h0) hO3 E1.n
     obtain⟨ad3,rfl,_⟩:=id hO3
     have hadd:=TG h0 H3 r t0 rest bs bq bC el ec ks hks br _ _ E13 R3 hok.small (hs2.ext E3) hO4
     simp -implicitDefEqProofs[ae,g0,g1,g6,g7,g8,x8]
     intro _
     simp only[List.tail_cons,List.length_map]at hadd
     refine hadd.mono ?_
     rintro v H4 ⟨rfl,E4,R4,K4⟩
     cases hok2:(cF r t0 rest).2 with
     |true=>
      rw[hok2,if_pos rfl]at hstep
      simp -implicitDefEqProofs[ae,g0,g1,g6,g7,g8,x8]
      intro _
      exact⟨ts.length-nx,by omega,f',nx,(cF r t0 rest).1,rfl,hng.2,by omega,hstep,Ba hok hok2,E4,R4,by simp,by simp,by simp⟩
     |false=>
      rw[hok2,if_neg (by decide)]at hstep
      simp -implicitDefEqProofs[ae,g0,g1,g6,g7,g8,x8]
      intro hN4
      have hs4:dV H4 (.slice ad' k c') (t0::rest):=apL (hs2.ext E3) K4 hN4.2.2
      have spt:=lP t0 H4
      simp only[dv,cg]at spt
      obtain⟨_,b',off',w',cells',r',q1,q2,q3,q4,q5⟩:=hs4.at (i:=0) (t:=t0) rfl
      simp only[Nat.zero_mul,Nat.add_zero]at q3 q4
      obtain⟨p0,p1,p4⟩:=nC q3
      subst q1
      have hk0:0<k:=by omega
      simp -implicitDefEqProofs[g0,g1,g6,g7,g8,x8,q2,p0,q4,hk0]
      refine spt.mono ?_
      rintro r1 H5 ⟨e,rfl⟩
      replace e:=e.symm
      subst e
      simp -implicitDefEqProofs[ae]
      intro _
      refine(jM t0.line t0.aj H4).mono ?_
      intro E H5 hE
      obtain⟨be,rfl⟩:=iv hE
      simp -implicitDefEqProofs[ae]
      intro _
      refine⟨E4.trans hE.1,by rw[hstep];exact R4.ext hE.1,?_⟩
      rw[hstep]
      exact hE.2
 ·have hal:a=ts.length:=by omega
  have hstep:fe ts el ec f a r=(r,none):=by
   cases f with
   |zero=>rfl
   |succ f=>rw[fe,if_neg (by omega)]
  rw[hstep]at hlr
  simp -implicitDefEqProofs[g0,g1,g5]
  refine⟨E1,by rw[hlr];exact R1,?_⟩
  rw[hlr]
  exact⟨rfl,hok⟩
end Go.Proofs.Ybk
namespace Go.Proofs.Ybk
open Go Go.Am
set_option maxHeartbeats 4000000
open T (a8 cg dv cE dV)
open V (aq aP ah al aQ ab aB aZ)
open F (FR dp bQ)
def iV (x:Int):List Int→Nat→Int
 |[],_=>-1
 |a::r,i=>if x=a then(i:Int)else iV x r (i+1)
def Tj (s:Value) (l:List Int) (x:Int) (h:aa) (m n:Nat) (σ:St):Prop:=∃i:Nat,n=m-i∧i≤m∧σ.m.h=h∧σ.t.get 0=some s∧σ.t.get 1=some (.int .i64 x)∧σ.t.get 7=some (.int .i64 (m:Nat))∧σ.t.get 8=some (.int .i64 (i:Nat))∧iV x l 0=iV x (l.drop i) i
theorem aeE (s:Value) (l:List Int) (x:Int) (hl:l.length≤1073741824) (h:aa) (hs:aZ h s l):ai PP 218 [s,.int .i64 x] h (fun v h'=>h'=h∧v= .int .i64 (iV x l 0)):=by
 refine az mix Kv By rfl (by show 2≤19;decide) Pc ?_
 simp only[sA,Tryz.f218]
 obtain⟨ad,c,rfl⟩:=hs.shape
 obtain⟨m,hm⟩:∃m,m=l.length:=⟨_,rfl⟩
 rw[←hm]at hs ⊢
 simp -implicitDefEqProofs
 refine bD (Tj (.slice ad m c) l x h m) _ ⟨0,rfl,by omega,rfl,by simp,by simp,by simp,by simp,rfl⟩ ?_
 rintro n ⟨T,⟨y,H⟩⟩ ⟨i,rfl,hi,hH,g0,g1,g7,g8,hq⟩
 simp at hH g0 g1 g7 g8
 subst hH
 simp -implicitDefEqProofs[g0,g1,g7,g8]
 refine bB (fun hc=>?_) (fun hc=>?_)<;>simp only[decide_eq_true_eq,decide_eq_false_iff_not]at hc
 ·have hil:i<m:=by omega
  have hti:l[i]? =some l[i]:=List.getElem?_eq_getElem (by omega)
  obtain⟨_,b,o,wb,cs,r,rfl,hb,hd,hlc,_⟩:=hs.at 1 V.cY hti
  obtain⟨t,ht⟩:∃t,t=l[i]:=⟨_,rfl⟩
  rw[←ht]at hd hti
  have w1:IntKind.wrap .i64 ((i:Int)+1)=((i+1:Nat):Int):=by rw[aA (by omega)];omega
  have hlc':o+i+1≤cs.length:=by omega
  have hdr:l.drop i=t::l.drop (i+1):=by rw[ht];exact List.drop_eq_getElem_cons (by omega)
  rw[Nat.mul_one]at hd
  by_cases h1:x=t
  ·have hp:iV x l 0=(i:Int):=by rw[hq,hdr,iV,if_pos h1]
   simp -implicitDefEqProofs[g0,g1,g7,g8,hil,hb,hd,hlc',ab,h1]
   rw[←h1,hp]
  ·have hp:iV x l 0=iV x (l.drop (i+1)) (i+1):=by rw[hq,hdr,iV,if_neg h1]
   simp -implicitDefEqProofs[g0,g1,g7,g8,hil,hb,hd,hlc',ab,h1,w1]
   exact⟨m-(i+1),by omega,i+1,rfl,by omega,rfl,by simp[g0],by simp[g1],by simp[g7],by simp,hp⟩
 ·have hp:iV x l 0= -1:=by rw[hq,List.drop_of_length_le (by omega)];rfl
  simp -implicitDefEqProofs[g0,g1,g7,g8,hp]
theorem aeu (x:Int) (l:List Int) (i:Nat):0≤iV x l i↔x∈l:=by
 induction l generalizing i with
 |nil=>simp[iV]
 |cons a r ih=>
  rw[iV]
  split
  ·rename_i h;simp[h]
  ·rename_i h;rw[ih,List.mem_cons];simp[h]
theorem Zu (s:Value) (l:List Int) (x:Int) (hl:l.length≤1073741824) (h:aa) (hs:aZ h s l):ai PP 162 [s,.int .i64 x] h (fun v h'=>h'=h∧v= .bool (decide (x∈l))):=by
 refine az mix Ks Bv rfl (by show 2≤9;decide) O9 ?_
 simp only[sw,Tryz.f162]
 obtain⟨ad,c,rfl⟩:=hs.shape
 simp -implicitDefEqProofs
 refine(aeE _ l x hl h hs).mono ?_
 rintro v h' ⟨rfl,rfl⟩
 have e:decide (x∈l)=decide (0≤iV x l 0):=by rw[decide_eq_decide,aeu]
 simp -implicitDefEqProofs[ae,e]
def iw (af:List aq):List jl→List Int→List Int×Option (Int×Int)
 |[],acc=>(acc,none)
 |k::r,acc=>match iA af k.row k.x with
  |none=>(acc,some (k.ns,k.nm))
  |some n=>if(n:Int)∈acc then(acc,some (k.line,k.aj))else iw af r (acc++[(n:Int)])
def gq (r:Rd) (el ec:Int):List Int×Option (Int×Int):=if r.af=[]∨r.aV=0 then([],some (el,ec))else iw r.af r.aD []
theorem zt {af:List aq} {k:jl} {r:List jl} {acc:List Int} (h:iA af k.row k.x=none):iw af (k::r) acc=(acc,some (k.ns,k.nm)):=by rw[iw,h]
theorem zu {af:List aq} {k:jl} {r:List jl} {acc:List Int} {n:Nat} (h:iA af k.row k.x=some n) (hm:(n:Int)∈acc):iw af (k::r) acc=(acc,some (k.line,k.aj)):=by rw[iw,h];simp only;rw[if_pos hm]
theorem zr {af:List aq} {k:jl} {r:List jl} {acc:List Int} {n:Nat} (h:iA af k.row k.x=some n) (hm:(n:Int)∉acc):iw af (k::r) acc=iw af r (acc++[(n:Int)]):=by rw[iw,h];simp only;rw[if_neg hm]
def sf (h0 h:aa) (r:Rd) (el ec:Int) (ks:List Int) (br:Nat):Prop:=∃(o:Option Nat) (kv:Value),F.bz 3 ab h0 h o ks kv∧jo h0 h r el ec kv br
def A9 (h0:aa) (r:Rd) (el ec:Int) (br:Nat) (v:Value) (h':aa):Prop:=Ext h0 h'∧match(gq r el ec).2 with
 |some e=>dp h' h'.n v (jv e.1 e.2)
 |none=>v= .nilIface∧sf h0 h' r el ec (gq r el ec).1 br
def Sy (h0:aa) (r:Rd) (el ec:Int) (br:Nat) (sk:Value) (n:Nat) (m:Nat) (σ:St):Prop:=∃(i:Nat) (ks:List Int),m=n-i∧i≤n∧ks.length≤i∧Ext h0 σ.m.h∧sf h0 σ.m.h r el ec ks br∧gq r el ec=iw r.af (r.aD.drop i) ks∧
 σ.t.get 0=some (.pointer (some ⟨br,0,none⟩))∧σ.t.get 30=some sk∧σ.t.get 31=some (.int .i64 (n:Nat))∧σ.t.get 32=some (.int .i64 (i:Nat))∧(∃ok,F.bz 230 iX h0 σ.m.h ok r.aD sk)
theorem aqF (h0 h:aa) (r:Rd) (el ec:Int) (br:Nat) (E0:Ext h0 h) (R:sf h0 h r el ec [] br) (hok:mn r):ai PP 122 [.pointer (some ⟨br,0,none⟩)] h (A9 h0 r el ec br):=by
 refine az mix aa8 Vg rfl (by show 1≤76;decide) ain ?_
 simp only[vp,Tryz.f122]
 obtain⟨o3,kv,hk3,os,op,ok,ss,sp,sk,bm,hbr,hbr1,hbr2,hos,hop,hokk,hbm,hbm1,hbm2⟩:=id R
 obtain⟨rfl,_⟩:=id hos
 obtain⟨rfl,_⟩:=id hokk
 obtain⟨rfl,_⟩:=id hk3
 obtain⟨n,hn⟩:∃n,n=r.aD.length:=⟨_,rfl⟩
 have bad:(r.af=[]∨r.aV=0)→∀E H2,r9 h (jv el ec) E H2→A9 h0 r el ec br E H2:=fun hb E H2 ⟨q1,q2⟩=>by
  have hw:gq r el ec=([],some (el,ec)):=by rw[gq,if_pos hb]
  refine⟨E0.trans q1,?_⟩
  rw[hw]
  exact q2
 by_cases hb:r.af=[]∨r.aV=0
 ·have wr:=jM el ec h
  simp only[cE]at wr
  by_cases h1:r.af=[]
  ·have hsl:r.af.length=0:=by rw[h1];rfl
   simp -implicitDefEqProofs[hbr,hsl,h1]
   refine wr.mono ?_
   intro E H2 hE
   obtain⟨be,rfl⟩:=iv hE
   simp -implicitDefEqProofs[ae]
   intro _
   exact bad hb _ H2 hE
  ·have h2:r.aV=0:=hb.resolve_left h1
   simp -implicitDefEqProofs[hbr,h1,h2]
   refine wr.mono ?_
   intro E H2 hE
   obtain⟨be,rfl⟩:=iv hE
   simp -implicitDefEqProofs[ae]
   intro _
   exact bad hb _ H2 hE
 ·have bq:¬r.af=[]:=fun q=>hb (.inl q)
  have bC:¬r.aV=0:=fun q=>hb (.inr q)
  have hw:gq r el ec=iw r.af (r.aD.drop 0) []:=by rw[gq,if_neg hb];rfl
  obtain⟨adk,hadk⟩:∃a:Option Addr,a=ok.map fun b=>⟨b,0,none⟩:=⟨_,rfl⟩
  rw[←hadk]at hbr hokk
  simp -implicitDefEqProofs[hbr,bq,bC,←hn]
  refine bD (Sy h0 r el ec br (.slice adk n n) n) n ⟨0,[],by omega,by omega,by simp,E0,R,hw,by simp,by simp,by simp,by simp,ok,by rw[hn];exact hokk⟩ ?_
  clear hbr hbr2 hos hop hokk hbm hbm2 hk3 R
  rintro m ⟨T,⟨x,H⟩⟩ ⟨i,ks,rfl,hi,hkl,E1,R1,hw1,g0,g30,g31,g32,ok',hok'⟩
  simp at E1 R1 g0 g30 g31 g32 hok'
  have R1':=R1
  obtain⟨o3,kv,hk3,os,op,ok,ss,sp,sk,bm,hbr,hbr1,hbr2,hos,hop,hokk,hbm,hbm1,hbm2⟩:=R1
  simp -implicitDefEqProofs[g0,g30,g31,g32]
  refine bB (fun hc=>?_) (fun hc=>?_)<;>simp only[decide_eq_true_eq,decide_eq_false_iff_not]at hc
  ·have hin:i<n:=by omega
   have hti:r.aD[i]? =some r.aD[i]:=List.getElem?_eq_getElem (by omega)
   obtain⟨k,hk⟩:∃k,k=r.aD[i]:=⟨_,rfl⟩
   rw[←hk]at hti
   have hdr:r.aD.drop i=k::r.aD.drop (i+1):=by rw[hk];exact List.drop_eq_getElem_cons (by omega)
   obtain⟨_,bk,off,wk,cells,r',rfl,hbk,hdk,hlk,_⟩:=hok'.own.sl.at 6 (fun _=>rfl) hti
   simp only[iX,List.cons_append,List.nil_append]at hdk
   have w1:IntKind.wrap .i64 ((i:Int)+1)=((i+1:Nat):Int):=by have:=hok.2.1;rw[aA (by omega)];omega
   have f1:=Kh k.row k.x r.af
   simp only[jZ]at f1
   have hkl2:ks.length≤200:=by have:=hok.2.1;omega
   cases hp:iA r.af k.row k.x with
   |none=>
    have hw2:gq r el ec=(ks,some (k.ns,k.nm)):=by rw[hw1,hdr,zt hp]
    rw[hp]at f1
    simp -implicitDefEqProofs[g0,g30,g31,g32,hin,hbk,hdk,hlk,hbr,lH,hbm,f1,bM,cA]
    have wr:=jM k.ns k.nm H
    simp only[cE]at wr
    refine wr.mono ?_
    intro E H2 hE
    obtain⟨be,rfl⟩:=iv hE
    simp -implicitDefEqProofs[ae]
    intro _
    refine⟨E1.trans hE.1,?_⟩
    rw[hw2]
    exact hE.2
   |some q=>
    rw[hp]at f1
    have hcon:=Zu kv ks (q:Nat) (by omega) H hk3.own.sl
    obtain⟨rfl,hko⟩:=id hk3
    simp -implicitDefEqProofs[g0,g30,g31,g32,hin,hbk,hdk,hlk,hbr,lH,hbm,f1,bM,cA]
    refine hcon.mono ?_
    rintro v H2 ⟨e,rfl⟩
    replace e:=e.symm
    subst e
    by_cases hm:((q:Nat):Int)∈ks
    ·have hw2:gq r el ec=(ks,some (k.line,k.aj)):=by rw[hw1,hdr,zu hp hm]
     have wr:=jM k.line k.aj H
     simp only[cE]at wr
     simp -implicitDefEqProofs[ae,hm]
     intro _
     refine wr.mono ?_
     intro E H2 hE
     obtain⟨be,rfl⟩:=iv hE
     simp -implicitDefEqProofs[ae]
     intro _
     refine⟨E1.trans hE.1,?_⟩
     rw[hw2]
     exact hE.2
    ·have hw2:gq r el ec=iw r.af (r.aD.drop (i+1)) (ks++[(q:Int)]):=by rw[hw1,hdr,zr hp hm]
     have hr1:List.range 1=[0]:=rfl
     have mkK:∀cells,cells=ks.flatMap ab++ab (q:Int)→(fun G=>Ext h0 G∧sf h0 G r el ec (ks++[(q:Int)]) br∧∃ok,F.bz 230 iX h0 G ok r.aD (.slice (some ⟨bk,off,none⟩) n n)) ((fq H o3 (.row true 3 (ab (q:Int))) (.row true 3 cells)).set br
       (.row true 170 [ss,.int .i64 r.aV,.int .i64 r.bg,.slice (some ⟨H.n+1,0,none⟩) (ks.length+1) (ks.length+1),sp,.int .i64 el,.int .i64 ec,.map (some bm),sk,.bool r.dX])):=by
      intro cells hc
      refine⟨sO E1 (tC hk3) _ _ hbr1 _,⟨some (H.n+1),_,tD hk3 E1.n _ _ hc hbr2 _,os,op,ok,ss,sp,sk,bm,by rw[eT,if_pos rfl],hbr1,?_,lJ hos _ _ _ (lK hos hk3 (by decide)) (ja hos hbr (by decide)),lJ hop _ _ _ (lK hop hk3 (by decide)) (ja hop hbr (by decide)),lJ hokk _ _ _ (lK hokk hk3 (by decide)) (ja hokk hbr (by decide)),tj _ _ _ hbm hbm2 (oW hk3 hbm) (by rintro rfl;rw[hbr]at hbm;cases hbm),hbm1,?_⟩,ok',lJ hok' _ _ _ (lK hok' hk3 (by decide)) (ja hok' hbr (by decide))⟩
      ·show br<(fq H o3 _ _).n;rw[mc];omega
      ·show bm<(fq H o3 _ _).n;rw[mc];omega
     have o2:¬br=H.n:=by omega
     have o3':¬br=H.n+1:=by omega
     cases o3 with
     |none=>
      simp only at hko
      subst hko
      obtain⟨k1,k2,k3⟩:=mkK (ab (q:Int)) rfl
      simp -implicitDefEqProofs[ae,g0,g30,g31,g32,hbr,aI,hr1,cB,cQ,cH,o2,o3',w1]
      intro _
      exact⟨n-(i+1),by omega,i+1,[(q:Int)],rfl,by omega,by simp,k1,k2,hw2,by simp,by simp,by simp,by simp,k3⟩
     |some b3=>
      simp only at hko
      obtain⟨hk1,hk2,hk3'⟩:=hko
      obtain⟨K,hK⟩:∃K,K=ks.flatMap ab:=⟨_,rfl⟩
      have hKl:K.length=ks.length:=by have:=dA 1 (enc:=ab) (fun _=>rfl) ks;rw[←hK]at this;omega
      rw[←hK]at hk1
      have hmx:(ks.length+1)*8≤140737488355328:=by omega
      have o1:¬b3=H.n:=by omega
      have o4:¬br=b3:=by rintro rfl;rw[hbr]at hk1;simp at hk1
      have e8:K.take ks.length=K:=List.take_of_length_le (by omega)
      obtain⟨k1,k2,k3⟩:=mkK (K++ab (q:Int)) (by rw[hK])
      simp -implicitDefEqProofs[ae,hm,g0,g30,g31,g32,hbr,aI,hr1,cB,cQ,cH,hk1,hKl,hmx,o1,o2,o3',o4,e8,w1]
      intro _
      exact⟨n-(i+1),by omega,i+1,ks++[(q:Int)],rfl,by omega,by simp;omega,k1,k2,hw2,by simp,by simp,by simp,by simp,k3⟩
  ·have hin:i=n:=by omega
   have hw2:gq r el ec=(ks,none):=by rw[hw1,List.drop_of_length_le (by omega)];rfl
   simp -implicitDefEqProofs[g0,g30,g31,g32]
   refine⟨E1,?_⟩
   rw[hw2]
   exact⟨rfl,R1'⟩
theorem mu (n lo hi:Int) (h:aa):ai PP 181 [.int .i64 n,.int .i64 lo,.int .i64 hi] h (fun v h'=>h'=h∧v= .bool (aB n lo hi)):=by
 refine az mix Ku Bx rfl (by show 3≤15;decide) Pb ?_
 simp only[sy,Tryz.f181]
 unfold aB
 by_cases h1:lo≤n
 ·simp -implicitDefEqProofs[h1]
 ·simp -implicitDefEqProofs[h1]
theorem rL (n:Int) (h:aa):ai PP 229 [.int .i64 n] h (fun v h'=>h'=h∧v= .bool (aB n (-1048576) 1048576)):=by
 refine az mix Kw Bz rfl (by show 1≤5;decide) Pd ?_
 simp only[sB,Tryz.f229]
 simp -implicitDefEqProofs
 refine(mu n (-1048576) 1048576 h).mono ?_
 rintro v h' ⟨rfl,rfl⟩
 simp -implicitDefEqProofs[ae]
def Qb (p:Int×Int):List Value:=[.int .i64 p.1,.int .i64 p.2]
def Ap (a b:Option Nat):Prop:=∀n,a=some n→b≠some n
def gN (g:Int):Int:=if 0<g then 1 else 0
def rN (b:Bool):Int:=if b then 1 else 0
structure aq0 (h0 h:aa) (r:Rd) (ks:List Int) (br:Nat) (os op ok o1 o2 o3 o4:Option Nat) (ss sp sk s1 s2 s3 s4:Value):Prop where
 row:h.f br= .row true 188 [ss,.int .i64 r.aV,.int .i64 r.bg,sk,sp,.int .i64 (gN r.aV),.int .i64 (rN r.dX),s1,s2,s3,s4]
 lo:h0.n≤br
 hi:br<h.n
 af:F.bz 99 al h0 h os r.af ss
 aE:F.bz 103 aQ h0 h op r.aE sp
 aD:F.bz 3 ab h0 h ok ks sk
 rows:F.bz 3 ab h0 h o1 (r.aD.map (·.row)) s1
 xs:F.bz 3 ab h0 h o2 (r.aD.map (·.x)) s2
 words:F.bz 36 Qb h0 h o3 (r.aD.map fun k=>(k.line,k.aj)) s3
 aq7:F.bz 36 Qb h0 h o4 (r.aD.map fun k=>(k.ns,k.nm)) s4
 aq2:Ap ok o1
 Us:Ap ok o2
 a12:Ap o1 o2
 aq1:Ap o3 o4
 nil:r.aD=[]→o1=none∧o2=none∧o3=none∧o4=none
structure fa (h G:aa) (br:Nat) (p1 p2:Option Nat) (e:TypeId) (X1 X2:List Value) (y1 y2:Nat):Prop where
 aq9:h.n≤y1
 ara:h.n≤y2
 ne:y1≠y2
 eJ:y1<G.n
 oe:y2<G.n
 n:h.n≤G.n
 g:G.g=h.g
 same:∀x,x<h.n→x≠br→p1≠some x→p2≠some x→G.f x=h.f x
 r1:G.f y1= .row true e X1
 r2:G.f y2= .row true e X2
theorem fa.ext {h0 h G:aa} {br:Nat} {p1 p2:Option Nat} {e:TypeId} {X1 X2:List Value} {y1 y2:Nat} (T:fa h G br p1 p2 e X1 X2 y1 y2) (E:Ext h0 h) (hb:h0.n≤br) (h1:∀b,p1=some b→h0.n≤b) (h2:∀b,p2=some b→h0.n≤b):Ext h0 G:=
 ⟨T.g.trans E.g,Nat.le_trans E.n T.n,fun b hlt=>by
  rw[T.same b (Nat.lt_of_lt_of_le hlt E.n) (by omega) (fun q=>by have:=h1 b q;omega) (fun q=>by have:=h2 b q;omega),E.f b hlt]⟩
end Go.Proofs.Ybk
namespace Go.Proofs
open Go.Shelf Go.RowKit Go.Lib Go.Sort
def Tryz.anO:Go.Shelf.Ren:=⟨fun|6=>163|15=>220|14=>219|28=>266|29=>267|20=>258|21=>259|22=>260|23=>261|24=>262|25=>263|26=>264|27=>265|46=>297|47=>298|48=>299|49=>300|50=>301|57=>313|n=>n,fun|22=>60|24=>99|25=>234|3=>3|39=>50|0=>0|53=>348|55=>184|4=>4|46=>342|45=>341|50=>205|5=>5|9=>9|66=>368|70=>372|76=>381|77=>382|n=>n,fun|n=>n⟩
theorem Tryz.anN:SlLaysF0.n6 Tryz.prog Tryz.anO:={
 mixed:=by kernel_rfl,
 f6:=⟨Tryz.f163.name,by decide,Tryz.func163.trans (congrArg some (by kernel_rfl))⟩,
 f14:=⟨Tryz.f219.name,by decide,Tryz.func219.trans (congrArg some (by kernel_rfl))⟩,
 f15:=Tryz.func220.trans (congrArg some (by kernel_rfl)),
 f20:=⟨Tryz.f258.name,by decide,Tryz.func258.trans (congrArg some (by kernel_rfl))⟩,
 f21:=⟨Tryz.f259.name,by decide,Tryz.func259.trans (congrArg some (by kernel_rfl))⟩,
 f22:=⟨Tryz.f260.name,by decide,Tryz.func260.trans (congrArg some (by kernel_rfl))⟩,
 f23:=⟨Tryz.f261.name,by decide,Tryz.func261.trans (congrArg some (by kernel_rfl))⟩,
 f24:=⟨Tryz.f262.name,by decide,Tryz.func262.trans (congrArg some (by kernel_rfl))⟩,
 f25:=⟨Tryz.f263.name,by decide,Tryz.func263.trans (congrArg some (by kernel_rfl))⟩,
 f26:=⟨Tryz.f264.name,by decide,Tryz.func264.trans (congrArg some (by kernel_rfl))⟩,
 f27:=⟨Tryz.f265.name,by decide,Tryz.func265.trans (congrArg some (by kernel_rfl))⟩,
 f28:=Tryz.func266.trans (congrArg some (by kernel_rfl)),
 f29:=Tryz.func267.trans (congrArg some (by kernel_rfl)),
 f46:=⟨Tryz.f297.name,by decide,Tryz.func297.trans (congrArg some (by kernel_rfl))⟩,
 f47:=Tryz.func298.trans (congrArg some (by kernel_rfl)),
 f48:=Tryz.func299.trans (congrArg some (by kernel_rfl)),
 f49:=⟨Tryz.f300.name,by decide,Tryz.func300.trans (congrArg some (by kernel_rfl))⟩,
 f50:=⟨Tryz.f301.name,by decide,Tryz.func301.trans (congrArg some (by kernel_rfl))⟩,
 f57:=⟨Tryz.f313.name,by decide,Tryz.func313.trans (congrArg some (by kernel_rfl))⟩,
 t0:=Tryz.underlying0,
 a0:=Tryz.isAgg0,
 z0:=Tryz.sizeOf0,
 v0:=Tryz.zeroValue0,
 t3:=Tryz.underlying3,
 a3:=Tryz.isAgg3,
 z3:=Tryz.sizeOf3,
 v3:=Tryz.zeroValue3,
 t4:=Tryz.underlying4,
 a4:=Tryz.isAgg4,
 z4:=Tryz.sizeOf4,
 v4:=Tryz.zeroValue4,
 t5:=Tryz.underlying5,
 a5:=Tryz.isAgg5,
 z5:=Tryz.sizeOf5,
 v5:=Tryz.zeroValue5,
 t9:=Tryz.underlying9,
 a9:=Tryz.isAgg9,
 z9:=Tryz.sizeOf9,
 v9:=Tryz.zeroValue9,
 t22:=Tryz.underlying60,
 a22:=Tryz.isAgg60,
 z22:=Tryz.sizeOf60,
 v22:=Tryz.zeroValue60,
 t25:=Tryz.underlying234,
 a25:=Tryz.isAgg234,
 z25:=Tryz.sizeOf234,
 v25:=Tryz.zeroValue234,
 t39:=Tryz.underlying50,
 a39:=Tryz.isAgg50,
 z39:=Tryz.sizeOf50,
 v39:=Tryz.zeroValue50,
 t45:=Tryz.underlying341,
 a45:=Tryz.isAgg341,
 z45:=Tryz.sizeOf341,
 v45:=Tryz.zeroValue341,
 t46:=Tryz.underlying342,
 a46:=Tryz.isAgg342,
 z46:=Tryz.sizeOf342,
 v46:=Tryz.zeroValue342,
 t50:=Tryz.underlying205,
 a50:=Tryz.isAgg205,
 z50:=Tryz.sizeOf205,
 v50:=Tryz.zeroValue205,
 t53:=Tryz.underlying348,
 a53:=Tryz.isAgg348,
 z53:=Tryz.sizeOf348,
 v53:=Tryz.zeroValue348,
 t55:=Tryz.underlying184,
 a55:=Tryz.isAgg184,
 z55:=Tryz.sizeOf184,
 v55:=Tryz.zeroValue184,
 t66:=Tryz.underlying368,
 a66:=Tryz.isAgg368,
 z66:=Tryz.sizeOf368,
 v66:=Tryz.zeroValue368,
 t70:=Tryz.underlying372,
 a70:=Tryz.isAgg372,
 z70:=Tryz.sizeOf372,
 v70:=Tryz.zeroValue372,
 t76:=Tryz.underlying381,
 a76:=Tryz.isAgg381,
 z76:=Tryz.sizeOf381,
 v76:=Tryz.zeroValue381,
 t77:=Tryz.underlying382,
 a77:=Tryz.isAgg382,
 z77:=Tryz.sizeOf382,
 v77:=Tryz.zeroValue382}
def Tryz.anM:Go.Shelf.Ren:=⟨fun|189=>168|125=>220|257=>221|128=>266|129=>267|294=>268|295=>269|296=>270|297=>271|298=>272|299=>273|216=>274|300=>275|301=>276|328=>302|329=>298|330=>299|331=>303|332=>304|215=>305|343=>314|n=>n,fun|28=>22|3=>3|46=>50|0=>0|51=>348|53=>184|4=>4|183=>342|182=>341|131=>205|5=>5|9=>9|218=>368|222=>372|228=>381|229=>382|n=>n,fun|n=>n⟩
theorem Tryz.anL:Lays.n189 Tryz.prog Tryz.anM:={
 mixed:=by kernel_rfl,
 f125:=Tryz.func220.trans (congrArg some (by kernel_rfl)),
 f128:=Tryz.func266.trans (congrArg some (by kernel_rfl)),
 f129:=Tryz.func267.trans (congrArg some (by kernel_rfl)),
 f189:=Tryz.func168.trans (congrArg some (by kernel_rfl)),
 f215:=Tryz.func305.trans (congrArg some (by kernel_rfl)),
 f216:=Tryz.func274.trans (congrArg some (by kernel_rfl)),
 f257:=Tryz.func221.trans (congrArg some (by kernel_rfl)),
 f294:=Tryz.func268.trans (congrArg some (by kernel_rfl)),
 f295:=Tryz.func269.trans (congrArg some (by kernel_rfl)),
 f296:=Tryz.func270.trans (congrArg some (by kernel_rfl)),
 f297:=Tryz.func271.trans (congrArg some (by kernel_rfl)),
 f298:=Tryz.func272.trans (congrArg some (by kernel_rfl)),
 f299:=Tryz.func273.trans (congrArg some (by kernel_rfl)),
 f300:=Tryz.func275.trans (congrArg some (by kernel_rfl)),
 f301:=Tryz.func276.trans (congrArg some (by kernel_rfl)),
 f328:=Tryz.func302.trans (congrArg some (by kernel_rfl)),
 f329:=Tryz.func298.trans (congrArg some (by kernel_rfl)),
 f330:=Tryz.func299.trans (congrArg some (by kernel_rfl)),
 f331:=Tryz.func303.trans (congrArg some (by kernel_rfl)),
 f332:=Tryz.func304.trans (congrArg some (by kernel_rfl)),
 f343:=Tryz.func314.trans (congrArg some (by kernel_rfl)),
 t0:=Tryz.underlying0,
 a0:=Tryz.isAgg0,
 z0:=Tryz.sizeOf0,
 v0:=Tryz.zeroValue0,
 t3:=Tryz.underlying3,
 a3:=Tryz.isAgg3,
 z3:=Tryz.sizeOf3,
 v3:=Tryz.zeroValue3,
 t4:=Tryz.underlying4,
 a4:=Tryz.isAgg4,
 z4:=Tryz.sizeOf4,
 v4:=Tryz.zeroValue4,
 t5:=Tryz.underlying5,
 a5:=Tryz.isAgg5,
 z5:=Tryz.sizeOf5,
 v5:=Tryz.zeroValue5,
 t9:=Tryz.underlying9,
 a9:=Tryz.isAgg9,
 z9:=Tryz.sizeOf9,
 v9:=Tryz.zeroValue9,
 t28:=Tryz.underlying22,
 a28:=Tryz.isAgg22,
 z28:=Tryz.sizeOf22,
 v28:=Tryz.zeroValue22,
 t46:=Tryz.underlying50,
 a46:=Tryz.isAgg50,
 z46:=Tryz.sizeOf50,
 v46:=Tryz.zeroValue50,
 t51:=Tryz.underlying348,
 a51:=Tryz.isAgg348,
 z51:=Tryz.sizeOf348,
 v51:=Tryz.zeroValue348,
 t53:=Tryz.underlying184,
 a53:=Tryz.isAgg184,
 z53:=Tryz.sizeOf184,
 v53:=Tryz.zeroValue184,
 t131:=Tryz.underlying205,
 a131:=Tryz.isAgg205,
 z131:=Tryz.sizeOf205,
 v131:=Tryz.zeroValue205,
 t182:=Tryz.underlying341,
 a182:=Tryz.isAgg341,
 z182:=Tryz.sizeOf341,
 v182:=Tryz.zeroValue341,
 t183:=Tryz.underlying342,
 a183:=Tryz.isAgg342,
 z183:=Tryz.sizeOf342,
 v183:=Tryz.zeroValue342,
 t218:=Tryz.underlying368,
 a218:=Tryz.isAgg368,
 z218:=Tryz.sizeOf368,
 v218:=Tryz.zeroValue368,
 t222:=Tryz.underlying372,
 a222:=Tryz.isAgg372,
 z222:=Tryz.sizeOf372,
 v222:=Tryz.zeroValue372,
 t228:=Tryz.underlying381,
 a228:=Tryz.isAgg381,
 z228:=Tryz.sizeOf381,
 v228:=Tryz.zeroValue381,
 t229:=Tryz.underlying382,
 a229:=Tryz.isAgg382,
 z229:=Tryz.sizeOf382,
 v229:=Tryz.zeroValue382}
end Go.Proofs
namespace Go.Proofs.Ybk.V
open Go Go.Am
theorem gu:PP=Tryz.prog:=by unfold PP;rfl
instance:Inhabited aq:=⟨⟨0,0,0,0⟩⟩
theorem sE (x y:aq):ltOf nV x y=dB x y:=by
 unfold ltOf nV
 by_cases h1:dB x y=true
 ·rw[if_pos h1,h1];rfl
 ·rw[if_neg h1]
  have:dB x y=false:=by simpa using h1
  rw[this]
  split<;>rfl
theorem j3 (a b:aq):dB a b=true↔a.row<b.row∨(a.row=b.row∧a.x<b.x):=by
 simp[dB]
theorem aoF:Go.Sort.SWO (ltOf nV) where
 irrefl x:=by rw[sE,←Bool.not_eq_true,j3];omega
 trans x y z h1 h2:=by rw[sE,j3]at *;omega
 ntrans x y z h1 h2:=by rw[sE,←Bool.not_eq_true,j3]at *;omega
theorem Kn {α:Type} [Inhabited α] (enc:α→List Value) (k:Nat) (hk:∀x,(enc x).length=k) (xs:List α) (j:Nat) (hj:j<xs.length*k):
  (xs.flatMap enc)[j]? =some ((enc xs.toArray[j / k]!)[j % k]!):=by
 have hk0:0<k:=by
  rcases Nat.eq_zero_or_pos k with h|h
  ·subst h;simp at hj
  ·exact h
 have hq:j / k<xs.length:=(Nat.div_lt_iff_lt_mul hk0).2 hj
 have hd:=mR (enc:=enc) k hk xs (j / k)
 have e:(xs.flatMap enc)[j]? =((xs.flatMap enc).drop (j / k*k))[j % k]? :=by
  rw[List.getElem?_drop];congr 1
  have:=Nat.div_add_mod j k
  rw[Nat.mul_comm]at this;omega
 rw[e,hd,List.drop_eq_getElem_cons hq,List.flatMap_cons,List.getElem?_append_left (by rw[hk];exact Nat.mod_lt _ hk0)]
 have h2:j % k<(enc xs[j / k]).length:=by rw[hk];exact Nat.mod_lt _ hk0
 have h3:xs.toArray[j / k]! =xs[j / k]:=by simp[hq]
 rw[List.getElem?_eq_getElem h2,h3]
 congr 1
 exact(getElem!_pos (enc xs[j / k]) (j % k) h2).symm
theorem PV (xs:List aq) (v:Value) (hm:v∈xs.flatMap al):∃n,v= .int .i64 n:=by
 obtain⟨s,_,hs⟩:=List.mem_flatMap.1 hm
 simp only[al,List.mem_cons,List.not_mem_nil,or_false]at hs
 rcases hs with z|z|z|z<;>exact⟨_,z⟩
def iN (ys:List aq):Prop:=∀(i j:Nat) (a b:aq),i<j→ys[i]? =some a→ys[j]? =some b→dB b a=false
theorem anH (b c:Nat) (xs:List aq) (hn:xs≠[]) (hl:xs.length≤1073741824) (h:aa) (hb:h.f b= .row true 99 (xs.flatMap al)):
  ai PP 163 [.slice (some ⟨b,0,none⟩) xs.length c,.func (.func 164) #[] #[]] h (fun r h'=>r= .tuple #[]∧∃ys,ys.Perm xs∧iN ys∧h'=h.set b (.row true 99 (ys.flatMap al))):=by
 rw[gu]
 refine⟨⟨Tryz.f163,Tryz.func163,by kernel_rfl,by kernel_rfl⟩,fun ρ w args' hbx R V=>?_⟩
 obtain⟨v0,hv0,V0⟩:=V.2 0 _ rfl
 obtain⟨v1,hv1,V1⟩:=V.2 1 _ rfl
 have hargs:args'=[v0,v1]:=by
  have:=V.1
  match args',hv0,hv1,this with
  |[p,q],h0,h1,_=>simp at h0 h1;rw[h0,h1]
 subst hargs
 have e1:v1= .func (.func 164) #[] #[]:=by
  cases V1 with
  |func fn p p' q q' ha hl _ _=>
   have h1:p'=[]:=List.eq_nil_of_length_eq_zero ha.symm
   have h2:q'=[]:=List.eq_nil_of_length_eq_zero hl.symm
   subst h1;subst h2;rfl
 subst e1
 have hlen:0<xs.length:=List.length_pos_iff.2 hn
 obtain⟨pl,cap,hk,e0⟩:∃pl cap,ρ (false,b)=some pl∧v0= .slice (some ⟨pl.B,pl.o,none⟩) xs.length cap:=by
  rcases V0.kj with⟨a',e,_⟩|⟨b',off,pl,cap,e,hk,hc,hn',rfl⟩
  ·omega
  ·simp only[Addr.mk.injEq,and_true]at e
   obtain⟨rfl,rfl⟩:=e
   exact⟨pl,cap,hk,by simp⟩
 subst e0
 obtain⟨C,e',fz,c1,c2,c3,c4,c5,c6⟩:=R.row (false,b) pl true 99 (xs.flatMap al) hk (by simp[Mem.row?,hb])
 obtain rfl:=c2 rfl
 have hblk:=R.bound _ _ hk
 have hfl:(xs.flatMap al).length=xs.length*4:=dA 4 eM xs
 have hcell:∀j,j<xs.length*4→C[pl.o+j]? =some ((al xs.toArray[j / 4]!)[j % 4]!):=by
  intro j hj
  have hg:=Kn al 4 eM xs j hj
  obtain⟨v',q1,q2⟩:=c6 j _ hg
  rw[q1]
  congr 1
  refine q2.cA ?_
  have hm:(al xs.toArray[j / 4]!)[j % 4]!∈xs.flatMap al:=List.mem_of_getElem? hg
  obtain⟨n,hn⟩:=PV xs _ hm
  rw[hn];rfl
 have hH:Go.Sort.HoldsK al 4 w pl.B pl.o xs.toArray:=by
  intro j hj
  rw[Go.Sort.size_flatK]at hj
  have hj':j<xs.length*4:=by simpa using hj
  rw[Go.Sort.get_flatK _ _ _ _ hj]
  constructor
  ·unfold World.cell?
   simp only[c1,Option.isSome_none]
   exact hcell j hj'
  ·unfold World.frozen?
   simp only[c1]
   simp
 have hcmp:CmpLays Tryz.prog 164 #[] al 4 nV pl.B pl.o xs.toArray.size w:=by
  intro m os dk _ x y
  have:=(gu ▸ Zd x y h0:ai Tryz.prog 164 [aX x,aX y] h0 _).grown (fun v h' q=>q.2) rfl (fun v hv=>by
   simp only[List.mem_cons,List.not_mem_nil,or_false]at hv
   rcases hv with z|z<;>rw[z]<;>rfl) (sortWorldK al 4 w pl.B pl.o m dk os)
  exact this
 have hcon:=AnyQ.slices_SortFunc Tryz.anN 4 Tryz.isAgg99 Tryz.sizeOf99 al eM (fun x v hv=>by
  simp only[al,List.mem_cons,List.not_mem_nil,or_false]at hv
  rcases hv with z|z|z|z<;>rw[z]<;>rfl) nV aoF 164 #[] pl.B pl.o cap xs.toArray w (enters_of Tryz.func164 (by kernel_rfl) rfl) hcmp hH hblk (by simp;omega)
 have hcon':Calls Tryz.prog 163 ⟨[.slice (some ⟨pl.B,pl.o,none⟩) xs.length cap,.func (.func 164) #[] #[]]⟩ w _:=hcon
 refine hcon'.mono ?_
 rintro e w' ⟨rfl,d',n,os,hperm,hsort,rfl⟩
 obtain⟨p1,p2,p3⟩:=hperm
 have hd:d'.size=xs.length:=by simpa using p1
 have hdl:(d'.extract 0 xs.toArray.size).toList=d'.toList:=by simp;rw[List.take_of_length_le (by simp[hd])]
 have hxl:(xs.toArray.extract 0 xs.toArray.size).toList=xs:=by simp
 rw[hdl,hxl]at p3
 have hys:∀i a,d'.toList[i]? =some a→d'[i]! =a∧i<xs.length:=by
  intro i a hi
  have hlt:=(List.getElem?_eq_some_iff.mp hi).1
  have hlt':i<d'.size:=by simpa using hlt
  refine⟨?_,by omega⟩
  rw[getElem!_pos d' i hlt']
  have:=(List.getElem?_eq_some_iff.mp hi).2
  simpa using this
 refine⟨.tuple #[],.tuple #[],_,ρ,rfl,⟨rfl,d'.toList,p3,fun i j a b hij hi hj=>?_,rfl⟩,hbx,?_⟩
 ·obtain⟨a1,a2⟩:=hys i a hi
  obtain⟨b1,b2⟩:=hys j b hj
  have:=hsort i j (Nat.zero_le _) hij (by simpa using b2)
  rw[sE,a1,b1]at this
  exact this
 ·have hfl':(d'.toList.flatMap al).length=xs.length*4:=by rw[dA 4 eM];simp[hd]
  have hheap:(sortWorldK al 4 w pl.B pl.o n d' os).heap=(w.heap.modify pl.B (Go.Sort.onCells (Go.Sort.putCells id pl.o (Go.Sort.flatK al 4 d'))))++os:=rfl
  have hsz:(w.heap.modify pl.B (Go.Sort.onCells (Go.Sort.putCells id pl.o (Go.Sort.flatK al 4 d')))).size=w.heap.size:=by simp
  obtain⟨q1,q2⟩:=nD R hk hb (cs':=d'.toList.flatMap al) (by rw[hfl',hfl]) (w':=sortWorldK al 4 w pl.B pl.o n d' os) rfl rfl rfl (Nat.le_add_right _ _) (by rw[hheap,Array.size_append,hsz];omega)
   (fun B hB hne=>by
    rw[hheap,Array.getElem?_append_left (by rw[hsz];exact hB),Array.getElem?_modify,if_neg (Ne.symm hne)])
   (fun C2 e2 fz2 hC2=>by
    rw[c1]at hC2
    simp only[Option.some.injEq,Obj.cells.injEq]at hC2
    obtain⟨rfl,rfl,rfl⟩:=hC2
    refine⟨Go.Sort.putCells id pl.o (Go.Sort.flatK al 4 d') C,?_,by simp[Go.Sort.putCells],fun i v hi=>?_⟩
    ·rw[hheap,Array.getElem?_append_left (by rw[hsz];exact hblk),Array.getElem?_modify,if_pos rfl,c1];rfl
    ·have hi':i<xs.length*4:=by have:=(List.getElem?_eq_some_iff.mp hi).1;omega
     have hg:=Kn al 4 eM d'.toList i (by simpa[hd]using hi')
     rw[hg]at hi
     obtain rfl:=Option.some.inj hi
     have hin:pl.o+i<C.size:=by omega
     refine⟨(al d'[i / 4]!)[i % 4]!,?_,?_⟩
     ·unfold Go.Sort.putCells
      rw[Array.getElem?_mapIdx,Array.getElem?_eq_getElem hin]
      simp only[Option.map_some,id]
      rw[if_pos ⟨by omega,by rw[Go.Sort.size_flatK,hd];omega⟩,Nat.add_sub_cancel_left,Go.Sort.get_flatK _ _ _ _ (by rw[hd];exact hi')]
     ·simp only[Array.toArray_toList]
      have hm:(al d'[i / 4]!)[i % 4]!∈d'.toList.flatMap al:=by
       have:=List.mem_of_getElem? hg
       simpa using this
      obtain⟨n,hn⟩:=PV _ _ hm
      rw[hn];exact .int _ _)
  exact⟨q1,q2,.eC rfl⟩
end Go.Proofs.Ybk.V
namespace Go.Proofs.Ybk
open Go Go.Am
noncomputable def vN:Code:=match Tryz.f163.body with|some c=>c|none=>.skip
theorem abw:PP.funcs[163]? =some Tryz.f163:=by kernel_rfl
theorem VD:Tryz.f163.body=some vN:=rfl
def LQ (i:Nat):List Nat:=if i<1 then[0,1,4]else[]
def GW (i:Nat):ao:=⟨[],[],[],[]⟩
def CR:au:=⟨[],LQ,GW⟩
theorem aiK:av PP CR Tryz.f163.ntmps vN=true:=by kernel_rfl
noncomputable def vS:Code:=match Tryz.f168.body with|some c=>c|none=>.skip
theorem abB:PP.funcs[168]? =some Tryz.f168:=by kernel_rfl
theorem VI:Tryz.f168.body=some vS:=rfl
def LW (i:Nat):List Nat:=if i<1 then[0,2]else[]
def G9 (i:Nat):ao:=⟨[],[],[],[]⟩
def CY:au:=⟨[],LW,G9⟩
theorem aiP:av PP CY Tryz.f168.ntmps vS=true:=by kernel_rfl
noncomputable def wQ:Code:=match Tryz.f219.body with|some c=>c|none=>.skip
theorem ab7:PP.funcs[219]? =some Tryz.f219:=by kernel_rfl
theorem Wm:Tryz.f219.body=some wQ:=rfl
def MD (i:Nat):List Nat:=if i<15 then if i<7 then if i<3 then if i<1 then[0,1,2,3,4,10]else if i<2 then[0,1,2,3,4,10,11]else[0,1,2,3,4,10,11,12]else if i<5 then if i<4 then[0,1,2,3,4,10,11,12,25]else[]else if i<6 then[0,1,2,3,4,10,11,12,32]else[]else if i<11 then if i<9 then if i<8 then[0,1,2,3,4,10,11,12,39]else[0,1,2,3,4,10,11,12]else if i<10 then[0,1,2,3,4,10,11,12]else[0,1,2,3,4,10,11,12,13,14]else if i<13 then if i<12 then[0,1,2,3,4,10,11,12,13,14,56]else[0,1,2,3,4,10,11,12,13]else if i<14 then[0,1,2,3,4,10,11,12,13]else[0,1,2,3,4,10,11,12,13,14]else if i<23 then if i<19 then if i<17 then if i<16 then[0,1,2,3,4,10,11,12,13,75]else[0,1,2,3,4,10,11,12,13,80]else if i<18 then[0,1,2,3,4,10,11,12,13,97]else[0,2,3,4,10,11,15]else if i<21 then if i<20 then[0,1,2,3,4,10,11]else[0,1,2,3,4,12,16,17]else if i<22 then[0,1,2,3,4,11,12,16]else[0,1,2,3,4,11,12,16,18,19]else if i<27 then if i<25 then if i<24 then[0,1,2,3,4,11,16,18,19,20]else[0,1,2,3,4,11,16,18,19,20,125]else if i<26 then[0,1,2,3,4,10,11,16]else[0,2,3,4,10,11,16]else if i<29 then if i<28 then[0,1,2,3,4,10,11]else[0,1,2,3,4,10,11,16]else if i<30 then[0,1,3,4,10,11,16]else[0,1,2,3,4,10,11]
def HZ (i:Nat):ao:=if i=17 then⟨[],[0,1,2,3,4,5,6,7,8,9,10,11,12,13,14,15,16],[[],[0],[0,1],[0,1,2],[0,1,2],[0,1,2],[0,1,2,5],[0,1,2,4,5,6],[0,1,2,4,5,6,7],[0,1,2],[0,1,2],[0,1,2,9,10],[0,1,2,9,10,11],[0,1,2,3,4,5,6,7,8,9,10,11,12],[0,1,2,3,4,5,6,7,8,9,10,11,12,13],[0,1,2,3,4,5,6,7,8,9,10,11,12,13,14],[0,1,2,3,4,5,6,7,8,9,10,11,12,13,14,15]],[]⟩else⟨[],[],[],[]⟩
def DF:au:=⟨[],MD,HZ⟩
theorem ajl:av PP DF Tryz.f219.ntmps wQ=true:=by kernel_rfl
noncomputable def wS:Code:=match Tryz.f220.body with|some c=>c|none=>.skip
theorem ab9:PP.funcs[220]? =some Tryz.f220:=by kernel_rfl
theorem Wo:Tryz.f220.body=some wS:=rfl
def MG (i:Nat):List Nat:=if i<1 then[0]else if i<2 then[2]else[2]
def Ib (i:Nat):ao:=⟨[],[],[],[]⟩
def DH:au:=⟨[],MG,Ib⟩
theorem ajn:av PP DH Tryz.f220.ntmps wS=true:=by kernel_rfl
noncomputable def wT:Code:=match Tryz.f221.body with|some c=>c|none=>.skip
theorem aca:PP.funcs[221]? =some Tryz.f221:=by kernel_rfl
theorem Wp:Tryz.f221.body=some wT:=rfl
def MH (i:Nat):List Nat:=if i<15 then if i<7 then if i<3 then if i<1 then[0,1,2,3,8]else if i<2 then[0,1,2,3,8,9]else[0,1,2,3,8,9,10]else if i<5 then if i<4 then[0,1,2,3,8,9,10,23]else[]else if i<6 then[0,1,2,3,8,9,10,29]else[]else if i<11 then if i<9 then if i<8 then[0,1,2,3,8,9,10,35]else[0,1,2,3,8,9,10]else if i<10 then[0,1,2,3,8,9,10]else[0,1,2,3,8,9,10,11,12]else if i<13 then if i<12 then[0,1,2,3,8,9,10,11,12,50]else[0,1,2,3,8,9,10,11]else if i<14 then[0,1,2,3,8,9,10,11]else[0,1,2,3,8,9,10,11,12]else if i<23 then if i<19 then if i<17 then if i<16 then[0,1,2,3,8,9,10,11,68]else[0,1,2,3,8,9,10,11,72]else if i<18 then[0,1,2,3,8,9,10,11,87]else[0,2,3,8,9,13]else if i<21 then if i<20 then[0,1,2,3,8,9]else[0,1,2,3,10,14,15]else if i<22 then[0,1,2,3,9,10,14]else[0,1,2,3,9,10,14,16,17]else if i<27 then if i<25 then if i<24 then[0,1,2,3,9,14,16,17,18]else[0,1,2,3,9,14,16,17,18,113]else if i<26 then[0,1,2,3,8,9,14]else[0,2,3,8,9,14]else if i<29 then if i<28 then[0,1,2,3,8,9]else[0,1,2,3,8,9,14]else if i<30 then[0,1,3,8,9,14]else[0,1,2,3,8,9]
def Ic (i:Nat):ao:=if i=17 then⟨[],[0,1,2,3,4,5,6,7,8,9,10,11,12,13,14],[[],[0],[0,1],[0,1,2],[0,1,2],[0,1,2,4],[0,1,2,3,4,5],[0,1,2,3,4,5,6],[0,1,2],[0,1,2],[0,1,2,8,9],[0,1,2,8,9,10],[0,1,2,3,4,5,6,7,8,9,10,11],[0,1,2,3,4,5,6,7,8,9,10,11,12],[0,1,2,3,4,5,6,7,8,9,10,11,12,13]],[]⟩else⟨[],[],[],[]⟩
def DI:au:=⟨[],MH,Ic⟩
theorem ajo:av PP DI Tryz.f221.ntmps wT=true:=by kernel_rfl
noncomputable def xk:Code:=match Tryz.f258.body with|some c=>c|none=>.skip
theorem acw:PP.funcs[258]? =some Tryz.f258:=by kernel_rfl
theorem WJ:Tryz.f258.body=some xk:=rfl
def M6 (i:Nat):List Nat:=if i<3 then if i<1 then[0,1,2,3,8]else if i<2 then[0,1,2,3,8,14]else[0,1,2,3,8]else if i<5 then if i<4 then[0,1,2,3,8,9]else[0,1,2,3,8,9,34]else if i<6 then[0,1,2,3,8,9]else[0,1,2,3,8,9]
def IE (i:Nat):ao:=if i=4 then⟨[],[0,1,2,3,4,5,6,7,8,9,10,11,12,13,14,15,16],[[],[],[0,1],[0,1,2],[0,1,2,3],[0,1,2,3],[0,1,2,3],[0,1,2,3,5,6],[0,1,2,3,5,6,7],[0,1,2,3],[0,1,2,3],[0,1,2,3,10],[0,1,2,3,9,10,11],[0,1,2,3,9,10,11,12],[0,1,2,3,4,5,6,7,8,9,10,11,12,13],[0,1,2,3,4,5,6,7,8,9,10,11,12,13,14],[0,1,2,3,4,5,6,7,8,9,10,11,12,13,14,15]],[]⟩else if i=6 then⟨[],[0,1,2,3,4,5,6,7,8,9,10,11,12,13,14,15,16,17],[[],[],[],[],[3],[],[],[6],[5,6,7],[5,6,7,8],[],[],[10,11],[10,11,12],[0,1,5,6,7,8,9,10,11,12,13],[0,1,5,6,7,8,9,10,11,12,13,14],[0,1,2,3,4,5,6,7,8,9,10,11,12,13,14,15],[0,1,2,3,4,5,6,7,8,9,10,11,12,13,14,15,16]],[]⟩else⟨[],[],[],[]⟩
def Ec:au:=⟨[],M6,IE⟩
theorem ajH:av PP Ec Tryz.f258.ntmps xk=true:=by kernel_rfl
noncomputable def xl:Code:=match Tryz.f267.body with|some c=>c|none=>.skip
theorem acx:PP.funcs[267]? =some Tryz.f267:=by kernel_rfl
theorem WK:Tryz.f267.body=some xl:=rfl
def M7 (i:Nat):List Nat:=if i<5 then if i<2 then if i<1 then[0,2]else[0,2,4]else if i<3 then[0]else if i<4 then[0,2]else[0,2,8]else if i<8 then if i<6 then[0,2]else if i<7 then[0,2]else[0,2,14]else if i<9 then[0,2]else if i<10 then[0,2]else[2]
def IF (i:Nat):ao:=⟨[],[],[],[]⟩
def Ed:au:=⟨[],M7,IF⟩
theorem ajI:av PP Ed Tryz.f267.ntmps xl=true:=by kernel_rfl
noncomputable def xm:Code:=match Tryz.f268.body with|some c=>c|none=>.skip
theorem acy:PP.funcs[268]? =some Tryz.f268:=by kernel_rfl
theorem WL:Tryz.f268.body=some xm:=rfl
def M8 (i:Nat):List Nat:=if i<3 then if i<1 then[0,1,2,6]else if i<2 then[0,1,2,6,12]else[0,1,2,6]else if i<5 then if i<4 then[0,1,2,6,7]else[0,1,2,6,7,30]else if i<6 then[0,1,2,6,7]else[0,1,2,6,7]
def IG (i:Nat):ao:=if i=4 then⟨[],[0,1,2,3,4,5,6,7,8,9,10,11,12,13,14],[[],[],[0,1],[0,1,2],[0,1,2,3],[0,1,2,3],[0,1,2,3,4,5],[0,1,2,3,4,5,6],[0,1,2,3],[0,1,2,3],[0,1,2,3,9],[0,1,2,3,8,9,10],[0,1,2,3,8,9,10,11],[0,1,2,3,4,5,6,7,8,9,10,11,12],[0,1,2,3,4,5,6,7,8,9,10,11,12,13]],[]⟩else if i=6 then⟨[],[0,1,2,3,4,5,6,7,8,9,10,11,12,13,14,15,16,17],[[],[],[],[],[3],[],[],[6],[5,6,7],[5,6,7,8],[],[],[10,11],[10,11,12],[0,1,5,6,7,8,9,10,11,12,13],[0,1,5,6,7,8,9,10,11,12,13,14],[0,1,2,3,4,5,6,7,8,9,10,11,12,13,14,15],[0,1,2,3,4,5,6,7,8,9,10,11,12,13,14,15,16]],[]⟩else⟨[],[],[],[]⟩
def Ee:au:=⟨[],M8,IG⟩
theorem ajJ:av PP Ee Tryz.f268.ntmps xm=true:=by kernel_rfl
attribute [simp] LQ CR GW LW CY G9 MD DF HZ MG DH Ib MH DI Ic M6 Ec IE M7 Ed IF M8 Ee IG
end Go.Proofs.Ybk
namespace Go.Proofs.Ybk.V
open Go Go.Am
set_option maxHeartbeats 2000000
theorem afp (h:aa):ai PP 267 [.int .u64 0] h (fun v h'=>h'=h∧v= .int .i64 0):=by
 refine az mix acx WK rfl (by show 1≤25;decide) ajI ?_
 simp only[xl,Tryz.f267]
 have e1:IntKind.wrap .u8 0=0:=rfl
 have e2:IntKind.wrap .i64 0=0:=rfl
 simp -implicitDefEqProofs[e1,e2]
 rfl
theorem Oj (h:aa):ai PP 220 [.int .u64 0] h (fun v h'=>h'=h∧v= .int .i64 0):=by
 refine az mix ab9 Wo rfl (by show 1≤8;decide) ajn ?_
 simp only[wS,Tryz.f220]
 simp -implicitDefEqProofs
 refine(afp h).mono ?_
 rintro v h' ⟨rfl,rfl⟩
 simp -implicitDefEqProofs[ae]
def SU (h:aa) (n:Nat) (σ:St):Prop:=n=0∧σ.m.h=h∧σ.t.get 8=some (.int .i64 1)∧σ.t.get 2=some (.int .i64 0)
theorem aeI (ad:Option Addr) (c:Nat) (h:aa):ai PP 258 [.slice ad 0 c,.int .i64 0,.int .i64 0,.func (.func 164) #[] #[]] h (fun v h'=>h'=h∧v= .tuple #[]):=by
 refine az mix acw WJ rfl (by show 4≤53;decide) ajH ?_
 simp only[xk,Tryz.f258]
 have e1:IntKind.wrap .i64 1=1:=rfl
 simp -implicitDefEqProofs[e1]
 refine bD (SU h) _ ⟨rfl,rfl,by simp,by simp⟩ ?_
 rintro n ⟨T,⟨x,H⟩⟩ ⟨rfl,hH,g8,g2⟩
 simp at hH g8 g2
 subst hH
 simp -implicitDefEqProofs[g8,g2]
def SP (v:Value) (h:aa) (n:Nat) (σ:St):Prop:=n=0∧σ.m.h=h∧σ.t.get 0=some v∧σ.t.get 1=some (.int .i64 0)∧σ.t.get 2=some (.int .i64 0)∧σ.t.get 4=some (.func (.func 164) #[] #[])
theorem alE (ad:Option Addr) (c:Nat) (h:aa):ai PP 219 [.slice ad 0 c,.int .i64 0,.int .i64 0,.int .i64 0,.func (.func 164) #[] #[]] h (fun v h'=>h'=h∧v= .tuple #[]):=by
 refine az mix ab7 Wm rfl (by show 5≤148;decide) ajl ?_
 simp only[wQ,Tryz.f219]
 simp -implicitDefEqProofs
 refine bD (SP (.slice ad 0 c) h) _ ⟨rfl,rfl,by simp,by simp,by simp,by simp⟩ ?_
 rintro n ⟨T,⟨x,H⟩⟩ ⟨rfl,hH,g0,g1,g2,g4⟩
 simp at hH g0 g1 g2 g4
 subst hH
 have e1:IntKind.wrap .i64 0=0:=rfl
 simp -implicitDefEqProofs[g0,g1,g2,g4,e1]
 refine(aeI ad c H).mono ?_
 rintro v h' ⟨rfl,rfl⟩
 simp -implicitDefEqProofs[ae]
theorem anF (ad:Option Addr) (c:Nat) (h:aa):ai PP 163 [.slice ad 0 c,.func (.func 164) #[] #[]] h (fun v h'=>h'=h∧v= .tuple #[]):=by
 refine az mix abw VD rfl (by show 2≤14;decide) aiK ?_
 simp only[vN,Tryz.f163]
 have e1:IntKind.wrap .u64 0=0:=rfl
 simp -implicitDefEqProofs[e1]
 refine(Oj h).mono ?_
 rintro v h' ⟨rfl,rfl⟩
 simp -implicitDefEqProofs[ae]
 intro _
 refine(alE ad c h').mono ?_
 rintro v h' ⟨rfl,rfl⟩
 simp -implicitDefEqProofs[ae]
def SV (h:aa) (n:Nat) (σ:St):Prop:=n=0∧σ.m.h=h∧σ.t.get 6=some (.int .i64 1)∧σ.t.get 2=some (.int .i64 0)
def SQ (v:Value) (h:aa) (n:Nat) (σ:St):Prop:=n=0∧σ.m.h=h∧σ.t.get 0=some v∧σ.t.get 1=some (.int .i64 0)∧σ.t.get 2=some (.int .i64 0)
theorem aeF (ad:Option Addr) (c:Nat) (h:aa):ai PP 268 [.slice ad 0 c,.int .i64 0,.int .i64 0] h (fun v h'=>h'=h∧v= .tuple #[]):=by
 refine az mix acy WL rfl (by show 3≤49;decide) ajJ ?_
 simp only[xm,Tryz.f268]
 have e1:IntKind.wrap .i64 1=1:=rfl
 simp -implicitDefEqProofs[e1]
 refine bD (SV h) _ ⟨rfl,rfl,by simp,by simp⟩ ?_
 rintro n ⟨T,⟨x,H⟩⟩ ⟨rfl,hH,g8,g2⟩
 simp at hH g8 g2
 subst hH
 simp -implicitDefEqProofs[g8,g2]
theorem alD (ad:Option Addr) (c:Nat) (h:aa):ai PP 221 [.slice ad 0 c,.int .i64 0,.int .i64 0,.int .i64 0] h (fun v h'=>h'=h∧v= .tuple #[]):=by
 refine az mix aca Wp rfl (by show 4≤134;decide) ajo ?_
 simp only[wT,Tryz.f221]
 simp -implicitDefEqProofs
 refine bD (SQ (.slice ad 0 c) h) _ ⟨rfl,rfl,by simp,by simp,by simp⟩ ?_
 rintro n ⟨T,⟨x,H⟩⟩ ⟨rfl,hH,g0,g1,g2⟩
 simp at hH g0 g1 g2
 subst hH
 have e1:IntKind.wrap .i64 0=0:=rfl
 simp -implicitDefEqProofs[g0,g1,g2,e1]
 refine(aeF ad c H).mono ?_
 rintro v h' ⟨rfl,rfl⟩
 simp -implicitDefEqProofs[ae]
theorem anI (ad:Option Addr) (c:Nat) (h:aa):ai PP 168 [.slice ad 0 c] h (fun v h'=>h'=h∧v= .tuple #[]):=by
 refine az mix abB VI rfl (by show 1≤11;decide) aiP ?_
 simp only[vS,Tryz.f168]
 have e1:IntKind.wrap .u64 0=0:=rfl
 simp -implicitDefEqProofs[e1]
 refine(Oj h).mono ?_
 rintro v h' ⟨rfl,rfl⟩
 simp -implicitDefEqProofs[ae]
 intro _
 refine(alD ad c h').mono ?_
 rintro v h' ⟨rfl,rfl⟩
 simp -implicitDefEqProofs[ae]
def fU (xs:List Int):List Int:=xs.mergeSort (fun x y=>decide (x≤y))
theorem aeJ (xs:List Int):xs.flatMap ab=xs.map (Value.int .i64):=by
 induction xs with
 |nil=>rfl
 |cons x r ih=>rw[List.flatMap_cons,ih];rfl
theorem sY (xs:List Int) (j:Nat) (hj:j<xs.length):(xs.flatMap ab)[j]? =some (.int .i64 xs[j]):=by
 rw[aeJ,List.getElem?_map,List.getElem?_eq_getElem hj];rfl
theorem anK (b c:Nat) (xs:List Int) (hn:xs≠[]) (hl:xs.length≤1073741824) (h:aa) (hb:h.f b= .row true 3 (xs.flatMap ab)):
  ai PP 168 [.slice (some ⟨b,0,none⟩) xs.length c] h (fun r h'=>r= .tuple #[]∧h'=h.set b (.row true 3 ((fU xs).flatMap ab))):=by
 rw[gu]
 refine⟨⟨Tryz.f168,Tryz.func168,by kernel_rfl,by kernel_rfl⟩,fun ρ w args' hbx R V=>?_⟩
 obtain⟨v0,hv0,V0⟩:=V.2 0 _ rfl
 have hargs:args'=[v0]:=by
  have:=V.1
  match args',hv0,this with
  |[p],h0,_=>simp at h0;rw[h0]
 subst hargs
 have hlen:0<xs.length:=List.length_pos_iff.2 hn
 obtain⟨pl,cap,hk,e0⟩:∃pl cap,ρ (false,b)=some pl∧v0= .slice (some ⟨pl.B,pl.o,none⟩) xs.length cap:=by
  rcases V0.kj with⟨a',e,_⟩|⟨b',off,pl,cap,e,hk,hc,hn',rfl⟩
  ·omega
  ·simp only[Addr.mk.injEq,and_true]at e
   obtain⟨rfl,rfl⟩:=e
   exact⟨pl,cap,hk,by simp⟩
 subst e0
 obtain⟨C,e',fz,c1,c2,c3,c4,c5,c6⟩:=R.row (false,b) pl true 3 (xs.flatMap ab) hk (by simp[Mem.row?,hb])
 obtain rfl:=c2 rfl
 have hblk:=R.bound _ _ hk
 have hfl:(xs.flatMap ab).length=xs.length:=by have:=dA 1 cY xs;omega
 have hcell:∀j (hj:j<xs.length),C[pl.o+j]? =some (.int .i64 xs[j]):=by
  intro j hj
  obtain⟨v',q1,q2⟩:=c6 j _ (sY xs j hj)
  rw[q1]
  congr 1
  exact q2.cA rfl
 have hH:Go.Sort.Holds (Value.int .i64) w pl.B pl.o xs.toArray:=by
  intro j hj
  have hj':j<xs.length:=by simpa using hj
  have e:xs.toArray[j]! =xs[j]:=by simp[hj']
  rw[e]
  constructor
  ·unfold World.cell?
   simp only[c1,Option.isSome_none]
   exact hcell j hj'
  ·unfold World.frozen?
   simp only[c1]
   simp
 have hcon':Calls Tryz.prog 168 ⟨[.slice (some ⟨pl.B,pl.o,none⟩) xs.length cap]⟩ w _:=Any.slices_Sort_int Tryz.anL pl.B pl.o cap xs w hH hblk (by omega)
 refine hcon'.mono ?_
 rintro e w' ⟨rfl,n,os,rfl⟩
 have hd:(fU xs).length=xs.length:=List.length_mergeSort _
 refine⟨.tuple #[],.tuple #[],_,ρ,rfl,⟨rfl,rfl⟩,hbx,?_⟩
 have hfl':((fU xs).flatMap ab).length=xs.length:=by have:=dA 1 cY (fU xs);omega
 have hheap:(Go.Sort.grow (Go.Sort.putRow (Value.int .i64) (Go.Sort.ahead w n) pl.B pl.o (fU xs).toArray) os).heap=(w.heap.modify pl.B (Go.Sort.onCells (Go.Sort.putCells (Value.int .i64) pl.o (fU xs).toArray)))++os:=rfl
 have hsz:(w.heap.modify pl.B (Go.Sort.onCells (Go.Sort.putCells (Value.int .i64) pl.o (fU xs).toArray))).size=w.heap.size:=by simp
 obtain⟨q1,q2⟩:=nD R hk hb (cs':=(fU xs).flatMap ab) (by rw[hfl',hfl]) (w':=Go.Sort.grow (Go.Sort.putRow (Value.int .i64) (Go.Sort.ahead w n) pl.B pl.o (fU xs).toArray) os) rfl rfl rfl (Nat.le_add_right _ _) (by rw[hheap,Array.size_append,hsz];omega)
  (fun B hB hne=>by
   rw[hheap,Array.getElem?_append_left (by rw[hsz];exact hB),Array.getElem?_modify,if_neg (Ne.symm hne)])
  (fun C2 e2 fz2 hC2=>by
   rw[c1]at hC2
   simp only[Option.some.injEq,Obj.cells.injEq]at hC2
   obtain⟨rfl,rfl,rfl⟩:=hC2
   refine⟨Go.Sort.putCells (Value.int .i64) pl.o (fU xs).toArray C,?_,by simp[Go.Sort.putCells],fun i v hi=>?_⟩
   ·rw[hheap,Array.getElem?_append_left (by rw[hsz];exact hblk),Array.getElem?_modify,if_pos rfl,c1];rfl
   ·have hi':i<(fU xs).length:=by have:=(List.getElem?_eq_some_iff.mp hi).1;omega
    rw[sY _ i hi']at hi
    obtain rfl:=Option.some.inj hi
    have hin:pl.o+i<C.size:=by omega
    refine⟨.int .i64 (fU xs)[i],?_,.int _ _⟩
    unfold Go.Sort.putCells
    rw[Array.getElem?_mapIdx,Array.getElem?_eq_getElem hin]
    simp only[Option.map_some]
    rw[if_pos ⟨by omega,by simp;omega⟩,Nat.add_sub_cancel_left]
    simp[hi'])
 exact⟨q1,q2,.eC rfl⟩
def TA (xs:List Int):Prop:=∀(i:Nat) (a b:Int),xs[i]? =some a→xs[i+1]? =some b→a≠b
def Sz (v:Value) (m:Nat) (h:aa) (n:Nat) (σ:St):Prop:=∃i:Nat,n=m-i∧1≤i∧i≤m∧σ.m.h=h∧σ.t.get 0=some v∧σ.t.get 3=some (.int .i64 (i:Nat))
theorem Zp (v:Value) (xs:List Int) (hl:xs.length≤1073741824) (hx:TA xs) (h:aa) (hs:aZ h v xs):ai PP 169 [v] h (fun r h'=>h'=h∧r=v):=by
 refine az mix abC VJ rfl (by show 1≤61;decide) aiQ ?_
 simp only[vT,Tryz.f169]
 obtain⟨ad,c,rfl⟩:=hs.shape
 obtain⟨m,hm⟩:∃m,m=xs.length:=⟨_,rfl⟩
 rw[←hm]at hs ⊢
 by_cases h2:(m:Int)<2
 ·simp -implicitDefEqProofs[h2]
 ·simp -implicitDefEqProofs[h2]
  refine bD (Sz (.slice ad m c) m h) _ ⟨1,rfl,by omega,by omega,rfl,by simp,by simp⟩ ?_
  rintro n ⟨T,⟨x,H⟩⟩ ⟨i,rfl,eJ,hi,hH,g0,g3⟩
  simp at hH g0 g3
  subst hH
  simp -implicitDefEqProofs[g0,g3]
  refine bB (fun hc=>?_) (fun hc=>?_)<;>simp only[decide_eq_true_eq,decide_eq_false_iff_not]at hc
  ·have him:i<m:=by omega
   obtain⟨j,hj⟩:∃j,j=i-1:=⟨_,rfl⟩
   have hjm:j<m:=by omega
   have ha:xs[i]? =some xs[i]:=List.getElem?_eq_getElem (by omega)
   have hb:xs[j]? =some xs[j]:=List.getElem?_eq_getElem (by omega)
   obtain⟨_,b1,o1,wb1,cs1,r1,rfl,bq,hd1,hl1,_⟩:=hs.at 1 cY ha
   obtain⟨_,b2,o2,wb2,cs2,r2,e1,bC,hd2,hl2,_⟩:=hs.at 1 cY hb
   simp only[Option.some.injEq,Addr.mk.injEq,and_true]at e1
   obtain⟨rfl,rfl⟩:=e1
   rw[bq]at bC
   simp only[aO.row.injEq,true_and]at bC
   obtain⟨rfl,rfl⟩:=bC
   have hne:¬xs[i]=xs[j]:=by
    have:=hx j _ _ hb (by rw[show j+1=i by omega];exact ha)
    exact fun e=>this e.symm
   rw[Nat.mul_one]at hd1 hd2 hl1 hl2
   have w1:IntKind.wrap .i64 ((i:Int)+1)=((i+1:Nat):Int):=by rw[aA (by omega)];omega
   have w2:IntKind.wrap .i64 ((i:Int)-1)=(j:Int):=by rw[aA (by omega)];omega
   simp -implicitDefEqProofs[g0,g3,him,hjm,bq,hd1,hd2,hl1,hl2,ab,w2,hne,w1]
   exact⟨m-(i+1),by omega,i+1,rfl,by omega,by omega,rfl,by simp[g0],by simp⟩
  ·simp -implicitDefEqProofs[g0,g3]
def dF (v:ah):List aq:=v.aD.map (fun k=>v.af.getD k.toNat default)
def ly (v:ah):Bool:=v.aD.all (fun k=>decide (0≤k)&&decide (k<v.af.length))
def gW:List Value:=[.slice none 0 0,.int .i64 0,.int .i64 0,.slice none 0 0,.slice none 0 0]
def RZ (cs:List Value) (v:ah) (ks:Value) (h:aa) (n:Nat) (σ:St):Prop:=∃(i:Nat) (kv:Value),n=v.aD.length-i∧i≤v.aD.length∧Ext h σ.m.h∧bS 99 al h σ.m.h kv ((dF v).take i)∧
 (∀j k,j<i→v.aD[j]? =some k→0≤k∧k<v.af.length)∧
 σ.t.get 1=some (.pointer (some ⟨1,0,some 0⟩))∧σ.t.get 2=some (.pointer (some ⟨2,0,some 0⟩))∧σ.t.get 4=some kv∧σ.t.get 11=some ks∧σ.t.get 12=some (.int .i64 (v.aD.length:Nat))∧σ.t.get 13=some (.int .i64 (i:Nat))∧
 σ.m.x.look 1=some (63,cs)∧σ.m.x.look 2=some (63,gW)
theorem bS.ki {α:Type} {e:TypeId} {enc:α→List Value} {h0 h:aa} {v:Value} {xs:List α} (H:bS e enc h0 h v xs) {b:Nat} (cs:aO) (hb:b<h0.n):bS e enc h0 (h.set b cs) v xs:=by
 obtain⟨ad,rfl,z⟩:=H
 refine⟨ad,rfl,?_⟩
 rcases z with z|⟨b',z1,z2,z3,z4⟩
 ·exact .inl z
 ·exact .inr ⟨b',z1,by rw[eT,if_neg (by omega),z2],z3,z4⟩
theorem anG (v:Value) (xs:List aq) (h0 h:aa) (hl:xs.length≤1073741824) (H:bS 99 al h0 h v xs):
  ai PP 163 [v,.func (.func 164) #[] #[]] h (fun r h'=>r= .tuple #[]∧∃ys,ys.Perm xs∧iN ys∧bS 99 al h0 h' v ys∧(h'=h∨∃b n c cs,v= .slice (some ⟨b,0,none⟩) n c∧h0.n≤b∧b<h.n∧h'=h.set b cs)):=by
 by_cases hx:xs=[]
 ·subst hx
  obtain⟨ad,rfl,z⟩:=H
  refine(anF ad 0 h).mono ?_
  rintro r h' ⟨rfl,rfl⟩
  exact⟨rfl,[],List.Perm.refl _,fun i j a b _ hi=>by simp at hi,⟨ad,rfl,z⟩,.inl rfl⟩
 ·obtain⟨ad,rfl,z⟩:=H
  rcases z with⟨_,z⟩|⟨b,rfl,z2,z3,z4⟩
  ·exact absurd z hx
  ·refine(anH b _ xs hx hl h z2).mono ?_
   rintro r h' ⟨rfl,ys,hp,hs,rfl⟩
   have hll:=hp.length_eq
   exact⟨rfl,ys,hp,hs,⟨_,by rw[hll],.inr ⟨b,rfl,by rw[eT,if_pos rfl],z3,z4⟩⟩,.inr ⟨b,_,_,_,rfl,z3,z4,rfl⟩⟩
theorem anJ (v:Value) (xs:List Int) (h0 h:aa) (hl:xs.length≤1073741824) (H:bS 3 ab h0 h v xs):
  ai PP 168 [v] h (fun r h'=>r= .tuple #[]∧bS 3 ab h0 h' v (fU xs)∧(h'=h∨∃b n c cs,v= .slice (some ⟨b,0,none⟩) n c∧h0.n≤b∧b<h.n∧h'=h.set b cs)):=by
 by_cases hx:xs=[]
 ·subst hx
  obtain⟨ad,rfl,z⟩:=H
  refine(anI ad 0 h).mono ?_
  rintro r h' ⟨rfl,rfl⟩
  have:fU []=[]:=by simp[fU]
  exact⟨rfl,by rw[this];exact⟨ad,rfl,z⟩,.inl rfl⟩
 ·obtain⟨ad,rfl,z⟩:=H
  rcases z with⟨_,z⟩|⟨b,rfl,z2,z3,z4⟩
  ·exact absurd z hx
  ·refine(anK b _ xs hx hl h z2).mono ?_
   rintro r h' ⟨rfl,rfl⟩
   have hll:(fU xs).length=xs.length:=List.length_mergeSort _
   exact⟨rfl,⟨_,by rw[hll],.inr ⟨b,rfl,by rw[eT,if_pos rfl],z3,z4⟩⟩,.inr ⟨b,_,_,_,rfl,z3,z4,rfl⟩⟩
def R7 (b7:Value→List Value) (kv:Value) (K:List Int) (h0:aa) (n:Nat) (σ:St):Prop:=∃(j:Nat) (kq:Value),n=K.length-j∧j≤K.length∧Ext h0 σ.m.h∧bS 3 ab h0 σ.m.h kq (K.take j)∧
 σ.t.get 2=some (.pointer (some ⟨2,0,some 0⟩))∧σ.t.get 7=some (.pointer (some ⟨7,0,some 0⟩))∧σ.t.get 50=some kv∧σ.t.get 51=some (.int .i64 (K.length:Nat))∧σ.t.get 52=some (.int .i64 (j:Nat))∧
 σ.m.x.look 2=some (63,gW)∧σ.m.x.look 7=some (63,b7 kq)
def bz {α:Type} (e:TypeId) (enc:α→List Value) (h0 h:aa) (o:Option Nat) (xs:List α) (v:Value):Prop:=
 v= .slice (o.map fun b=>⟨b,0,none⟩) xs.length xs.length∧(match o with
  |none=>xs=[]
  |some b=>h.f b= .row true e (xs.flatMap enc)∧h0.n≤b∧b<h.n)
theorem bz.own {α:Type} {e:TypeId} {enc:α→List Value} {h0 h:aa} {o:Option Nat} {xs:List α} {v:Value} (H:bz e enc h0 h o xs v):bS e enc h0 h v xs:=by
 obtain⟨rfl,z⟩:=H
 cases o with
 |none=>exact⟨none,rfl,.inl ⟨rfl,z⟩⟩
 |some b=>exact⟨_,rfl,.inr ⟨b,rfl,z.1,z.2.1,z.2.2⟩⟩
theorem bz.ext {α:Type} {e:TypeId} {enc:α→List Value} {h0 h h':aa} {o:Option Nat} {xs:List α} {v:Value} (H:bz e enc h0 h o xs v) (E:Ext h h'):bz e enc h0 h' o xs v:=by
 obtain⟨rfl,z⟩:=H
 refine⟨rfl,?_⟩
 cases o with
 |none=>exact z
 |some b=>exact⟨by rw[E.f b z.2.2];exact z.1,z.2.1,Nat.lt_of_lt_of_le z.2.2 E.n⟩
theorem bz.ki {α:Type} {e:TypeId} {enc:α→List Value} {h0 h:aa} {o:Option Nat} {xs:List α} {v:Value} (H:bz e enc h0 h o xs v) {b:Nat} (c:aO) (hb:o≠some b):bz e enc h0 (h.set b c) o xs v:=by
 obtain⟨rfl,z⟩:=H
 refine⟨rfl,?_⟩
 cases o with
 |none=>exact z
 |some b'=>exact⟨by rw[eT,if_neg (fun q=>hb (by rw[q]))];exact z.1,z.2.1,z.2.2⟩
theorem bz.lt {α:Type} {e:TypeId} {enc:α→List Value} {h0 h:aa} {o:Option Nat} {xs:List α} {v:Value} (H:bz e enc h0 h o xs v) {m:Nat} (hm:h.n≤m):o≠some m:=by
 intro q;subst q;have:=H.2.2.2;omega
theorem bz.nil {α:Type} {e:TypeId} {enc:α→List Value} {h0 h:aa}:bz e enc h0 h none ([]:List α) (.slice none 0 0):=⟨rfl,rfl⟩
theorem bz.keep {α:Type} {e:TypeId} {enc:α→List Value} {h0 h:aa} {o:Option Nat} {xs:List α} {v:Value} (H:bz e enc h0 h o xs v) {b:Nat} (c0 c1:aO) (hb:o≠some b):bz e enc h0 (((h.new c0).set b .dead).new c1) o xs v:=
 ((H.ext (Ext.new _ _)).ki _ hb).ext (Ext.new _ _)
theorem bz.push {α:Type} {e:TypeId} {enc:α→List Value} {h0 h:aa} {b:Nat} {xs:List α} {v:Value} (H:bz e enc h0 h (some b) xs v) (c0:aO) (x:α) {cells:List Value} (hc:cells=(xs++[x]).flatMap enc):
  bz e enc h0 (((h.new c0).set b .dead).new (.row true e cells)) (some (h.n+1)) (xs++[x]) (.slice (some ⟨h.n+1,0,none⟩) (xs.length+1) (xs.length+1)):=by
 obtain⟨_,_,h1,h2⟩:=H
 refine⟨by simp,?_,?_,?_⟩
 ·simp[hc]
 ·omega
 ·simp
theorem bz.tL {α:Type} {e:TypeId} {enc:α→List Value} {h0 h:aa} (hn:h0.n≤h.n) (c0:aO) (x:α) {cells:List Value} (hc:cells=enc x):
  bz e enc h0 ((h.new c0).new (.row true e cells)) (some (h.n+1)) [x] (.slice (some ⟨h.n+1,0,none⟩) 1 1):=by
 refine⟨by simp,?_,?_,?_⟩
 ·simp[hc]
 ·omega
 ·simp
theorem yR {h0 h:aa} (E:Ext h0 h) {b:Nat} (hb:h0.n≤b) (c0 c1 c2:aO):Ext h0 (((h.new c0).set b c2).new c1):=((E.bA _).cq hb _).bA _
def Ap (a b:Option Nat):Prop:=∀n,a=some n→b≠some n
def uL (h0 h:aa) (v:ah) (a b c:Option Nat) (cs:List Value):Prop:=∃s k p,cs=[s,.int .i64 v.aV,.int .i64 v.bg,k,p]∧bz 99 al h0 h a v.af s∧bz 3 ab h0 h b v.aD k∧bz 103 aQ h0 h c v.aE p∧Ap a b∧Ap a c∧Ap b c
structure Made (i:Nat) (v:ah) (row x:Int):Prop where
 aV:v.aV=10
 bg:0≤v.bg∧v.bg≤24
 len:v.af.length=i+1
 s5:v.aD.length≤i
 tH:v.aE.length≤i
 last:∃s,v.af[i]? =some s∧s.row=row∧s.x=x
 PO:0≤row∧row≤i
 xB:0≤x∧x≤15*i
 dP:∀s∈v.af,0≤s.row∧s.row≤i∧0≤s.x∧s.x≤15*i∧s.y=10*s.row∧0≤s.kind∧s.kind≤2
 up:∀j s t,v.af[j]? =some s→v.af[j+1]? =some t→dB s t=true
 kill:∀a∈v.aD,1≤a∧a≤i
 zy:∀j a b,v.aD[j]? =some a→v.aD[j+1]? =some b→a<b
 fR:∀p∈v.aE,0≤p.x∧p.x≤15*i∧0≤p.y∧p.y≤10*i∧1≤p.r∧p.r≤12
def pA (lv:Value) (cM:Int) (h:aa) (i:Nat) (v:ah) (row x:Int) (σ:St):Prop:=∃(a b c:Option Nat) (cs:List Value),Ext h σ.m.h∧uL h σ.m.h v a b c cs∧a≠none∧
 σ.t.get 0=some lv∧σ.t.get 1=some (.int .i64 cM)∧σ.t.get 4=some (.pointer (some ⟨4,0,some 0⟩))∧σ.t.get 5=some (.pointer (some ⟨5,0,some 0⟩))∧σ.t.get 6=some (.int .i64 row)∧σ.t.get 7=some (.int .i64 x)∧σ.t.get 8=some (.int .i64 (i:Nat))∧
 σ.m.x.look 4=some (63,gW)∧σ.m.x.look 5=some (63,cs)
def uG (lv:Value) (cM:Int) (h:aa) (n:Nat) (σ:St):Prop:=∃(i:Nat) (v:ah) (row x:Int),n=(cM-i).toNat∧(i:Int)<cM∧Made i v row x∧pA lv cM h i v row x σ
def Qd (row x row' x':Int):Prop:=(row'=row∧x<x'∧x'≤x+15)∨(row'=row+1∧x'=0)
theorem QY {α:Type} {r:α→α→Prop} {l:List α} {z:α} (h:∀j s t,l[j]? =some s→l[j+1]? =some t→r s t) (hz:∀s,l.getLast? =some s→r s z):∀j s t,(l++[z])[j]? =some s→(l++[z])[j+1]? =some t→r s t:=by
 intro j s t h1 h2
 rcases Nat.lt_trichotomy (j+1) l.length with q|q|q
 ·rw[List.getElem?_append_left (by omega)]at h1 h2;exact h j s t h1 h2
 ·rw[List.getElem?_append_left (by omega)]at h1
  rw[List.getElem?_append_right (by omega),q]at h2
  simp at h2
  subst h2
  refine hz s ?_
  rw[List.getLast?_eq_getElem?,←q];exact h1
 ·rw[List.getElem?_eq_none (by simp;omega)]at h2;cases h2
theorem afN {i:Nat} {v:ah} {row x:Int} (M:Made i v row x) {row' x':Int} (hst:Qd row x row' x') {k:Int} (hk0:0≤k) (hk2:k≤2) {ks:List Int} {ps:List aP} {r:Int}
  (hks:ks=v.aD∨ks=v.aD++[((i+1:Nat):Int)]) (hps:ps=v.aE∨∃r,1≤r∧r≤12∧ps=v.aE++[⟨x',10*row',r⟩]) (hr:r=v.bg∨0≤r∧r≤24):
  Made (i+1) ⟨v.af++[⟨row',x',10*row',k⟩],v.aV,r,ks,ps⟩ row' x':=by
 have hrB:=M.PO
 have hxB:=M.xB
 have hrow1:0≤row'∧row'≤i+1:=by rcases hst with h|h<;>omega
 have hx1:0≤x'∧x'≤15*(i+1):=by rcases hst with h|h<;>omega
 refine⟨M.aV,?_,by simp[M.len],?_,?_,⟨⟨row',x',10*row',k⟩,by rw[List.getElem?_append_right (by simp[M.len]),M.len];simp,rfl,rfl⟩,by omega,by omega,?_,?_,?_,?_,?_⟩
 ·rcases hr with rfl|h
  ·exact M.bg
  ·exact h
 ·have:=M.s5
  rcases hks with rfl|rfl<;>simp<;>omega
 ·have:=M.tH
  rcases hps with rfl|⟨_,_,_,rfl⟩<;>simp<;>omega
 ·intro s hs
  rcases List.mem_append.1 hs with h|h
  ·obtain⟨z1,z2,z3,z4,z5,z6⟩:=M.dP s h;exact⟨z1,by omega,z3,by omega,z5,z6⟩
  ·obtain rfl:=List.mem_singleton.1 h
   exact⟨hrow1.1,by simp only;omega,hx1.1,by simp only;omega,rfl,hk0,hk2⟩
 ·refine QY M.up (fun s hs=>?_)
  obtain⟨s0,e0,e1,e2⟩:=M.last
  rw[List.getLast?_eq_getElem?,M.len,Nat.add_sub_cancel,e0]at hs
  obtain rfl:=Option.some.inj hs
  rw[j3]
  simp only
  rcases hst with h|h<;>omega
 ·intro a ha
  rcases hks with rfl|rfl
  ·have:=M.kill a ha;omega
  ·rcases List.mem_append.1 ha with h|h
   ·have:=M.kill a h;omega
   ·obtain rfl:=List.mem_singleton.1 h
    omega
 ·rcases hks with rfl|rfl
  ·exact M.zy
  ·refine QY (r:=fun a b=>a<b) M.zy (fun s hs=>?_)
   have:=M.kill s (List.mem_of_getLast? hs)
   omega
 ·intro p hp
  rcases hps with rfl|⟨r',h1,h2,rfl⟩
  ·have:=M.fR p hp;omega
  ·rcases List.mem_append.1 hp with h|h
   ·have:=M.fR p h;omega
   ·obtain rfl:=List.mem_singleton.1 h
    simp only;omega
def M1 (lv:Value) (cM:Int) (h:aa) (i:Nat) (v:ah) (row x u:Int) (σ:St):Prop:=∃row' x',Qd row x row' x'∧pA lv cM h i v row' x' σ∧σ.t.get 9=some (.int .u64 u)
def M2 (lv:Value) (cM:Int) (h:aa) (i:Nat) (v:ah) (row x u:Int) (σ:St):Prop:=∃k,0≤k∧k≤2∧pA lv cM h i v row x σ∧σ.t.get 9=some (.int .u64 u)∧σ.t.get 10=some (.pointer (some ⟨10,0,some 0⟩))∧σ.m.x.look 10=some (99,al ⟨row,x,10*row,k⟩)
def M3 (lv:Value) (cM:Int) (h:aa) (i:Nat) (v:ah) (row x u:Int) (σ:St):Prop:=∃ks,(ks=v.aD∨ks=v.aD++[((i+1:Nat):Int)])∧pA lv cM h i {v with aD:=ks} row x σ∧σ.t.get 9=some (.int .u64 u)
def M4 (lv:Value) (cM:Int) (h:aa) (i:Nat) (v:ah) (row x u:Int) (σ:St):Prop:=∃ps,(ps=v.aE∨∃r,1≤r∧r≤12∧ps=v.aE++[⟨x,10*row,r⟩])∧pA lv cM h i {v with aE:=ps} row x σ∧σ.t.get 9=some (.int .u64 u)
def M5 (lv:Value) (cM:Int) (h:aa) (i:Nat) (v:ah) (row x:Int) (σ:St):Prop:=∃r,(r=v.bg∨0≤r∧r≤24)∧pA lv cM h i {v with bg:=r} row x σ
def Tz (cM:Int) (h:aa) (r:Value) (h':aa):Prop:=Ext h h'∧∃(i:Nat) (v:ah) (row x:Int) (a b c:Option Nat) (cs:List Value),(i:Int)<cM∧Made i v row x∧a≠none∧uL h h' v a b c cs∧r= .agg ⟨cs⟩
theorem afO (lv:Value) (l:List Int) (cM:Int) (hm:1≤cM∧cM≤100) (hl:l.length≤4611686018427387904) (h:aa) (hs:aZ h lv l):
  ai PP 47 [lv,.int .i64 cM] h (Tz cM h):=by
 refine az mix ac3 Xl rfl (by show 2≤106;decide) ake ?_
 simp only[xU,Tryz.f47]
 have hr4:List.range 4=[0,1,2,3]:=rfl
 obtain⟨ad,cap,rfl⟩:=hs.shape
 simp -implicitDefEqProofs[aI,hr4]
 refine bD (uG (.slice ad l.length cap) cM h) _ ⟨0,⟨[⟨0,0,0,0⟩],10,0,[],[]⟩,0,0,rfl,by omega,?_,some h.n,none,none,_,Ext.new _ _,⟨_,_,_,rfl,⟨rfl,?_⟩,bz.nil,bz.nil,?_⟩,by simp,by simp,by simp,by simp,by simp,by simp,by simp,by simp,by simp[gW],by simp⟩ ?_
 ·exact⟨rfl,⟨by decide,by decide⟩,rfl,by simp,by simp,⟨_,rfl,rfl,rfl⟩,by simp,by simp,by simp,fun j s t _ h2=>by simp at h2,by simp,fun j a b h1=>by simp at h1,by simp⟩
 ·simp[al]
 ·refine⟨?_,?_,?_⟩<;>(intro n;simp)
 rintro m ⟨T,⟨x,H⟩⟩ ⟨i,v,row,x',rfl,him,hM,a,b,c,cs,hE,hO,ha,g0,g1,g4,g5,g6,g7,g8,x4,x5⟩
 simp at hE hO g0 g1 g4 g5 g6 g7 g8 x4 x5
 obtain⟨bs,rfl⟩:∃bs,a=some bs:=by cases a with|none=>exact absurd rfl ha|some b=>exact⟨b,rfl⟩
 have hO':=hO
 obtain⟨sv,kv,pv,rfl,⟨rfl,o1⟩,⟨rfl,o2⟩,⟨rfl,o3⟩,ap⟩:=hO
 have hlen:=hM.len
 by_cases q1:i<l.length
 rotate_left
 ·simp -implicitDefEqProofs[g0,g1,g4,g5,g6,g7,g8,x4,x5,q1]
  exact⟨hE,i,v,row,x',_,_,_,_,him,hM,ha,hO',rfl⟩
 by_cases q2:(v.af.length:Int)<cM
 rotate_left
 ·simp -implicitDefEqProofs[g0,g1,g4,g5,g6,g7,g8,x4,x5,q1,q2]
  exact⟨hE,i,v,row,x',_,_,_,_,him,hM,ha,hO',rfl⟩
 have hti:l[i]? =some l[i]:=List.getElem?_eq_getElem (by omega)
 obtain⟨_,b1,o1',wb1,cs1,r1,rfl,bq,hd1,hl1,_⟩:=(hs.ext hE).at 1 cY hti
 obtain⟨t,ht⟩:∃t,t=l[i]:=⟨_,rfl⟩
 rw[←ht]at hd1 hti
 rw[Nat.mul_one]at hd1 hl1
 obtain⟨u,hu⟩:∃u,u=t % 18446744073709551616:=⟨_,rfl⟩
 have e1:IntKind.wrap .u64 t=u:=by rw[Qn,hu]
 have hu0:0≤u∧u<18446744073709551616:=by omega
 obtain⟨ua,hua⟩:∃z,z=u.tmod 7:=⟨_,rfl⟩
 have e2:IntKind.wrap .u64 ua=ua:=gp (by rw[hua,Int.tmod_eq_emod_of_nonneg hu0.1];omega)
 have hrb:=hM.PO
 have hxb:=hM.xB
 have e3:IntKind.wrap .i64 (x'+10)=x'+10:=aA (by omega)
 have e4:IntKind.wrap .i64 (row+1)=row+1:=aA (by omega)
 have e5:IntKind.wrap .i64 (x'+10+5)=x'+10+5:=aA (by omega)
 simp -implicitDefEqProofs[g0,g1,g4,g5,g6,g7,g8,x4,x5,q1,q2,bq,hd1,hl1,ab,e1,e2,e3,←hua]
 refine yI (M1 (.slice (some ⟨b1,o1',none⟩) l.length cap) cM h i v row x' u) ?_ ?_
 ·refine bB (fun hc=>?_) (fun hc=>?_)
  ·simp -implicitDefEqProofs[e4]
   exact⟨row+1,0,.inr ⟨rfl,rfl⟩,⟨some bs,b,c,_,hE,hO',ha,by simp,by simp,by simp,by simp,by simp,by simp,by simp,by simp,by simp⟩,by simp⟩
  ·simp -implicitDefEqProofs
   refine bB (fun hc=>?_) (fun hc=>?_)
   ·simp -implicitDefEqProofs[e5]
    exact⟨row,x'+10+5,.inl ⟨rfl,by omega,by omega⟩,⟨some bs,b,c,_,hE,hO',ha,by simp,by simp,by simp,by simp,by simp,by simp,by simp,by simp,by simp⟩,by simp⟩
   ·simp -implicitDefEqProofs
    exact⟨row,x'+10,.inl ⟨rfl,by omega,by omega⟩,⟨some bs,b,c,_,hE,hO',ha,by simp,by simp,by simp,by simp,by simp,by simp,by simp,by simp,by simp⟩,by simp⟩
 clear g0 g1 g4 g5 g6 g7 g8 x4 x5 hE hO' o1 o2 o3 ap ha hs bq
 rintro⟨T1,⟨X1,H1⟩⟩ ⟨row1,x1,hst,⟨a,b,c,cs,hE,hO,ha,g0,g1,g4,g5,g6,g7,g8,x4,x5⟩,g9⟩
 simp at hE hO g0 g1 g4 g5 g6 g7 g8 x4 x5 g9
 obtain⟨bs,rfl⟩:∃bs,a=some bs:=by cases a with|none=>exact absurd rfl ha|some b=>exact⟨b,rfl⟩
 have hO':=hO
 obtain⟨sv,kv,pv,rfl,⟨rfl,o1⟩,⟨rfl,o2⟩,⟨rfl,o3⟩,ap⟩:=hO
 have hrow1:0≤row1∧row1≤i+1:=by rcases hst with h|h<;>omega
 have hx1:0≤x1∧x1≤15*(i+1):=by rcases hst with h|h<;>omega
 have f1:IntKind.wrap .i64 (10*row1)=10*row1:=aA (by omega)
 obtain⟨ub,hub⟩:∃z,z=u.tdiv 7:=⟨_,rfl⟩
 have hub0:0≤ub∧ub<18446744073709551616:=by rw[hub,Int.tdiv_eq_ediv_of_nonneg hu0.1];omega
 have f2:IntKind.wrap .u64 ub=ub:=gp (by omega)
 obtain⟨uc,huc⟩:∃z,z=ub.tmod 6:=⟨_,rfl⟩
 have f3:IntKind.wrap .u64 uc=uc:=gp (by rw[huc,Int.tmod_eq_emod_of_nonneg hub0.1];omega)
 simp -implicitDefEqProofs[g0,g1,g4,g5,g6,g7,g8,g9,x4,x5,f1,←hub,f2,←huc,f3]
 refine yI (M2 (.slice (some ⟨b1,o1',none⟩) l.length cap) cM h i v row1 x1 u) ?_ ?_
 ·by_cases k0:uc=0
  ·simp -implicitDefEqProofs[k0]
   exact⟨1,by decide,by decide,⟨some bs,b,c,_,hE,hO',ha,by simp,by simp,by simp,by simp,by simp,by simp,by simp,by simp,by simp⟩,by simp,by simp,by simp[al]⟩
  ·by_cases k1:uc=1
   ·simp -implicitDefEqProofs[k1]
    exact⟨2,by decide,by decide,⟨some bs,b,c,_,hE,hO',ha,by simp,by simp,by simp,by simp,by simp,by simp,by simp,by simp,by simp⟩,by simp,by simp,by simp[al]⟩
   ·by_cases k2:uc=2
    ·simp -implicitDefEqProofs[k2]
     exact⟨2,by decide,by decide,⟨some bs,b,c,_,hE,hO',ha,by simp,by simp,by simp,by simp,by simp,by simp,by simp,by simp,by simp⟩,by simp,by simp,by simp[al]⟩
    ·simp -implicitDefEqProofs[k0,k1,k2]
     exact⟨0,by decide,by decide,⟨some bs,b,c,_,hE,hO',ha,by simp,by simp,by simp,by simp,by simp,by simp,by simp,by simp,by simp⟩,by simp,by simp,by simp[al]⟩
 clear g0 g1 g4 g5 g6 g7 g8 g9 x4 x5 hE hO' o1 o2 o3 ap ha
 rintro⟨T2,⟨X2,H2⟩⟩ ⟨kd,hk0,hk2,⟨a,b,c,cs,hE,hO,ha,g0,g1,g4,g5,g6,g7,g8,x4,x5⟩,g9,g10,x10⟩
 simp at hE hO g0 g1 g4 g5 g6 g7 g8 x4 x5 g9 g10 x10
 obtain⟨bs,rfl⟩:∃bs,a=some bs:=by cases a with|none=>exact absurd rfl ha|some b=>exact⟨b,rfl⟩
 have hO':=hO
 obtain⟨sv,kv,pv,rfl,⟨rfl,o1⟩,⟨rfl,o2⟩,⟨rfl,o3⟩,ap⟩:=hO
 obtain⟨o11,o12,o13⟩:=o1
 have hbn:¬bs=H2.n:=by omega
 obtain⟨F,hF⟩:∃F,F=v.af.flatMap al:=⟨_,rfl⟩
 have hFl:F.length=v.af.length*4:=by rw[hF,dA 4 eM]
 rw[←hF]at o11
 have hmx:(v.af.length+1)*32≤140737488355328:=by omega
 have e8:F.take (v.af.length*4)=F:=List.take_of_length_le (by omega)
 obtain⟨uv,huv⟩:∃z,z=u.tdiv 42:=⟨_,rfl⟩
 have huv0:0≤uv∧uv<18446744073709551616:=by rw[huv,Int.tdiv_eq_ediv_of_nonneg hu0.1];omega
 have p1:IntKind.wrap .u64 uv=uv:=gp (by omega)
 obtain⟨uw,huw⟩:∃z,z=uv.tmod 9:=⟨_,rfl⟩
 have p2:IntKind.wrap .u64 uw=uw:=gp (by rw[huw,Int.tmod_eq_emod_of_nonneg huv0.1];omega)
 simp -implicitDefEqProofs[g0,g1,g4,g5,g6,g7,g8,g9,g10,x4,x5,x10,al,cB,cQ,aI,cH,hr4,hbn,o11,hFl,hmx,e8,←huv,p1,←huw,p2]
 obtain⟨G,hG⟩:∃G,G=((H2.new (aO.row true 99 [Value.int IntKind.i64 row1,Value.int IntKind.i64 x1,Value.int IntKind.i64 (10*row1),Value.int IntKind.i64 kd])).set bs aO.dead).new (aO.row true 99 (F++[Value.int IntKind.i64 row1,Value.int IntKind.i64 x1,Value.int IntKind.i64 (10*row1),Value.int IntKind.i64 kd])):=⟨_,rfl⟩
 rw[←hG]
 obtain⟨v1,hv1⟩:∃v1:ah,v1={v with af:=v.af++[⟨row1,x1,10*row1,kd⟩]}:=⟨_,rfl⟩
 have EG:Ext h G:=by rw[hG];exact yR hE o12 _ _ _
 have hOG:uL h G v1 (some (H2.n+1)) b c [.slice (some ⟨H2.n+1,0,none⟩) (v.af.length+1) (v.af.length+1),.int .i64 v.aV,.int .i64 v.bg,.slice (b.map fun b=>⟨b,0,none⟩) v.aD.length v.aD.length,.slice (c.map fun b=>⟨b,0,none⟩) v.aE.length v.aE.length]:=by
  obtain⟨p1,p2,p3⟩:=ap
  have k2:bz 3 ab h H2 b v.aD (.slice (b.map fun b=>⟨b,0,none⟩) v.aD.length v.aD.length):=⟨rfl,o2⟩
  have k3:bz 103 aQ h H2 c v.aE (.slice (c.map fun b=>⟨b,0,none⟩) v.aE.length v.aE.length):=⟨rfl,o3⟩
  have k1:bz 99 al h H2 (some bs) v.af (.slice (some ⟨bs,0,none⟩) v.af.length v.af.length):=⟨rfl,by rw[←hF];exact o11,o12,o13⟩
  subst hv1
  refine⟨_,_,_,rfl,?_,?_,?_,?_,?_,p3⟩
  ·rw[hG];exact k1.push _ _ (by simp[hF,al])
  ·rw[hG];exact k2.keep _ _ (p1 bs rfl)
  ·rw[hG];exact k3.keep _ _ (p2 bs rfl)
  ·intro n hn;obtain rfl:=Option.some.inj hn;exact k2.lt (by omega)
  ·intro n hn;obtain rfl:=Option.some.inj hn;exact k3.lt (by omega)
 have hl1v:v1.af.length=i+2:=by rw[hv1];simp[hlen]
 have hk1v:v1.aD=v.aD:=by rw[hv1]
 have hp1v:v1.aE=v.aE:=by rw[hv1]
 have hg1v:v1.aV=v.aV:=by rw[hv1]
 have hr1v:v1.bg=v.bg:=by rw[hv1]
 have n1:G.n=H2.n+2:=by rw[hG];rfl
 have hr1:List.range 1=[0]:=rfl
 clear g0 g1 g4 g5 g6 g7 g8 g9 g10 x4 x5 x10 hE hO'
 refine sF (M3 (.slice (some ⟨b1,o1',none⟩) l.length cap) cM h i v1 row1 x1 u) ?_ ?_
 ·by_cases k0:uw=0
  ·have r1:IntKind.wrap .i64 (v.af.length:Int)=((i+1:Nat):Int):=by rw[aA (by omega)];omega
   have hOG':=hOG
   obtain⟨_,_,_,ee,t1,t2,t3,a1,a2,a3⟩:=hOG
   simp only[List.cons.injEq,and_true,true_and]at ee
   obtain⟨rfl,_,_,rfl,rfl⟩:=ee
   cases b with
   |none=>
    simp -implicitDefEqProofs[o2,cB,cQ,aI,cH,hr1,k0,r1]
    have hk0:v1.aD=[]:=by rw[hk1v,o2]
    refine⟨[((i+1:Nat):Int)],.inr (by rw[hk0];rfl),⟨some (H2.n+1),some (G.n+1),c,_,(EG.bA _).bA _,⟨_,_,_,by rw[hg1v,hr1v],(t1.ext (Ext.new _ _)).ext (Ext.new _ _),bz.tL (by omega) _ _ (by simp[ab]),(t3.ext (Ext.new _ _)).ext (Ext.new _ _),fun n hn=>?_,a2,fun n hn=>?_⟩,by simp,by simp,by simp,by simp,by simp,by simp,by simp,by simp,by simp,by simp⟩,by simp⟩
    ·obtain rfl:=Option.some.inj hn;simp;omega
    ·obtain rfl:=Option.some.inj hn;exact t3.lt (by omega)
   |some bk=>
    obtain⟨o21,o22,o23⟩:=t2.2
    have hbk:¬bk=G.n:=by omega
    obtain⟨FK,hFK⟩:∃F,F=v1.aD.flatMap ab:=⟨_,rfl⟩
    have hFKl:FK.length=v.aD.length:=by have:=dA 1 cY v1.aD;rw[←hFK,hk1v]at this;omega
    rw[←hFK]at o21
    have hkl:=hM.s5
    have hmk:(v.aD.length+1)*8≤140737488355328:=by omega
    have e9:FK.take v.aD.length=FK:=List.take_of_length_le (by omega)
    simp -implicitDefEqProofs[cB,cQ,aI,cH,hr1,k0,r1,hbk,o21,hFKl,hmk,e9]
    have k2:=t2.push (.row true 3 [.int .i64 ((i+1:Nat):Int)]) ((i+1:Nat):Int) (cells:=FK++[.int .i64 ((i+1:Nat):Int)]) (by simp[hFK,ab])
    refine⟨v1.aD++[((i+1:Nat):Int)],.inr rfl,⟨some (H2.n+1),some (G.n+1),c,_,yR EG o22 _ _ _,⟨_,_,_,by rw[hg1v,hr1v],t1.keep _ _ (fun q=>a1 _ rfl q.symm),by rw[hk1v]at k2 ⊢;exact k2,t3.keep _ _ (a3 _ rfl),fun n hn=>?_,a2,fun n hn=>?_⟩,by simp,by simp,by simp,by simp,by simp,by simp,by simp,by simp,by simp,by simp⟩,by simp⟩
    ·obtain rfl:=Option.some.inj hn;simp;omega
    ·obtain rfl:=Option.some.inj hn;exact t3.lt (by omega)
  ·simp -implicitDefEqProofs[k0]
   refine⟨v1.aD,.inl rfl,⟨some (H2.n+1),b,c,_,EG,hOG,by simp,by simp,by simp,by simp,by simp,by simp,by simp,by simp,by simp,by simp⟩,by simp⟩
 clear hbn hF hFl o11 hmx e8 hG EG hOG n1 ha o2 o3 ap o12 o13
 rintro⟨T3,⟨X3,H3⟩⟩ ⟨ks,hks,⟨a,b,c,cs,hE,hO,ha,g0,g1,g4,g5,g6,g7,g8,x4,x5⟩,g9⟩
 simp at hE hO g0 g1 g4 g5 g6 g7 g8 x4 x5 g9
 obtain⟨v2,hv2⟩:∃v2:ah,v2={v1 with aD:=ks}:=⟨_,rfl⟩
 rw[←hv2]at hO
 have hO':=hO
 obtain⟨sv,kv,pv,rfl,t1,t2,t3,a1,a2,a3⟩:=hO
 obtain⟨ux,hux⟩:∃z,z=uv.tmod 11:=⟨_,rfl⟩
 have p3:IntKind.wrap .u64 ux=ux:=gp (by rw[hux,Int.tmod_eq_emod_of_nonneg huv0.1];omega)
 obtain⟨uy,huy⟩:∃z,z=u.tdiv 500:=⟨_,rfl⟩
 have huy0:0≤uy∧uy<18446744073709551616:=by rw[huy,Int.tdiv_eq_ediv_of_nonneg hu0.1];omega
 have p4:IntKind.wrap .u64 uy=uy:=gp (by omega)
 obtain⟨uz,huz⟩:∃z,z=uy.tmod 12:=⟨_,rfl⟩
 have huz0:0≤uz∧uz<12:=by rw[huz,Int.tmod_eq_emod_of_nonneg huy0.1];omega
 have p5:IntKind.wrap .u64 uz=uz:=gp (by omega)
 have p6:IntKind.wrap .i64 uz=uz:=aA (by omega)
 have p7:IntKind.wrap .i64 (1+uz)=1+uz:=aA (by omega)
 simp -implicitDefEqProofs[g0,g1,g4,g5,g6,g7,g8,g9,x4,x5,←huv,p1,←hux,p3]
 have hr3:List.range 3=[0,1,2]:=rfl
 have hp2v:v2.aE=v.aE:=by rw[hv2];exact hp1v
 refine sF (M4 (.slice (some ⟨b1,o1',none⟩) l.length cap) cM h i v2 row1 x1 u) ?_ ?_
 ·by_cases k0:ux=1
  ·cases c with
   |none=>
    obtain⟨rfl,t3'⟩:=t3
    have hp0:v2.aE=[]:=t3'
    simp -implicitDefEqProofs[hp0,g0,g1,g4,g5,g6,g7,g8,g9,x4,x5,cB,cQ,aI,cH,hr3,k0,f1,←huy,p4,←huz,p5,p6,p7]
    refine⟨[⟨x1,10*row1,1+uz⟩],.inr ⟨1+uz,by omega,by omega,by rw[hp0];rfl⟩,⟨a,b,some (H3.n+1),_,(hE.bA _).bA _,⟨_,_,_,rfl,(t1.ext (Ext.new _ _)).ext (Ext.new _ _),(t2.ext (Ext.new _ _)).ext (Ext.new _ _),bz.tL hE.n _ _ (by simp[aQ]),a1,fun n hn=>?_,fun n hn=>?_⟩,ha,by simp,by simp,by simp,by simp,by simp,by simp,by simp,by simp,by simp⟩,by simp⟩
    ·subst hn;intro q;obtain rfl:=Option.some.inj q;exact t1.lt (Nat.le_succ _) rfl
    ·subst hn;intro q;obtain rfl:=Option.some.inj q;exact t2.lt (Nat.le_succ _) rfl
   |some bk=>
    have t3'':=t3
    obtain⟨rfl,o21,o22,o23⟩:=t3
    have hbk:¬bk=H3.n:=by omega
    obtain⟨FK,hFK⟩:∃F,F=v2.aE.flatMap aQ:=⟨_,rfl⟩
    have hFKl:FK.length=v2.aE.length*3:=by rw[hFK];exact dA 3 mj v2.aE
    rw[←hFK]at o21
    have hpl:=hM.tH
    have hmk:(v2.aE.length+1)*24≤140737488355328:=by rw[hp2v];omega
    have e9:FK.take (v2.aE.length*3)=FK:=List.take_of_length_le (by omega)
    simp -implicitDefEqProofs[g0,g1,g4,g5,g6,g7,g8,g9,x4,x5,cB,cQ,aI,cH,hr3,k0,hbk,o21,hFKl,hmk,e9,f1,←huy,p4,←huz,p5,p6,p7]
    have k2:=t3''.push (.row true 103 [.int .i64 x1,.int .i64 (10*row1),.int .i64 (1+uz)]) ⟨x1,10*row1,1+uz⟩ (cells:=FK++[.int .i64 x1,.int .i64 (10*row1),.int .i64 (1+uz)]) (by simp[hFK,aQ])
    refine⟨v2.aE++[⟨x1,10*row1,1+uz⟩],.inr ⟨1+uz,by omega,by omega,rfl⟩,⟨a,b,some (H3.n+1),_,yR hE o22 _ _ _,⟨_,_,_,rfl,t1.keep _ _ (fun q=>a2 _ q rfl),t2.keep _ _ (fun q=>a3 _ q rfl),k2,a1,fun n hn=>?_,fun n hn=>?_⟩,ha,by simp,by simp,by simp,by simp,by simp,by simp,by simp,by simp,by simp⟩,by simp⟩
    ·subst hn;intro q;obtain rfl:=Option.some.inj q;exact t1.lt (Nat.le_succ _) rfl
    ·subst hn;intro q;obtain rfl:=Option.some.inj q;exact t2.lt (Nat.le_succ _) rfl
  ·simp -implicitDefEqProofs[k0]
   exact⟨v2.aE,.inl rfl,⟨a,b,c,_,hE,hO',ha,by simp,by simp,by simp,by simp,by simp,by simp,by simp,by simp,by simp⟩,by simp⟩
 clear g0 g1 g4 g5 g6 g7 g8 g9 x4 x5 hE hO' t1 t2 t3 a1 a2 a3 ha
 rintro⟨T4,⟨X4,H4⟩⟩ ⟨ps,hps,⟨a,b,c,cs,hE,hO,ha,g0,g1,g4,g5,g6,g7,g8,x4,x5⟩,g9⟩
 simp at hE hO g0 g1 g4 g5 g6 g7 g8 x4 x5 g9
 obtain⟨v3,hv3⟩:∃v3:ah,v3={v2 with aE:=ps}:=⟨_,rfl⟩
 rw[←hv3]at hO
 have hO':=hO
 obtain⟨sv,kv,pv,rfl,t1,t2,t3,ap⟩:=hO
 obtain⟨ur,hur⟩:∃z,z=uv.tmod 5:=⟨_,rfl⟩
 have p8:IntKind.wrap .u64 ur=ur:=gp (by rw[hur,Int.tmod_eq_emod_of_nonneg huv0.1];omega)
 obtain⟨us,hus⟩:∃z,z=u.tdiv 300:=⟨_,rfl⟩
 have hus0:0≤us∧us<18446744073709551616:=by rw[hus,Int.tdiv_eq_ediv_of_nonneg hu0.1];omega
 have p9:IntKind.wrap .u64 us=us:=gp (by omega)
 obtain⟨ut,hut⟩:∃z,z=us.tmod 25:=⟨_,rfl⟩
 have hut0:0≤ut∧ut<25:=by rw[hut,Int.tmod_eq_emod_of_nonneg hus0.1];omega
 have p10:IntKind.wrap .u64 ut=ut:=gp (by omega)
 have p11:IntKind.wrap .i64 ut=ut:=aA (by omega)
 simp -implicitDefEqProofs[g0,g1,g4,g5,g6,g7,g8,g9,x4,x5,←huv,p1,←hur,p8]
 refine yI (M5 (.slice (some ⟨b1,o1',none⟩) l.length cap) cM h i v3 row1 x1) ?_ ?_
 ·by_cases k0:ur=3
  ·simp -implicitDefEqProofs[g0,g1,g4,g5,g6,g7,g8,g9,x4,x5,k0,←hus,p9,←hut,p10,p11]
   exact⟨ut,.inr ⟨by omega,by omega⟩,⟨a,b,c,_,hE,⟨_,_,_,rfl,t1,t2,t3,ap⟩,ha,by simp,by simp,by simp,by simp,by simp,by simp,by simp,by simp,by simp⟩⟩
  ·simp -implicitDefEqProofs[k0]
   exact⟨v3.bg,.inl rfl,⟨a,b,c,_,hE,hO',ha,by simp,by simp,by simp,by simp,by simp,by simp,by simp,by simp,by simp⟩⟩
 clear g0 g1 g4 g5 g6 g7 g8 g9 x4 x5 hE hO' t1 t2 t3 ap ha
 rintro⟨T5,⟨X5,H5⟩⟩ ⟨r,hr,⟨a,b,c,cs,hE,hO,ha,g0,g1,g4,g5,g6,g7,g8,x4,x5⟩⟩
 simp at hE hO g0 g1 g4 g5 g6 g7 g8 x4 x5
 have w1:IntKind.wrap .i64 ((i:Int)+1)=((i+1:Nat):Int):=by rw[aA (by omega)];omega
 have hMade:Made (i+1) {v3 with bg:=r} row1 x1:=by
  rw[hv3,hv2,hv1]
  refine afN hM hst hk0 hk2 ?_ ?_ ?_
  ·rw[←hk1v];exact hks
  ·rw[←hp2v];exact hps
  ·rw[hv3]at hr;rw[←hr1v];rw[hv2]at hr;exact hr
 simp -implicitDefEqProofs[g0,g1,g4,g5,g6,g7,g8,x4,x5,w1]
 refine⟨(cM-((i+1:Nat):Int)).toNat,by omega,i+1,_,_,_,rfl,by omega,hMade,a,b,c,_,hE,hO,ha,by simp,by simp,by simp,by simp,by simp,by simp,by simp,by simp,by simp⟩
theorem nA {α:Type} {xs ys:List α} {i:Nat} {a b:α} (h1:xs[i]? =some a) (h2:ys[i]? =some b) (h:a≠b):xs≠ys:=fun e=>h (by rw[e,h2]at h1;exact(Option.some.inj h1).symm)
theorem nB {α:Type} {xs ys:List α} {i:Nat} {a:α} (h1:xs[i]? =some a) (h2:ys[i]? =some a) (h:xs.take i=ys.take i):xs.take (i+1)=ys.take (i+1):=by
 rw[List.take_add_one,List.take_add_one,h,h1,h2]
def qz (a b:ah):Bool:=decide (a.aV=b.aV)&&(decide (a.bg=b.bg)&&(decide (a.af=b.af)&&(decide (a.aD=b.aD)&&decide (a.aE=b.aE))))
theorem alF {xs ys:List aq} (hx:xs.Pairwise (fun a b=>dB a b=true)) (hp:ys.Perm xs) (hs:iN ys):ys=xs:=by
 have hy:ys.Pairwise (fun a b=>dB b a=false):=by
  rw[List.pairwise_iff_getElem]
  intro a b ha hb hab
  exact hs a b _ _ hab (List.getElem?_eq_getElem ha) (List.getElem?_eq_getElem hb)
 induction xs generalizing ys with
 |nil=>exact List.perm_nil.1 hp
 |cons x r ih=>
  cases ys with
  |nil=>exact absurd hp.length_eq (by simp)
  |cons y z=>
   rw[List.pairwise_cons]at hx hy
   have e:y=x:=by
    rcases List.mem_cons.1 (hp.subset (List.mem_cons_self))with e|e
    ·exact e
    ·have q1:=hx.1 y e
     rcases List.mem_cons.1 (hp.symm.subset (List.mem_cons_self))with e2|e2
     ·exact e2.symm
     ·have:=hy.1 x e2;rw[q1]at this;cases this
   subst e
   rw[ih hx.2 ((List.perm_cons y).1 hp) (fun i j a b hij hi hj=>hs (i+1) (j+1) a b (by omega) hi hj) hy.2]
theorem OF {i:Nat} {v:ah} {row x:Int} (M:Made i v row x) (hi:i≤150):aM v=true:=by
 have hlen:=M.len
 have hg:=M.aV
 have hr:=M.bg
 have hkl:=M.s5
 have hpl:=M.tH
 have h1:eE v.af=true:=by
  unfold eE
  rw[Bool.and_eq_true]
  refine⟨?_,by simp;omega⟩
  rw[List.all_eq_true]
  intro j hj
  rw[List.mem_range]at hj
  unfold dN
  have e:v.af[j]? =some v.af[j]:=List.getElem?_eq_getElem hj
  rw[e]
  have hs:=M.dP _ (List.getElem_mem hj)
  have h1:gF v.af[j]=true:=by
   simp only[gF,aB,Bool.and_eq_true,decide_eq_true_eq]
   omega
  simp only[h1,Bool.true_and]
  by_cases h0:j=0
  ·simp[h0]
  ·have e2:v.af[j-1]? =some v.af[j-1]:=List.getElem?_eq_getElem (by omega)
   rw[e2]
   have:=M.up (j-1) _ _ e2 (by rw[show j-1+1=j by omega];exact e)
   simp[this]
 have h2:aB v.aV 1 1048576=true:=by simp[aB,hg]
 have h3:aB v.bg 0 1048576=true:=by simp[aB];omega
 have h4:ft v.aD v.af.length=true:=by
  unfold ft
  rw[Bool.and_eq_true]
  refine⟨?_,by simp;omega⟩
  rw[List.all_eq_true]
  intro j hj
  rw[List.mem_range]at hj
  unfold eV
  have e:v.aD[j]? =some v.aD[j]:=List.getElem?_eq_getElem hj
  rw[e]
  have hs:=M.kill _ (List.getElem_mem hj)
  simp only[Bool.and_eq_true,Bool.or_eq_true,decide_eq_true_eq]
  refine⟨by omega,by omega,?_⟩
  by_cases h0:j=0
  ·exact .inl h0
  ·have e2:v.aD[j-1]? =some v.aD[j-1]:=List.getElem?_eq_getElem (by omega)
   rw[e2]
   have:=M.zy (j-1) _ _ e2 (by rw[show j-1+1=j by omega];exact e)
   exact .inr (by simpa using this)
 have h5:fS v.aE=true:=by
  unfold fS
  rw[Bool.and_eq_true]
  refine⟨?_,by simp;omega⟩
  rw[List.all_eq_true]
  intro j hj
  rw[List.mem_range]at hj
  unfold fy
  have e:v.aE[j]? =some v.aE[j]:=List.getElem?_eq_getElem hj
  rw[e]
  have hs:=M.fR _ (List.getElem_mem hj)
  simp only[ij,aB,Bool.and_eq_true,decide_eq_true_eq]
  omega
 unfold aM jL
 rw[h1,h2,h3,h4,h5]
 rfl
theorem amM (a b:aq) (h:aa):ai PP 188 [aX a,aX b] h (fun v h'=>h'=h∧v= .bool (dB a b)):=by
 refine az mix abO VX rfl (by show 2≤24;decide) ai2 ?_
 simp only[wq,Tryz.f188]
 unfold dB
 by_cases h1:a.row<b.row
 ·simp -implicitDefEqProofs[aX,al,h1]
 ·by_cases h2:a.row=b.row
  ·simp -implicitDefEqProofs[aX,al,h1,h2]
  ·simp -implicitDefEqProofs[aX,al,h1,h2]
theorem mu (n lo hi:Int) (h:aa):ai PP 181 [.int .i64 n,.int .i64 lo,.int .i64 hi] h (fun v h'=>h'=h∧v= .bool (aB n lo hi)):=by
 refine az mix Ku Bx rfl (by show 3≤15;decide) Pb ?_
 simp only[sy,Tryz.f181]
 unfold aB
 by_cases h1:lo≤n
 ·simp -implicitDefEqProofs[h1]
 ·simp -implicitDefEqProofs[h1]
theorem rL (n:Int) (h:aa):ai PP 229 [.int .i64 n] h (fun v h'=>h'=h∧v= .bool (aB n (-1048576) 1048576)):=by
 refine az mix Kw Bz rfl (by show 1≤5;decide) Pd ?_
 simp only[sB,Tryz.f229]
 simp -implicitDefEqProofs
 refine(mu n (-1048576) 1048576 h).mono ?_
 rintro v h' ⟨rfl,rfl⟩
 simp -implicitDefEqProofs[ae]
def uH (s:Value) (l:List aq) (m:Nat) (h:aa) (n:Nat) (σ:St):Prop:=∃i:Nat,n=m-i∧i≤m∧σ.m.h=h∧σ.t.get 0=some s∧σ.t.get 3=some (.int .i64 (i:Nat))∧(List.range i).all (dN l)=true
theorem amV (s:Value) (l:List aq) (hl:l.length≤1073741824) (h:aa) (hs:bT h s l):ai PP 180 [s] h (fun v h'=>h'=h∧v= .bool (eE l)):=by
 refine az mix abL VU rfl (by show 1≤59;decide) aiZ ?_
 simp only[wi,Tryz.f180]
 obtain⟨ad,c,rfl⟩:=hs.shape
 obtain⟨m,hm⟩:∃m,m=l.length:=⟨_,rfl⟩
 rw[←hm]at hs ⊢
 simp -implicitDefEqProofs
 refine bD (uH (.slice ad m c) l m h) _ ⟨0,rfl,by omega,rfl,by simp,by simp,rfl⟩ ?_
 rintro n ⟨T,⟨x,H⟩⟩ ⟨i,rfl,hi,hH,g0,g3,aL⟩
 simp at hH g0 g3
 subst hH
 simp -implicitDefEqProofs[g0,g3]
 refine bB (fun hc=>?_) (fun hc=>?_)<;>simp only[decide_eq_true_eq,decide_eq_false_iff_not]at hc
 ·have hil:i<m:=by omega
  have hti:l[i]? =some l[i]:=List.getElem?_eq_getElem (by omega)
  obtain⟨_,b,o,wb,cs,r,rfl,hb,hd,hlc,_⟩:=hs.at 4 eM hti
  obtain⟨t,ht⟩:∃t,t=l[i]:=⟨_,rfl⟩
  rw[←ht]at hd hti
  have w1:IntKind.wrap .i64 ((i:Int)+1)=((i+1:Nat):Int):=by rw[aA (by omega)];omega
  have hlc':o+i*4+4≤cs.length:=hlc
  have fin:dN l i=false→eE l=false:=fun hp=>by unfold eE;rw[all_false (by omega) hp];rfl
  simp -implicitDefEqProofs[g0,g3,hil,hb,hd,hlc',al]
  refine(mu t.row 0 999 H).mono ?_
  rintro v h' ⟨rfl,rfl⟩
  simp -implicitDefEqProofs[aC]
  intro _
  by_cases q1:aB t.row 0 999=true
  rotate_left
  ·have hp:dN l i=false:=by simp[dN,hti,gF,q1]
   simp -implicitDefEqProofs[q1,fin hp]
  simp -implicitDefEqProofs[q1]
  refine(rL t.x h').mono ?_
  rintro v h' ⟨rfl,rfl⟩
  simp -implicitDefEqProofs[aC]
  intro _
  by_cases q2:aB t.x (-1048576) 1048576=true
  rotate_left
  ·have hp:dN l i=false:=by simp[dN,hti,gF,q2]
   simp -implicitDefEqProofs[q2,fin hp]
  simp -implicitDefEqProofs[q2]
  refine(rL t.y h').mono ?_
  rintro v h' ⟨rfl,rfl⟩
  simp -implicitDefEqProofs[aC]
  intro _
  by_cases q3:aB t.y (-1048576) 1048576=true
  rotate_left
  ·have hp:dN l i=false:=by simp[dN,hti,gF,q3]
   simp -implicitDefEqProofs[q3,fin hp]
  simp -implicitDefEqProofs[q3]
  refine(mu t.kind 0 2 h').mono ?_
  rintro v h' ⟨rfl,rfl⟩
  simp -implicitDefEqProofs[aC]
  intro _
  by_cases q4:aB t.kind 0 2=true
  rotate_left
  ·have hp:dN l i=false:=by simp[dN,hti,gF,q4]
   simp -implicitDefEqProofs[q4,fin hp]
  have h1:gF t=true:=by simp[gF,q1,q2,q3,q4]
  by_cases h2:i=0
  ·subst h2
   have hp:dN l 0=true:=by simp[dN,hti,h1]
   simp -implicitDefEqProofs[q4,g0,g3]
   exact⟨m-1,by omega,1,rfl,by omega,rfl,by simp[g0],by simp[aA],all_succ aL hp⟩
  ·have eJ:i-1<m:=by omega
   have htp:l[i-1]? =some l[i-1]:=List.getElem?_eq_getElem (by omega)
   obtain⟨p,hp⟩:∃p,p=l[i-1]:=⟨_,rfl⟩
   rw[←hp]at htp
   obtain⟨_,b',o',wb',cs',r',e1,hb',hd',hlc2,_⟩:=hs.at 4 eM htp
   simp only[Option.some.injEq,Addr.mk.injEq,and_true]at e1
   obtain⟨rfl,rfl⟩:=e1
   rw[hb]at hb'
   simp only[aO.row.injEq,true_and]at hb'
   obtain⟨rfl,rfl⟩:=hb'
   obtain⟨j,hj⟩:∃j,j=i-1:=⟨_,rfl⟩
   rw[←hj]at hd' hlc2 eJ
   have w2:IntKind.wrap .i64 ((i:Int)-1)=(j:Int):=by rw[aA (by omega)];omega
   have h0:(0:Int)<(i:Int):=by omega
   have hlc3:o+j*4+4≤cs.length:=hlc2
   simp -implicitDefEqProofs[q4,h0,h2,w2,eJ,hb,hd',hlc3,al,show 0<i by omega,g0,g3]
   refine(amM p t h').mono ?_
   rintro v h'' ⟨rfl,rfl⟩
   simp -implicitDefEqProofs[aC]
   intro _
   by_cases h3:dB p t=true
   ·have hp:dN l i=true:=by simp[dN,hti,h1,htp,h3]
    simp -implicitDefEqProofs[h3,g0,g3,w1]
    exact⟨m-(i+1),by omega,i+1,rfl,by omega,rfl,by simp[g0],by simp,all_succ aL hp⟩
   ·have hp:dN l i=false:=by simp[dN,hti,h1,htp,h3,h2]
    simp -implicitDefEqProofs[h3,fin hp]
 ·have:i=m:=by omega
  subst this
  rw[hm]at aL
  have he:eE l=(decide (0<l.length)&&decide (l.length≤4096)):=by unfold eE;rw[aL];rfl
  rw[he,←hm]
  by_cases h1:0<i
  ·have h1':(1:Int)≤(i:Int):=by omega
   by_cases h2:(i:Int)≤4096
   ·have h2':i≤4096:=by omega
    simp -implicitDefEqProofs[g0,h1,h1',h2,h2']
   ·have h2':¬i≤4096:=by omega
    simp -implicitDefEqProofs[g0,h1,h1',h2,h2']
  ·have:i=0:=by omega
   subst this
   simp -implicitDefEqProofs[g0]
def uI (s:Value) (l:List Int) (k:Int) (m:Nat) (h:aa) (n:Nat) (σ:St):Prop:=∃i:Nat,n=m-i∧i≤m∧σ.m.h=h∧σ.t.get 0=some s∧σ.t.get 1=some (.int .i64 k)∧σ.t.get 5=some (.int .i64 (i:Nat))∧(List.range i).all (eV l k)=true
theorem amL (s:Value) (l:List Int) (k:Int) (hk:0≤k∧k≤1073741824) (hl:l.length≤1073741824) (h:aa) (hs:aZ h s l):ai PP 182 [s,.int .i64 k] h (fun v h'=>h'=h∧v= .bool (ft l k)):=by
 refine az mix abM VV rfl (by show 2≤39;decide) ai0 ?_
 simp only[wm,Tryz.f182]
 obtain⟨ad,c,rfl⟩:=hs.shape
 obtain⟨m,hm⟩:∃m,m=l.length:=⟨_,rfl⟩
 rw[←hm]at hs ⊢
 simp -implicitDefEqProofs
 refine bD (uI (.slice ad m c) l k m h) _ ⟨0,rfl,by omega,rfl,by simp,by simp,by simp,rfl⟩ ?_
 rintro n ⟨T,⟨x,H⟩⟩ ⟨i,rfl,hi,hH,g0,g1,g5,aL⟩
 simp at hH g0 g1 g5
 subst hH
 simp -implicitDefEqProofs[g0,g1,g5]
 refine bB (fun hc=>?_) (fun hc=>?_)<;>simp only[decide_eq_true_eq,decide_eq_false_iff_not]at hc
 ·have hil:i<m:=by omega
  have hti:l[i]? =some l[i]:=List.getElem?_eq_getElem (by omega)
  obtain⟨_,b,o,wb,cs,r,rfl,hb,hd,hlc,_⟩:=hs.at 1 cY hti
  obtain⟨t,ht⟩:∃t,t=l[i]:=⟨_,rfl⟩
  rw[←ht]at hd hti
  have w1:IntKind.wrap .i64 ((i:Int)+1)=((i+1:Nat):Int):=by rw[aA (by omega)];omega
  have hlc':o+i+1≤cs.length:=by omega
  rw[Nat.mul_one]at hd
  have fin:eV l k i=false→ft l k=false:=fun hp=>by unfold ft;rw[all_false (by omega) hp];rfl
  have w3:IntKind.wrap .i64 (k-1)=k-1:=aA (by omega)
  simp -implicitDefEqProofs[g0,g1,g5,hil,hb,hd,hlc',ab,w3]
  refine(mu t 0 (k-1) H).mono ?_
  rintro v h' ⟨rfl,rfl⟩
  simp -implicitDefEqProofs[aC]
  intro _
  by_cases q1:aB t 0 (k-1)=true
  rotate_left
  ·have hp:eV l k i=false:=by
    simp only[aB,Bool.and_eq_true,decide_eq_true_eq]at q1
    simp[eV,hti];omega
   simp -implicitDefEqProofs[q1,fin hp]
  have q1':=q1
  simp only[aB,Bool.and_eq_true,decide_eq_true_eq]at q1'
  by_cases h3:i=0
  ·subst h3
   have hp:eV l k 0=true:=by simp[eV,hti];omega
   simp -implicitDefEqProofs[q1,g0,g1,g5]
   exact⟨m-1,by omega,1,rfl,by omega,rfl,by simp[g0],by simp[g1],by simp[aA],all_succ aL hp⟩
  ·have eJ:i-1<m:=by omega
   have htp:l[i-1]? =some l[i-1]:=List.getElem?_eq_getElem (by omega)
   obtain⟨p,hp⟩:∃p,p=l[i-1]:=⟨_,rfl⟩
   rw[←hp]at htp
   obtain⟨_,b',o',wb',cs',r',e1,hb',hd',hlc2,_⟩:=hs.at 1 cY htp
   simp only[Option.some.injEq,Addr.mk.injEq,and_true]at e1
   obtain⟨rfl,rfl⟩:=e1
   rw[hb]at hb'
   simp only[aO.row.injEq,true_and]at hb'
   obtain⟨rfl,rfl⟩:=hb'
   obtain⟨j,hj⟩:∃j,j=i-1:=⟨_,rfl⟩
   rw[←hj,Nat.mul_one]at hd' hlc2
   have hjm:j<m:=by omega
   have w2:IntKind.wrap .i64 ((i:Int)-1)=(j:Int):=by rw[aA (by omega)];omega
   have h0:(0:Int)<(i:Int):=by omega
   have h0':0<i:=by omega
   by_cases h4:t≤p
   ·have hp:eV l k i=false:=by simp[eV,hti,htp,h3];omega
    simp -implicitDefEqProofs[q1,g0,g1,g5,hil,hb,hd,hlc',ab,h0,h0',h3,w2,hjm,hd',hlc2,h4,fin hp]
   ·have hp:eV l k i=true:=by simp[eV,hti,htp,h3];omega
    simp -implicitDefEqProofs[q1,g0,g1,g5,hil,hb,hd,hlc',ab,h0,h0',h3,w2,hjm,hd',hlc2,h4,w1]
    exact⟨m-(i+1),by omega,i+1,rfl,by omega,rfl,by simp[g0],by simp[g1],by simp,all_succ aL hp⟩
 ·have:i=m:=by omega
  subst this
  rw[hm]at aL
  have he:ft l k=decide (l.length≤200):=by unfold ft;rw[aL];rfl
  rw[he,←hm]
  by_cases h2:(i:Int)≤200
  ·have h2':i≤200:=by omega
   simp -implicitDefEqProofs[g0,h2,h2']
  ·have h2':¬i≤200:=by omega
   simp -implicitDefEqProofs[g0,h2,h2']
def SK (s:Value) (l:List aP) (m:Nat) (h:aa) (n:Nat) (σ:St):Prop:=∃i:Nat,n=m-i∧i≤m∧σ.m.h=h∧σ.t.get 0=some s∧σ.t.get 3=some (.int .i64 (i:Nat))∧(List.range i).all (fy l)=true
theorem amU (s:Value) (l:List aP) (hl:l.length≤1073741824) (h:aa) (hs:bX h s l):ai PP 183 [s] h (fun v h'=>h'=h∧v= .bool (fS l)):=by
 refine az mix abN VW rfl (by show 1≤38;decide) ai1 ?_
 simp only[wo,Tryz.f183]
 obtain⟨ad,c,rfl⟩:=hs.shape
 obtain⟨m,hm⟩:∃m,m=l.length:=⟨_,rfl⟩
 rw[←hm]at hs ⊢
 simp -implicitDefEqProofs
 refine bD (SK (.slice ad m c) l m h) _ ⟨0,rfl,by omega,rfl,by simp,by simp,rfl⟩ ?_
 rintro n ⟨T,⟨x,H⟩⟩ ⟨i,rfl,hi,hH,g0,g3,aL⟩
 simp at hH g0 g3
 subst hH
 simp -implicitDefEqProofs[g0,g3]
 refine bB (fun hc=>?_) (fun hc=>?_)<;>simp only[decide_eq_true_eq,decide_eq_false_iff_not]at hc
 ·have hil:i<m:=by omega
  have hti:l[i]? =some l[i]:=List.getElem?_eq_getElem (by omega)
  obtain⟨_,b,o,wb,cs,r,rfl,hb,hd,hlc,_⟩:=hs.at 3 mj hti
  obtain⟨t,ht⟩:∃t,t=l[i]:=⟨_,rfl⟩
  rw[←ht]at hd hti
  have w1:IntKind.wrap .i64 ((i:Int)+1)=((i+1:Nat):Int):=by rw[aA (by omega)];omega
  have hlc':o+i*3+3≤cs.length:=hlc
  have l1:o+i*3+1≤cs.length:=by omega
  have l2:o+i*3+1+1≤cs.length:=by omega
  have l3:o+i*3+2+1≤cs.length:=by omega
  have d1:(cs.drop (o+i*3)).take 1=[.int .i64 t.x]:=by rw[hd];rfl
  have d2:(cs.drop (o+i*3+1)).take 1=[.int .i64 t.y]:=by rw[←List.drop_drop,hd];rfl
  have d3:(cs.drop (o+i*3+2)).take 1=[.int .i64 t.r]:=by rw[←List.drop_drop,hd];rfl
  have fin:fy l i=false→fS l=false:=fun hp=>by unfold fS;rw[all_false (by omega) hp];rfl
  simp -implicitDefEqProofs[g0,g3,hil,hb,d1,l1]
  refine(rL t.x H).mono ?_
  rintro v h' ⟨rfl,rfl⟩
  simp -implicitDefEqProofs[ae]
  intro _
  by_cases h1:aB t.x (-1048576) 1048576=true
  ·simp -implicitDefEqProofs[h1,g0,g3,hil,hb,d2,l2]
   refine(rL t.y h').mono ?_
   rintro v h2 ⟨rfl,rfl⟩
   simp -implicitDefEqProofs[ae]
   intro _
   by_cases h3:aB t.y (-1048576) 1048576=true
   ·simp -implicitDefEqProofs[h3,g0,g3,hil,hb,d3,l3]
    refine(mu t.r 1 1048576 h2).mono ?_
    rintro v h4 ⟨rfl,rfl⟩
    simp -implicitDefEqProofs[ae]
    intro _
    by_cases h5:aB t.r 1 1048576=true
    ·have hp:fy l i=true:=by simp[fy,hti,ij,h1,h3,h5]
     simp -implicitDefEqProofs[h5,g0,g3,w1]
     exact⟨m-(i+1),by omega,i+1,rfl,by omega,rfl,by simp[g0],by simp,all_succ aL hp⟩
    ·have hp:fy l i=false:=by simp[fy,hti,ij,h1,h3,h5]
     simp -implicitDefEqProofs[h5,fin hp]
   ·have hp:fy l i=false:=by simp[fy,hti,ij,h1,h3]
    simp -implicitDefEqProofs[h3,fin hp]
  ·have hp:fy l i=false:=by simp[fy,hti,ij,h1]
   simp -implicitDefEqProofs[h1,fin hp]
 ·have:i=m:=by omega
  subst this
  rw[hm]at aL
  have he:fS l=decide (l.length≤200):=by unfold fS;rw[aL];rfl
  rw[he,←hm]
  by_cases h2:(i:Int)≤200
  ·have h2':i≤200:=by omega
   simp -implicitDefEqProofs[g0,h2,h2']
  ·have h2':¬i≤200:=by omega
   simp -implicitDefEqProofs[g0,h2,h2']
theorem am7 (v:ah) (cs:List Value) (hv:ji v) (h:aa) (H:bF h v cs):ai PP 130 [.agg ⟨cs⟩] h (fun r h'=>h'=h∧r= .string (B (jL v))):=by
 refine az mix abc Vk rfl (by show 1≤31;decide) air ?_
 simp only[vu,Tryz.f130]
 obtain⟨s,k,p,rfl,h1,h2,h3⟩:=H
 obtain⟨ad1,c1,e1⟩:=h1.shape
 obtain⟨ad2,c2,e2⟩:=h2.shape
 obtain⟨ad3,c3,e3⟩:=h3.shape
 subst e1;subst e2;subst e3
 unfold jL
 simp -implicitDefEqProofs
 refine(amV _ v.af hv.1 h h1).mono ?_
 rintro r h' ⟨rfl,rfl⟩
 simp -implicitDefEqProofs[ae]
 intro _
 by_cases q1:eE v.af=true
 ·simp -implicitDefEqProofs[q1]
  refine(mu v.aV 1 1048576 h').mono ?_
  rintro r h' ⟨rfl,rfl⟩
  simp -implicitDefEqProofs[ae]
  intro _
  by_cases q2:aB v.aV 1 1048576=true
  ·simp -implicitDefEqProofs[q2]
   refine(mu v.bg 0 1048576 h').mono ?_
   rintro r h' ⟨rfl,rfl⟩
   simp -implicitDefEqProofs[ae]
   intro _
   by_cases q3:aB v.bg 0 1048576=true
   ·simp -implicitDefEqProofs[q3]
    refine(amL _ v.aD v.af.length (by have:=hv.1;omega) hv.2.1 h' h2).mono ?_
    rintro r h' ⟨rfl,rfl⟩
    simp -implicitDefEqProofs[ae]
    intro _
    by_cases q4:ft v.aD v.af.length=true
    ·simp -implicitDefEqProofs[q4]
     refine(amU _ v.aE hv.2.2 h' h3).mono ?_
     rintro r h' ⟨rfl,rfl⟩
     simp -implicitDefEqProofs[ae]
     intro _
     by_cases q5:fS v.aE=true
     ·simp -implicitDefEqProofs[q5]
     ·simp -implicitDefEqProofs[q5]
    ·simp -implicitDefEqProofs[q4]
   ·simp -implicitDefEqProofs[q3]
  ·simp -implicitDefEqProofs[q2]
 ·simp -implicitDefEqProofs[q1]
theorem amO (v:ah) (cs:List Value) (hv:ji v) (h:aa) (H:bF h v cs):ai PP 88 [.agg ⟨cs⟩] h (fun r h'=>h'=h∧r= .bool (aM v)):=by
 refine az mix adG XL rfl (by show 1≤6;decide) akE ?_
 simp only[yw,Tryz.f88]
 have hw:=am7 v cs hv h H
 obtain⟨s,k,p,rfl,h1,h2,h3⟩:=H
 simp -implicitDefEqProofs
 refine hw.mono ?_
 rintro r h' ⟨rfl,rfl⟩
 simp -implicitDefEqProofs[ae,aM]
end Go.Proofs.Ybk.V
namespace Go.Proofs.Ybk.V
open Go Go.Am
set_option maxHeartbeats 4000000
def A7 (xs:List aq):Prop:=xs.Pairwise (fun a b=>dB b a=false)
theorem A7.sorted {xs:List aq} (h:A7 xs):iN xs:=by
 intro i j a b hij ha hb
 have h1:=(List.getElem?_eq_some_iff.mp ha)
 have h2:=(List.getElem?_eq_some_iff.mp hb)
 obtain⟨p1,rfl⟩:=h1
 obtain⟨p2,rfl⟩:=h2
 exact(List.pairwise_iff_getElem.1 h) i j p1 p2 hij
def Ri (ks:List Int):Prop:=ks.Pairwise (fun a b=>a<b)
theorem amJ {a b:List Int} (ha:Ri a) (hb:Ri b) (h:∀x,x∈a↔x∈b):a=b:=by
 have n1:a.Nodup:=ha.imp (fun{x y} hxy=>by omega)
 have n2:b.Nodup:=hb.imp (fun{x y} hxy=>by omega)
 have hp:a.Perm b:=(List.perm_ext_iff_of_nodup n1 n2).2 h
 exact hp.eq_of_pairwise (fun x y _ _ q1 q2=>by omega) ha hb
end Go.Proofs.Ybk.V
namespace Go.Proofs
open Go.Shelf Go.RowKit Go.Lib Go.Sort
def Tryz.Zo:Go.Shelf.Ren:=⟨fun|20=>169|n=>n,fun|22=>22|3=>3|4=>4|0=>0|n=>n,fun|n=>n⟩
theorem Tryz.Zn:Lays2.n20 Tryz.prog Tryz.Zo:={
 mixed:=by kernel_rfl,
 f20:=Tryz.func169.trans (congrArg some (by kernel_rfl)),
 t0:=Tryz.underlying0,
 a0:=Tryz.isAgg0,
 z0:=Tryz.sizeOf0,
 v0:=Tryz.zeroValue0,
 t3:=Tryz.underlying3,
 a3:=Tryz.isAgg3,
 z3:=Tryz.sizeOf3,
 v3:=Tryz.zeroValue3,
 t4:=Tryz.underlying4,
 a4:=Tryz.isAgg4,
 z4:=Tryz.sizeOf4,
 v4:=Tryz.zeroValue4,
 t22:=Tryz.underlying22,
 a22:=Tryz.isAgg22,
 z22:=Tryz.sizeOf22,
 v22:=Tryz.zeroValue22,
 i3:=by kernel_rfl}
end Go.Proofs
namespace Go.Proofs.Ybk.V
open Go Go.Am
set_option maxHeartbeats 2000000
theorem yK (xs:List Int):(Lib.compact xs).length≤xs.length:=by
 unfold Lib.compact Lib.compactUpTo
 rw[List.length_map]
 exact Nat.le_trans (List.length_filter_le _ _) (by simp)
def ir (xs:List Int):List Int:=Lib.compact xs++List.replicate (xs.length-(Lib.compact xs).length) 0
theorem Zw (xs:List Int):(ir xs).length=xs.length:=by
 have:=yK xs
 unfold ir
 simp;omega
theorem Zm (b c:Nat) (xs:List Int) (hn:xs≠[]) (hl:xs.length≤1073741824) (h:aa) (hb:h.f b= .row true 3 (xs.flatMap ab)):
  ai PP 169 [.slice (some ⟨b,0,none⟩) xs.length c] h (fun r h'=>r= .slice (some ⟨b,0,none⟩) (Lib.compact xs).length (Lib.compact xs).length∧h'=h.set b (.row true 3 ((ir xs).flatMap ab))):=by
 rw[gu]
 refine⟨⟨Tryz.f169,Tryz.func169,by kernel_rfl,by kernel_rfl⟩,fun ρ w args' hbx R V=>?_⟩
 obtain⟨v0,hv0,V0⟩:=V.2 0 _ rfl
 have hargs:args'=[v0]:=by
  have:=V.1
  match args',hv0,this with
  |[p],h0,_=>simp at h0;rw[h0]
 subst hargs
 have hlen:0<xs.length:=List.length_pos_iff.2 hn
 obtain⟨pl,cap,hk,hc1,hc2,e0⟩:∃pl cap,ρ (false,b)=some pl∧xs.length≤cap∧0+cap*pl.sz≤pl.n∧v0= .slice (some ⟨pl.B,pl.o,none⟩) xs.length cap:=by
  rcases V0.kj with⟨a',e,_⟩|⟨b',off,pl,cap,e,hk,hc,hn',rfl⟩
  ·omega
  ·simp only[Addr.mk.injEq,and_true]at e
   obtain⟨rfl,rfl⟩:=e
   exact⟨pl,cap,hk,hc,hn',by simp⟩
 subst e0
 obtain⟨C,e',fz,c1,c2,c3,c4,c5,c6⟩:=R.row (false,b) pl true 3 (xs.flatMap ab) hk (by simp[Mem.row?,hb])
 obtain rfl:=c2 rfl
 have hblk:=R.bound _ _ hk
 have hfl:(xs.flatMap ab).length=xs.length:=by have:=dA 1 cY xs;omega
 have hcell:∀j (hj:j<xs.length),C[pl.o+j]? =some (.int .i64 xs[j]):=by
  intro j hj
  obtain⟨v',q1,q2⟩:=c6 j _ (sY xs j hj)
  rw[q1]
  congr 1
  exact q2.cA rfl
 have hH:Go.Sort.Holds (Value.int .i64) w pl.B pl.o xs.toArray:=by
  intro j hj
  have hj':j<xs.length:=by simpa using hj
  have e:xs.toArray[j]! =xs[j]:=by simp[hj']
  rw[e]
  constructor
  ·unfold World.cell?
   simp only[c1,Option.isSome_none]
   exact hcell j hj'
  ·unfold World.frozen?
   simp only[c1]
   simp
 have hcon':Calls Tryz.prog 169 ⟨[.slice (some ⟨pl.B,pl.o,none⟩) xs.length cap]⟩ w _:=Any.slices_Compact_int Tryz.Zn pl.B pl.o cap xs w hH (by omega) (by omega)
 refine hcon'.mono ?_
 rintro e w' ⟨rfl,n,rfl⟩
 have hd:(ir xs).length=xs.length:=Zw xs
 refine⟨.slice (some ⟨b,0,none⟩) (Lib.compact xs).length (Lib.compact xs).length,.slice (some ⟨pl.B,pl.o,none⟩) (Lib.compact xs).length cap,_,ρ,rfl,⟨rfl,rfl⟩,hbx,?_⟩
 have hfl':((ir xs).flatMap ab).length=xs.length:=by have:=dA 1 cY (ir xs);omega
 have hheap:(Go.Sort.putRow (Value.int .i64) (Go.Sort.ahead w n) pl.B pl.o (ir xs).toArray).heap=(w.heap.modify pl.B (Go.Sort.onCells (Go.Sort.putCells (Value.int .i64) pl.o (ir xs).toArray))):=rfl
 have hsz:(w.heap.modify pl.B (Go.Sort.onCells (Go.Sort.putCells (Value.int .i64) pl.o (ir xs).toArray))).size=w.heap.size:=by simp
 obtain⟨q1,q2⟩:=nD R hk hb (cs':=(ir xs).flatMap ab) (by rw[hfl',hfl]) (w':=Go.Sort.putRow (Value.int .i64) (Go.Sort.ahead w n) pl.B pl.o (ir xs).toArray) rfl rfl rfl (Nat.le_add_right _ _) (by rw[hheap,hsz];omega)
  (fun B hB hne=>by
   rw[hheap,Array.getElem?_modify,if_neg (Ne.symm hne)])
  (fun C2 e2 fz2 hC2=>by
   rw[c1]at hC2
   simp only[Option.some.injEq,Obj.cells.injEq]at hC2
   obtain⟨rfl,rfl,rfl⟩:=hC2
   refine⟨Go.Sort.putCells (Value.int .i64) pl.o (ir xs).toArray C,?_,by simp[Go.Sort.putCells],fun i v hi=>?_⟩
   ·rw[hheap,Array.getElem?_modify,if_pos rfl,c1];rfl
   ·have hi':i<(ir xs).length:=by have:=(List.getElem?_eq_some_iff.mp hi).1;omega
    rw[sY _ i hi']at hi
    obtain rfl:=Option.some.inj hi
    have hin:pl.o+i<C.size:=by omega
    refine⟨.int .i64 (ir xs)[i],?_,.int _ _⟩
    unfold Go.Sort.putCells
    rw[Array.getElem?_mapIdx,Array.getElem?_eq_getElem hin]
    simp only[Option.map_some]
    rw[if_pos ⟨by omega,by simp;omega⟩,Nat.add_sub_cancel_left]
    simp[hi'])
 have hz:(Lib.compact xs).length≤cap:=Nat.le_trans (yK xs) (by omega)
 exact⟨q1,q2,by have:=VR.sl (ρ:=ρ) b 0 (Lib.compact xs).length (Lib.compact xs).length pl cap hk hz (by omega);simpa using this⟩
theorem Zr (xs:List Int) (hs:xs.Pairwise (fun a b=>a≤b)):(Lib.compact xs).Pairwise (fun a b=>a<b)∧∀x,x∈Lib.compact xs↔x∈xs:=by
 have key:∀m,m≤xs.length→(Lib.compactUpTo xs.toArray m).Pairwise (fun a b=>a<b)∧(∀x,x∈Lib.compactUpTo xs.toArray m↔x∈xs.take m):=by
  intro m
  induction m with
  |zero=>intro _;simp[Lib.compactUpTo]
  |succ m ih=>
   intro hm
   obtain⟨i1,i2⟩:=ih (by omega)
   have e:xs.toArray[m]! =xs[m]:=by simp[show m<xs.length by omega]
   rw[Lib.compactUpTo_succ,e,List.take_add_one,List.getElem?_eq_getElem (by omega:m<xs.length)]
   cases hk:Lib.keeps xs.toArray m with
   |true=>
    rw[if_pos rfl]
    refine⟨?_,fun x=>by rw[List.mem_append,i2,List.mem_append];simp⟩
    rw[List.pairwise_append]
    refine⟨i1,by simp,fun a ha b hb=>?_⟩
    obtain rfl:=List.mem_singleton.1 hb
    obtain⟨j,hj⟩:=List.mem_iff_getElem?.1 ((i2 a).1 ha)
    rw[List.getElem?_take]at hj
    split at hj
    rotate_left
    ·cases hj
    rename_i hjm
    obtain⟨z1,rfl⟩:=List.getElem?_eq_some_iff.mp hj
    have h1:=(List.pairwise_iff_getElem.1 hs) j (m-1) z1 (by omega)
    have h2:=(List.pairwise_iff_getElem.1 hs) (m-1) m (by omega) (by omega) (by omega)
    have h3:xs[j]≤xs[m-1]'(by omega):=by
     by_cases q:j=m-1
     ·subst q;omega
     ·exact h1 (by omega)
    have h4:xs[m]≠xs[m-1]'(by omega):=by
     unfold Lib.keeps at hk
     rw[decide_eq_true_eq]at hk
     rcases hk with q|q
     ·omega
     ·rw[e]at q
      have e2:xs.toArray[m-1]! =xs[m-1]'(by omega):=by simp[show m-1<xs.length by omega]
      rw[e2]at q
      exact q
    omega
   |false=>
    rw[if_neg (by simp),List.append_nil]
    refine⟨i1,fun x=>?_⟩
    rw[i2,List.mem_append]
    constructor
    ·intro q;exact .inl q
    ·rintro(q|q)
     ·exact q
     ·simp at q
      subst q
      unfold Lib.keeps at hk
      rw[decide_eq_false_iff_not]at hk
      have hm0:m≠0:=fun z=>hk (.inl z)
      have e2:xs.toArray[m-1]! =xs[m-1]'(by omega):=by simp[show m-1<xs.length by omega]
      have h4:xs[m]=xs[m-1]'(by omega):=by
       apply Classical.byContradiction
       intro z
       exact hk (.inr (by rw[e,e2];exact z))
      rw[h4]
      exact List.mem_take_iff_getElem.2 ⟨m-1,by omega,rfl⟩
 obtain⟨k1,k2⟩:=key xs.length (Nat.le_refl _)
 rw[List.take_length]at k2
 exact⟨k1,k2⟩
end Go.Proofs.Ybk.V
namespace Go.Proofs.Ybk.V
open Go Go.Am
set_option maxHeartbeats 4000000
def gL {α:Type} (e:TypeId) (enc:α→List Value) (h0 h:aa) (v:Value) (xs:List α):Prop:=cm e enc h v xs∧∀b off n c,v= .slice (some ⟨b,off,none⟩) n c→h0.n≤b
section
variable {α:Type} {e:TypeId} {enc:α→List Value} {h0 h1 h h':aa} {v:Value} {xs:List α}
theorem gL.of (H:bS e enc h1 h v xs) (hn:h0.n≤h1.n):gL e enc h0 h v xs:=by
 refine⟨H.sl,?_⟩
 obtain⟨ad,rfl,z⟩:=H
 rintro b off n c q
 simp only[Value.slice.injEq]at q
 rcases z with⟨rfl,_⟩|⟨b',rfl,_,z3,_⟩
 ·cases q.1
 ·have:=q.1
  simp only[Option.some.injEq,Addr.mk.injEq]at this
  omega
theorem gL.ext (H:gL e enc h0 h v xs) (E:Ext h h'):gL e enc h0 h' v xs:=⟨H.1.ext E,H.2⟩
theorem gL.low (H:gL e enc h1 h v xs) (hn:h0.n≤h1.n):gL e enc h0 h v xs:=⟨H.1,fun b off n c q=>Nat.le_trans hn (H.2 b off n c q)⟩
end
def kZ (h0 h:aa) (v:ah) (cs:List Value):Prop:=∃s k p,cs=[s,.int .i64 v.aV,.int .i64 v.bg,k,p]∧gL 99 al h0 h s v.af∧gL 3 ab h0 h k v.aD∧gL 103 aQ h0 h p v.aE
theorem kZ.cK {h0 h:aa} {v:ah} {cs:List Value} (H:kZ h0 h v cs):bF h v cs:=by
 obtain⟨s,k,p,rfl,h1,h2,h3⟩:=H
 exact⟨s,k,p,rfl,h1.1,h2.1,h3.1⟩
theorem kZ.low {h0 h1 h:aa} {v:ah} {cs:List Value} (H:kZ h1 h v cs) (hn:h0.n≤h1.n):kZ h0 h v cs:=by
 obtain⟨s,k,p,rfl,z1,z2,z3⟩:=H
 exact⟨s,k,p,rfl,z1.low hn,z2.low hn,z3.low hn⟩
def A0 (v:ah) (h:aa) (r:Value) (h':aa):Prop:=Ext h h'∧
 ((ly v=false∧r= .tuple #[.agg ⟨gW⟩,.bool false])∨
  (ly v=true∧∃ys ks,ys.Perm v.af∧iN ys∧Ri ks∧(∀x,x∈ks↔x∈(dF v).map (fun s=>dL (eo s) ys))∧
   ((aM ⟨ys,v.aV,v.bg,ks,v.aE⟩=true∧∃co,kZ h h' ⟨ys,v.aV,v.bg,ks,v.aE⟩ co∧r= .tuple #[.agg ⟨co⟩,.bool true])∨
   (aM ⟨ys,v.aV,v.bg,ks,v.aE⟩=false∧r= .tuple #[.agg ⟨gW⟩,.bool false]))))
theorem Zq (v:Value) (xs:List Int) (h0 h:aa) (hl:xs.length≤1073741824) (ho:bS 3 ab h0 h v xs):
  ai PP 169 [v] h (fun r h'=>gL 3 ab h0 h' r (Lib.compact xs)∧(h'=h∨∃b cs,h0.n≤b∧b<h.n∧h'=h.set b (.row true 3 cs))):=by
 by_cases hx:xs=[]
 ·subst hx
  refine(Zp v [] hl (fun i a b h1 _=>by simp at h1) h ho.sl).mono ?_
  rintro r h' ⟨rfl,rfl⟩
  exact⟨gL.of ho (Nat.le_refl _),.inl rfl⟩
 ·obtain⟨ad,rfl,z⟩:=ho
  rcases z with⟨_,z⟩|⟨b,rfl,hb,bq,bC⟩
  ·exact absurd z hx
  refine(Zm b xs.length xs hx hl h hb).mono ?_
  rintro r h' ⟨rfl,rfl⟩
  refine⟨⟨⟨_,_,rfl,fun q=>by simp at q,.inr ⟨b,0,true,(ir xs).flatMap ab,(List.replicate (xs.length-(Lib.compact xs).length) (0:Int)).flatMap ab,rfl,by simp,?_,by simp,?_⟩⟩,fun b' o' n' c' q=>by
   simp only[Value.slice.injEq,Option.some.injEq,Addr.mk.injEq]at q
   omega⟩,.inr ⟨b,_,bq,bC,rfl⟩⟩
  ·unfold ir;rw[List.drop_zero,List.flatMap_append]
  ·exact bC
theorem agy (v:ah) (cs:List Value) (hv:ji v) (hk:v.aD.length≤1000000) (h:aa) (H:bF h v cs):
  ai PP 123 [.agg ⟨cs⟩] h (A0 v h):=by
 refine az mix aa9 Vh rfl (by show 1≤78;decide) aio ?_
 simp only[vq,Tryz.f123]
 obtain⟨s,k,p,rfl,h1,h2,h3⟩:=H
 obtain⟨ad1,c1,e1⟩:=h1.shape
 obtain⟨ad2,c2,e2⟩:=h2.shape
 obtain⟨ad3,c3,e3⟩:=h3.shape
 subst e1;subst e2;subst e3
 obtain⟨m,hm⟩:∃m,m=v.aD.length:=⟨_,rfl⟩
 have hm':=hm
 rw[←hm]at h2 hk ⊢
 simp -implicitDefEqProofs
 refine bD (RZ _ v (.slice ad2 m c2) h) _ ⟨0,.slice none 0 0,rfl,by omega,Ext.bu h,by simpa using bS.nil,fun j k hj=>by omega,by simp,by simp,by simp,by simp,by simp[hm],by simp,by simp;rfl,by simp[gW]⟩ ?_
 rintro n ⟨T,⟨x,H⟩⟩ ⟨i,kv,rfl,hi,hE,hO,hin,g1,g2,g4,g11,g12,g13,x1,x2⟩
 simp at hE hO g1 g2 g4 g11 g12 g13 x1 x2
 rw[←hm]at g12 hi
 simp -implicitDefEqProofs[g1,g2,g4,g11,g12,g13,x1,x2]
 refine bB (fun hc=>?_) (fun hc=>?_)<;>simp only[decide_eq_true_eq,decide_eq_false_iff_not]at hc
 ·have him:i<m:=by omega
  have hti:v.aD[i]? =some v.aD[i]:=List.getElem?_eq_getElem (by omega)
  obtain⟨_,b1,o1,wb1,cs1,r1,rfl,bq,hd1,hl1,_⟩:=(h2.ext hE).at 1 cY hti
  obtain⟨t,ht⟩:∃t,t=v.aD[i]:=⟨_,rfl⟩
  rw[←ht]at hd1 hti
  rw[Nat.mul_one]at hd1 hl1
  have bad:(t<0∨(v.af.length:Int)≤t)→ly v=false:=by
   intro hb
   unfold ly
   rw[Bool.eq_false_iff]
   intro q
   rw[List.all_eq_true]at q
   have:=q t (List.mem_of_getElem? hti)
   simp at this
   omega
  by_cases q1:t<0
  ·simp -implicitDefEqProofs[g1,g2,g4,g11,g12,g13,x1,x2,him,bq,hd1,hl1,ab,q1]
   exact⟨hE,.inl ⟨bad (.inl q1),by simp[gW]⟩⟩
  ·by_cases q2:(v.af.length:Int)≤t
   ·simp -implicitDefEqProofs[g1,g2,g4,g11,g12,g13,x1,x2,him,bq,hd1,hl1,ab,q1,q2]
    exact⟨hE,.inl ⟨bad (.inr q2),by simp[gW]⟩⟩
   ·obtain⟨a,ha⟩:∃a:Nat,t=a:=⟨t.toNat,by omega⟩
    subst ha
    have hal:a<v.af.length:=by omega
    have hsa:v.af[a]? =some v.af[a]:=List.getElem?_eq_getElem hal
    obtain⟨_,b2,o2,wb2,cs2,r2,rfl,bC,hd2,hl2,hbn2⟩:=(h1.ext hE).at 4 eM hsa
    obtain⟨u,hu⟩:∃u,u=v.af[a]:=⟨_,rfl⟩
    rw[←hu]at hd2 hsa
    have w1:IntKind.wrap .i64 ((i:Int)+1)=((i+1:Nat):Int):=by rw[aA (by omega)];omega
    have hkt:(dF v).take (i+1)=(dF v).take i++[u]:=by
     rw[List.take_add_one]
     congr 1
     simp[dF,hti,hsa]
    have hkl:((dF v).take i).length=i:=by rw[List.length_take];simp[dF];omega
    have hin':∀j k,j<i+1→v.aD[j]? =some k→0≤k∧k<v.af.length:=by
     intro j k hj hjk
     rcases Nat.lt_or_ge j i with z|z
     ·exact hin j k z hjk
     ·have:j=i:=by omega
      subst this
      rw[hti]at hjk
      obtain rfl:=Option.some.inj hjk
      omega
    have hr4:List.range 4=[0,1,2,3]:=rfl
    obtain⟨ad,ekv,hz⟩:=hO
    rw[hkl]at ekv
    subst ekv
    rcases hz with⟨rfl,hz⟩|⟨b,rfl,hbb,hb3,hb4⟩
    ·have hi0:i=0:=by have:=congrArg List.length hz;rw[hkl]at this;simpa using this
     have hsl:Value.slice none i i=Value.slice none 0 0:=by rw[hi0]
     simp only[hsl]at g4 ⊢
     simp -implicitDefEqProofs[g1,g2,g4,g11,g12,g13,x1,x2,him,bq,hd1,hl1,ab,q1,q2,hal,bC,hd2,hl2,al,cB,cQ,aI,cH,hr4,w1]
     refine⟨m-(i+1),by omega,i+1,_,by rw[←hm],by omega,(hE.bA _).bA _,⟨some ⟨H.n+1,0,none⟩,?_,.inr ⟨H.n+1,rfl,?_,?_,by simp⟩⟩,hin',by simp,by simp,by simp;rfl,by simp[g11],by simp[hm],by simp,by simp,by simp⟩
     ·rw[hkt,List.length_append,hkl,hi0];rfl
     ·simp[hkt,hz,al]
     ·have:=hE.n;omega
    ·have hbn:¬b=H.n:=by omega
     have hmx:(i+1)*32≤140737488355328:=by omega
     obtain⟨F,hF⟩:∃F,F=((dF v).take i).flatMap al:=⟨_,rfl⟩
     have hFl:F.length=i*4:=by rw[hF,dA 4 eM,hkl]
     rw[←hF]at hbb
     simp -implicitDefEqProofs[g1,g2,g4,g11,g12,g13,x1,x2,him,bq,hd1,hl1,ab,q1,q2,hal,bC,hd2,hl2,al,cB,cQ,aI,cH,hr4,w1,hbn,hbb,hFl,hmx]
     refine⟨m-(i+1),by omega,i+1,_,by rw[←hm],by omega,((hE.bA _).cq hb3 _).bA _,⟨some ⟨H.n+1,0,none⟩,?_,.inr ⟨H.n+1,rfl,?_,?_,by simp⟩⟩,hin',by simp,by simp,by simp;rfl,by simp[g11],by simp[hm],by simp,by simp,by simp⟩
     ·rw[hkt,List.length_append,hkl];rfl
     ·have e8:List.take (i*4) (((dF v).take i).flatMap al)=((dF v).take i).flatMap al:=by rw[←hF];exact List.take_of_length_le (by omega)
      simp[hkt,al,hF,e8]
     ·have:=hE.n;omega
 ·have hie:i=m:=by omega
  subst hie
  have hki:ly v=true:=by
   unfold ly
   rw[List.all_eq_true]
   intro k hk'
   obtain⟨j,hj,rfl⟩:=List.mem_iff_getElem.1 hk'
   have:=hin j _ (by omega) (List.getElem?_eq_getElem hj)
   simp;omega
  have hkl:(dF v).take i=dF v:=List.take_of_length_le (by simp[dF];omega)
  rw[hkl]at hO
  have hkll:(dF v).length=i:=by simp[dF];omega
  have hkv:∃ad,kv= .slice ad i i:=by obtain⟨ad,e,_⟩:=hO;exact⟨ad,by rw[e,hkll]⟩
  obtain⟨adK,eK⟩:=hkv
  subst eK
  simp -implicitDefEqProofs[g1,g2,g4,g11,g12,g13,x1,x2]
  refine(Zb _ v.af hv.1 H (h1.ext hE)).mono ?_
  rintro w1 hA ⟨EA,OA⟩
  simp -implicitDefEqProofs[aC]
  intro _
  have hwA:∃ad,w1= .slice ad v.af.length v.af.length:=by obtain⟨ad,e,_⟩:=OA;exact⟨ad,e⟩
  refine(Y9 _ v.aE hv.2.2 hA ((h3.ext hE).ext EA)).mono ?_
  rintro w2 hB ⟨EB,OB⟩
  have OA2:=OA.ext EB
  obtain⟨adA,eA⟩:=hwA
  subst eA
  have hwB:∃ad,w2= .slice ad v.aE.length v.aE.length:=by obtain⟨ad,e,_⟩:=OB;exact⟨ad,e⟩
  obtain⟨adB,eB⟩:=hwB
  subst eB
  simp -implicitDefEqProofs[aC]
  intro _
  refine(anG _ v.af H hB hv.1 OA2).mono ?_
  rintro r hC ⟨rfl,ys,hperm,hsort,OS,hch⟩
  have hys:ys.length=v.af.length:=hperm.length_eq
  have hbA:∀b n c,Value.slice adA v.af.length v.af.length= .slice (some ⟨b,0,none⟩) n c→b<hA.n:=by
   intro b n c e
   obtain⟨ad,e2,z⟩:=OA
   rw[e2]at e
   simp only[Value.slice.injEq]at e
   rcases z with⟨z,_⟩|⟨b',z,_,_,z4⟩
   ·rw[z]at e;simp at e
   ·rw[z]at e;simp at e;rw[←e.1];exact z4
  have EHC:Ext H hC:=by
   rcases hch with rfl|⟨b,n,c,cs,e,bq,bC,rfl⟩
   ·exact EA.trans EB
   ·exact(EA.trans EB).cq bq _
  have OB2:bS 103 aQ hA hC (.slice adB v.aE.length v.aE.length) v.aE:=by
   rcases hch with rfl|⟨b,n,c,cs,e,bq,bC,rfl⟩
   ·exact OB
   ·exact bS.ki OB cs (hbA b n c e)
  have OK:=hO.ext EHC
  obtain⟨K,hK⟩:∃K,K=(dF v).map (fun s=>dL (eo s) ys):=⟨_,rfl⟩
  have hKl:K.length=i:=by rw[hK,List.length_map,hkll]
  simp -implicitDefEqProofs[ae]
  intro _
  refine bD (R7 (fun kq=>[.slice adA v.af.length v.af.length,.int .i64 v.aV,.int .i64 v.bg,kq,.slice adB v.aE.length v.aE.length]) (.slice adK i i) K hC) _ ⟨0,.slice none 0 0,rfl,by omega,Ext.bu hC,by simpa using bS.nil,by simp,by simp,by simp,by simp[hKl],by simp,by simp,by simp⟩ ?_
  clear g1 g2 g4 g11 g12 g13 x1 x2 hc
  rintro n ⟨T,⟨x,D⟩⟩ ⟨j,kq,rfl,hj,ED,OQ,g2,g7,g50,g51,g52,x2,x7⟩
  simp at ED OQ g2 g7 g50 g51 g52 x2 x7
  rw[hKl]at g51 hj
  simp -implicitDefEqProofs[g2,g7,g50,g51,g52,x2,x7]
  refine bB (fun hc=>?_) (fun hc=>?_)<;>simp only[decide_eq_true_eq,decide_eq_false_iff_not]at hc
  ·have hji:j<i:=by omega
   have hua:(dF v)[j]? =some (dF v)[j]:=List.getElem?_eq_getElem (by omega)
   have OKD:=OK.sl.ext ED
   obtain⟨_,b1,o1,wb1,cs1,r1,e1,bq,hd1,hl1,hbn1⟩:=(hkll ▸ OKD:cm 99 al D (.slice adK i i) (dF v)).at 4 eM hua
   subst e1
   obtain⟨u,hu⟩:∃u,u=(dF v)[j]:=⟨_,rfl⟩
   rw[←hu]at hd1 hua
   have hbD:¬b1=D.n:=by omega
   have w1:IntKind.wrap .i64 ((j:Int)+1)=((j+1:Nat):Int):=by rw[aA (by omega)];omega
   have hKj:K[j]? =some (dL (eo u) ys):=by rw[hK,List.getElem?_map,hua];rfl
   have hKt:K.take (j+1)=K.take j++[dL (eo u) ys]:=by rw[List.take_add_one,hKj];rfl
   have hKjl:(K.take j).length=j:=by rw[List.length_take];omega
   simp -implicitDefEqProofs[g2,g7,g50,g51,g52,x2,x7,hji,bq,hd1,hl1,al]
   have ED2:Ext D ((D.new (aO.row true 99 [.int .i64 0,.int .i64 0,.int .i64 0,.int .i64 0])).set D.n (aO.row true 99 [.int .i64 u.row,.int .i64 u.x,.int .i64 u.y,.int .i64 u.kind])):=(Ext.new D _).cq (Nat.le_refl _) _
   have hsD:bT ((D.new (aO.row true 99 [.int .i64 0,.int .i64 0,.int .i64 0,.int .i64 0])).set D.n (aO.row true 99 [.int .i64 u.row,.int .i64 u.x,.int .i64 u.y,.int .i64 u.kind])) (.slice adA v.af.length v.af.length) ys:=(OS.sl.ext ED).ext ED2
   refine(aeA _ ys u D.n true (by have:=hv.1;omega) _ hsD (by simp[al])).mono ?_
   rintro r h' ⟨rfl,rfl⟩
   obtain⟨q,hq⟩:∃q,q=dL (eo u) ys:=⟨_,rfl⟩
   rw[←hq]at hKt ⊢
   have hr1:List.range 1=[0]:=rfl
   obtain⟨ad,ekq,hz⟩:=OQ
   rw[hKjl]at ekq
   subst ekq
   have hGn:((D.new (aO.row true 99 [.int .i64 0,.int .i64 0,.int .i64 0,.int .i64 0])).set D.n (aO.row true 99 [.int .i64 u.row,.int .i64 u.x,.int .i64 u.y,.int .i64 u.kind])).n=D.n+1:=rfl
   obtain⟨G,hG⟩:∃G,G=((D.new (aO.row true 99 [.int .i64 0,.int .i64 0,.int .i64 0,.int .i64 0])).set D.n (aO.row true 99 [.int .i64 u.row,.int .i64 u.x,.int .i64 u.y,.int .i64 u.kind])):=⟨_,rfl⟩
   rw[←hG]at ED2 hGn ⊢
   have EDG:Ext hC G:=ED.trans ED2
   rcases hz with⟨rfl,hz⟩|⟨b,rfl,hbb,hb3,hb4⟩
   ·have hj0:j=0:=by have:=congrArg List.length hz;rw[hKjl]at this;simpa using this
    have hsl:Value.slice none j j=Value.slice none 0 0:=by rw[hj0]
    simp only[hsl]at x7 ⊢
    simp -implicitDefEqProofs[aC]
    intro _
    simp -implicitDefEqProofs[cB,cQ,aI,cH,hr1,g2,g7,g50,g51,g52,w1]
    refine⟨i-(j+1),by omega,j+1,_,by rw[hKl],by omega,(EDG.bA _).bA _,⟨some ⟨G.n+1,0,none⟩,?_,.inr ⟨G.n+1,rfl,?_,?_,by simp⟩⟩,by simp,by simp,by simp,by simp[hKl],by simp,by simp,by simp;rfl⟩
    ·rw[hKt,List.length_append,hKjl,hj0];rfl
    ·simp[hKt,hz,ab]
    ·have:=EDG.n;omega
   ·have hbn:¬b=G.n:=by omega
    have hbG:G.f b= .row true 3 ((K.take j).flatMap ab):=by rw[ED2.f b hb4,hbb]
    have hmx:(j+1)*8≤140737488355328:=by omega
    obtain⟨F,hF⟩:∃F,F=(K.take j).flatMap ab:=⟨_,rfl⟩
    have hFl:F.length=j:=by have:=dA 1 cY (K.take j);rw[←hF,hKjl]at this;omega
    rw[←hF]at hbG
    have e8:F.take j=F:=List.take_of_length_le (by omega)
    simp -implicitDefEqProofs[aC]
    intro _
    simp -implicitDefEqProofs[cB,cQ,aI,cH,hr1,g2,g7,g50,g51,g52,w1,hbn,hbG,hFl,hmx,e8]
    refine⟨i-(j+1),by omega,j+1,_,by rw[hKl],by omega,((EDG.bA _).cq hb3 _).bA _,⟨some ⟨G.n+1,0,none⟩,?_,.inr ⟨G.n+1,rfl,?_,?_,by simp⟩⟩,by simp,by simp,by simp,by simp[hKl],by simp,by simp,by simp;rfl⟩
    ·rw[hKt,List.length_append,hKjl];rfl
    ·simp[hKt,ab,hF]
    ·have:=EDG.n;omega
  ·have hji:j=i:=by omega
   subst hji
   have hKt:K.take j=K:=List.take_of_length_le (by omega)
   rw[hKt]at OQ
   have hkq:∃ad,kq= .slice ad j j:=by obtain⟨ad,e,_⟩:=OQ;exact⟨ad,by rw[e,hKl]⟩
   obtain⟨adQ,eQ⟩:=hkq
   subst eQ
   simp -implicitDefEqProofs[g2,g7,g50,g51,g52,x2,x7]
   refine(anJ _ K hC D (by omega) OQ).mono ?_
   rintro r hD ⟨rfl,OD,hch2⟩
   have ECD:Ext hC hD:=by
    rcases hch2 with rfl|⟨b,n,c,cs,e,bq,bC,rfl⟩
    ·exact ED
    ·exact ED.cq bq _
   simp -implicitDefEqProofs[ae]
   intro _
   have hsl:(fU K).length=K.length:=List.length_mergeSort _
   refine(Zq _ (fU K) hC hD (by omega) OD).mono ?_
   rintro r hE' ⟨OE,hch3⟩
   have ECE:Ext hC hE':=by
    rcases hch3 with rfl|⟨b,cs,bq,bC,rfl⟩
    ·exact ECD
    ·exact ECD.cq bq _
   obtain⟨adR,cR,eR⟩:=OE.1.shape
   subst eR
   simp -implicitDefEqProofs[ae]
   intro _
   have hsrt:(fU K).Pairwise (fun a b=>a≤b):=by
    have:=List.pairwise_mergeSort (le:=fun a b:Int=>decide (a≤b)) (fun a b c h1 h2=>by simp at *;omega) (fun a b=>by simp;omega) K
    exact this.imp (fun h=>by simpa using h)
   obtain⟨cr1,cr2⟩:=Zr (fU K) hsrt
   obtain⟨ks,hks⟩:∃ks,ks=Lib.compact (fU K):=⟨_,rfl⟩
   have hkl2:=yK (fU K)
   rw[←hks]at cr1 cr2 OE hkl2 ⊢
   have hmem:∀x,x∈ks↔x∈(dF v).map (fun s=>dL (eo s) ys):=fun x=>by rw[cr2,←hK];exact(List.mergeSort_perm K _).mem_iff
   have hVN:kZ h hE' ⟨ys,v.aV,v.bg,ks,v.aE⟩ [.slice adA v.af.length v.af.length,.int .i64 v.aV,.int .i64 v.bg,.slice adR ks.length cR,.slice adB v.aE.length v.aE.length]:=
    ⟨_,_,_,rfl,(gL.of OS hE.n).ext ECE,OE.low (hE.trans EHC).n,(gL.of OB2 (Nat.le_trans hE.n EA.n)).ext ECE⟩
   have hVC:=hVN.cK
   have hsm:ji ⟨ys,v.aV,v.bg,ks,v.aE⟩:=⟨by show ys.length≤_;have:=hv.1;omega,by show ks.length≤_;omega,hv.2.2⟩
   refine(j7 _ _ hsm hE' hVC).mono ?_
   rintro r hF ⟨rfl,rfl⟩
   have EF:Ext h hF:=(hE.trans EHC).trans ECE
   simp -implicitDefEqProofs[ae]
   intro _
   by_cases hmay:aM ⟨ys,v.aV,v.bg,ks,v.aE⟩=true
   ·simp -implicitDefEqProofs[hmay,g2,g7,x2,x7]
    exact⟨EF,.inr ⟨hki,ys,ks,hperm,hsort,cr1,hmem,.inl ⟨hmay,_,hVN,rfl⟩⟩⟩
   ·have hmay':aM ⟨ys,v.aV,v.bg,ks,v.aE⟩=false:=by simpa using hmay
    simp -implicitDefEqProofs[hmay',g2,g7,x2,x7]
    exact⟨EF,.inr ⟨hki,ys,ks,hperm,hsort,cr1,hmem,.inr ⟨hmay',by simp[gW]⟩⟩⟩
end Go.Proofs.Ybk.V

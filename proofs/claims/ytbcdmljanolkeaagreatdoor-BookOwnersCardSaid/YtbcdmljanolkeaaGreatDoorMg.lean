import Derived.Test.YtbcdmljanolkeaaGreatDoorMf
import Derived.ChangeShapes
import Derived.ChangeSame
import Derived.WideShapes
import Derived.Deep.Slices
import Derived.Deep.Fields
set_option linter.unusedVariables false
set_option linter.unusedSimpArgs false
set_option linter.unusedSectionVars false
set_option linter.constructorNameAsVariable false
set_option linter.defProp false
set_option maxRecDepth 20000
namespace Go.Proofs.Ybk.K
open Go Go.Am
set_option maxHeartbeats 4000000
open V (au aR ai ao aZ ab bg aK aE cA cG a8 bL)
def kB(now:Int)(l:List aB)(i:Nat):List aB:=(l.take i).map (kF now)++l.drop i
def am9(now:Int)(l:List aB)(i:Nat):(kB now l i)[i]? =l[i]? :=by
 unfold kB;by_cases h:i<=l.length
 .rw[iF (by rw[cf,dh];omega),cf,dh,Nat.min_eq_left h,oS,List.getElem?_drop,ie]
 .rw[iT (by rw[bH,cf,dh,eX];omega),iT (by omega)]
def anb(now:Int)(l:List aB)(i:Nat){t:aB}(ht:l[i]? =some t):kB now l (i+1)=(kB now l i).set i (kF now t):=by
 obtain⟨hi,e⟩:=cP.1 ht;unfold kB;have hd:l.drop i=t::l.drop (i+1):=by rw[<-e];exact gQ hi
 have hl:((l.take i).map (kF now)).length=i:=by rw[cf,dh];omega
 rw[fL,ht,Option.toList_some,kX,hd,List.set_append_right _ _ (by omega),hl,oS,List.set_cons_zero,eG];rfl
def ana(now:Int)(l:List aB)(i:Nat):(kB now l i).length=l.length:=by
 unfold kB;rw[bH,cf,dh,eX];omega
def am8(now:Int)(l:List aB):kB now l l.length=l.map (kF now):=by unfold kB;simp
def n9(now:Int)(l:List aB)(i:Nat):Nat:=((l.take i).filter (kh now)).length
def YM(now:Int)(l:List aB)(i:Nat){t:aB}(ht:l[i]? =some t):n9 now l (i+1)=if kh now t=true then n9 now l i+1 else n9 now l i:=by
 unfold n9;rw[xR (kh now) l i ht,bH];split<;>simp
def YL(now:Int)(l:List aB)(i:Nat):n9 now l i<=i:=by
 unfold n9;have:=List.length_filter_le (kh now) (l.take i);rw[dh]at this;omega
def Ur(h0 h1:aa)(a:Nat)(b:aI)(now:Int)(vc:List Value)(ov:Value)(o:Option Nat)(m n:Nat)(σ:St):Prop:=∃i:Nat,n=m-i/\i<=m/\bC h0 σ.m.h a {b with now:=now,l:=kB now b.l i} vc ov o/\cX (a::o.toList) h1 σ.m.h/\
 σ.t.get 0=some (.pointer (some ⟨a,0,none⟩))/\σ.t.get 4=some (.pointer (some ⟨4,0,some 0⟩))/\σ.t.get 5=some (.int .i64 (n9 now b.l i:Nat))/\σ.t.get 35=some ov/\σ.t.get 36=some (.int .i64 (m:Nat))/\σ.t.get 37=some (.int .i64 (i:Nat))/\σ.m.x.look 4=some (38,[.int .i64 0,.int .i64 0,.int .i64 0,.int .i64 0,.slice none 0 0])
def anc{h0 h:aa}{a:Nat}{b:aI}{vc:List Value}{ov:Value}{o:Option Nat}(hl:b.l.length<=1048576)(hn:0<=b.now/\b.now<=1099511627776)(n:Int)(B:bC h0 h a b vc ov o):
  al PP 67 [.pointer (some ⟨a,0,none⟩),.int .i64 n] h (λr h'=>cN h0 h h' a o (iR b n).1/\nV h' (iR b n).2 r):=by
 refine aC Tryz.func67 ahy ?_;simp only[aA,Tryz.f67];have hrow0:=B.row;obtain⟨a1,n1,c1,g,r,a2,n2,c2,a3,n3,c3,a4,n4,c4,rfl,rfl,rfl,hrow⟩:=B.cells;by_cases q1:n<1
 .have e:iR b n=(b,err 1):=by unfold iR;rw[if_pos (.inl q1)]
  rw[e];simp -implicitDefEqProofs[q1];exact⟨cN.fP B (Ext.bJ _),jJ _ 1⟩
 by_cases q2:1000000<n
 .have e:iR b n=(b,err 1):=by unfold iR;rw[if_pos (.inr (.inl q2))]
  rw[e];simp -implicitDefEqProofs[q1,q2];exact⟨cN.fP B (Ext.bJ _),jJ _ 1⟩
 have w0:IntKind.wrap .i64 (b.now+n)=b.now+n:=bB (by omega);by_cases q3:1099511627776<b.now+n
 .have e:iR b n=(b,err 1):=by unfold iR;rw[if_pos (.inr (.inr q3))]
  rw[e];simp -implicitDefEqProofs[q1,q2,hrow,w0,q3];exact⟨cN.fP B (Ext.bJ _),jJ _ 1⟩
 rw[Cs b n ⟨by omega,by omega,by omega⟩];obtain⟨now,hnow⟩:∃z,z=b.now+n:=⟨_,rfl⟩;have q3':¬1099511627776<now:=by omega
 rw[<-hnow]at w0 ⊢;simp -implicitDefEqProofs[q1,q2,hrow,<-hnow,w0,q3'];have B1:=sj (b:={b with now:=now}) hrow0 B.a0 B.a1 B.ext B.dv B.dR rfl;simp only[iI,dB,dJ]at B1;have C1:cX (a::o.toList) h (h.set a (.row true 77 [.int .i64 b.fuel,.bool b.has,.slice a1 n1 c1,.int .i64 g,.int .i64 r,.slice a2 n2 c2,.slice a3 n3 c3,.slice a4 b.l.length c4,.int .i64 now])):=(jC h a _).mono (λx hx _=>by rw[dZ]at hx;subst hx;exact dU);obtain⟨m,hm⟩:=nm b.l.length;rw[<-hm]at B1 C1 ⊢;have e0:kB now b.l 0=b.l:=by simp[kB]
 refine bG (Ur h0 h a b now [.slice a1 n1 c1,.int .i64 g,.int .i64 r,.slice a2 n2 c2,.slice a3 n3 c3] (.slice a4 m c4) o m) _ ⟨0,rfl,by omega,by rw[e0];exact B1,C1,by simp[n9]⟩ ?_;rintro n' ⟨T,⟨x,G⟩⟩ ⟨i,rfl,hi,BG,CG,g0,g4,g5,g35,g36,g37,x4⟩;simp at BG CG g0 g4 g5 g35 g36 g37 x4;simp -implicitDefEqProofs[g0,g4,g5,g35,g36,g37,x4];refine bR (λhc=>?_) (λhc=>?_)
 .have him:i<m:=by omega
  have w1:=bO (i:=i) (by omega);have hti:b.l[i]? =some b.l[i]:=aq (by omega);obtain⟨t,ht⟩:=nm b.l[i];rw[<-ht]at hti;have hsi:=am9 now b.l i;rw[hti]at hsi;have hss:=anb now b.l i hti;have hcs:=YM now b.l i hti;have hcl:=YL now b.l i;have hrowG:=BG.row;simp only[iI,dB,dJ]at hrowG;cases o with
  |none=>
   have:=BG.dR.2;simp only at this;have hz:=ana now b.l i;rw[this]at hz;simp at hz;omega
  |some bo=>
   obtain⟨⟨c',r',e,q⟩,nn0,nn1⟩:=BG.dR;simp only[Value.slice.injEq]at e q;obtain⟨rfl,_,_⟩:=e;obtain⟨P,Q,hP,e1,e2⟩:=s9 hsi r';have qq:=q;rw[e1]at q;have hd6:(P++(aP t++Q)).drop (i*6)=aP t++Q:=nh (i:=0) hP;have hl6:i*6+6<=(P++(aP t++Q)).length:=(by rw[bH,hP,bH,iA];omega);obtain⟨R,hR⟩:=nm (P++(aP t++Q));rw[<-hR]at q hd6 hl6;simp only[aP,dB,dJ]at hd6;obtain⟨d,hd⟩:=nm (n9 now b.l i);rw[<-hd]at g5 hcs hcl;have wd:=bO (i:=d) (by omega);have rest:∀(z:kh now t=false),kF now t=t:=λz=>(by unfold kF;rw[z];rfl);have next:kh now t=false->bC h0 G a {b with now:=now,l:=kB now b.l (i+1)} [.slice a1 n1 c1,.int .i64 g,.int .i64 r,.slice a2 n2 c2,.slice a3 n3 c3] (.slice (some ⟨bo,0,none⟩) m c4) (some bo):=λz=>by
    rw[hss,rest z];have:(kB now b.l i).set i t=kB now b.l i:=by
     obtain⟨hlt,e⟩:=cP.1 hsi;rw[<-e];exact List.set_getElem_self hlt
    rw[this];exact BG
   by_cases z1:t.state=1
   .by_cases z2:t.gX<=now
    .have z:kh now t=true:=(by unfold kh;simp[z1,z2]);have ze:kF now t=oa t:=(by unfold kF;rw[z];rfl);rw[ze]at hss;rw[if_pos z]at hcs;have hend:=Kc G bo i hsi r' qq;obtain⟨BS,KS⟩:=BG.ve (L:=(kB now b.l i).set i (oa t)) (by rw[kW]) r';have CS:cX (a::(some bo).toList) h (G.set bo (.row true 43 (((kB now b.l i).set i (oa t)).flatMap aP++r'))):=CG.trans (jC G bo _) (λx hx _=>by simp at hx;simp[hx]);simp -implicitDefEqProofs[g0,g4,g5,g35,g36,g37,x4,him,q,hd6,hl6,z1,hrowG,z2];refine hend.mono ?_;rintro rr F rfl;simp -implicitDefEqProofs[af,g0,g4,g5,g35,g36,g37,x4,w1,wd];intro _;exact⟨m-(i+1),by omega,i+1,rfl,by omega,by rw[hss];exact BS,CS,by simp[hcs,<-hd,wd,x4]⟩
    .have z:kh now t=false:=(by unfold kh;simp[z1,z2]);rw[if_neg (by rw[z];decide)]at hcs;simp -implicitDefEqProofs[g0,g4,g5,g35,g36,g37,x4,him,q,hd6,hl6,z1,hrowG,z2,w1];exact⟨m-(i+1),by omega,i+1,rfl,by omega,next z,CG,by simp[hcs,<-hd,wd,x4]⟩
   .have z:kh now t=false:=(by unfold kh;simp[z1]);rw[if_neg (by rw[z];decide)]at hcs;simp -implicitDefEqProofs[g0,g4,g5,g35,g36,g37,x4,him,q,hd6,hl6,z1,hrowG,w1];exact⟨m-(i+1),by omega,i+1,rfl,by omega,next z,CG,by simp[hcs,<-hd,wd,x4]⟩
 .have e:i=m:=by omega
  subst e;have ea:kB now b.l i=b.l.map (kF now):=by rw[hm,am8]
  rw[ea]at BG;have ed:n9 now b.l i=(b.l.filter (kh now)).length:=by unfold n9;rw[hm,jZ]
  simp -implicitDefEqProofs[g0,g4,g5,x4];exact⟨cN.px BG CG,_,by rw[ed];rfl,aL.nil⟩
def Kq(steps:Nat)(b:aI)(p:aQ):gv steps b p=if 512<=(bV b).length then([],8)else
  if(gj steps b.v ((aO b).1++[p]) (aO b).2.2 ((aO b).2.1++[-1]) b.fuel).2≠0 then([],(gj steps b.v ((aO b).1++[p]) (aO b).2.2 ((aO b).2.1++[-1]) b.fuel).2)
  else if jD ((aO b).1++[p]) (gj steps b.v ((aO b).1++[p]) (aO b).2.2 ((aO b).2.1++[-1]) b.fuel).1.aY then((gj steps b.v ((aO b).1++[p]) (aO b).2.2 ((aO b).2.1++[-1]) b.fuel).1.aY,0)
  else if(gj steps b.v ((aO b).1++[p]) (aO b).2.2 ((aO b).2.1++[-1]) b.fuel).1.answer=3 then([],7)else([],6):=rfl
def Ks{steps:Nat}{b:aI}{p:aQ}(h:(gv steps b p).2=0):(gv steps b p).1.length=(bV b).length+1:=by
 rw[Kq]at h ⊢;split
 .rename_i h1;rw[if_pos h1]at h;simp at h
 .rename_i h1;rw[if_neg h1]at h;split
  .rename_i h2;rw[if_pos h2]at h;exact absurd h h2
  .rename_i h2;rw[if_neg h2]at h;split
   .rename_i h3;unfold jD at h3;simp only[bQ,de]at h3;rw[<-h3.2,bH,jz];show((bV b).map _).length+1=_;rw[cf]
   .rename_i h3;rw[if_neg h3]at h;split
    .rename_i h4;rw[if_pos h4]at h;simp at h
    .rename_i h4;rw[if_neg h4]at h;simp at h
def ai3(l:List aB):∀(k:Nat),∀q∈cT k l,∃o∈l,q.2=o.first:=by
 induction l with
 |nil=>intro k q hq;cases hq
 |cons o r ih=>
  intro k q hq;rw[cT]at hq;split at hq
  .rcases cJ.1 hq with rfl|hq
   .exact⟨o,dU,rfl⟩
   .obtain⟨x,hx,e⟩:=ih _ q hq;exact⟨x,eI _ hx,e⟩
  .obtain⟨x,hx,e⟩:=ih _ q hq;exact⟨x,eI _ hx,e⟩
def BE{N:Nat}{b:aI}(H:eF N b):(∀x∈(aO b).2.1,jq x)/\(∀q∈(aO b).2.2,jq q.2):=by
 have hl:∀o∈bV b,jq o.first:=λo ho=>H.fst o (gS.1 ho).1;refine⟨λx hx=>?_,λq hq=>?_⟩
 .obtain⟨o,ho,rfl⟩:=dO.1 hx;exact hl o ho
 .obtain⟨o,ho,e⟩:=ai3 (bV b) 0 q hq;rw[e];exact hl o ho
def jq.wide{x:Int}(h:jq x): -4611686018427387904<=x/\x<=4611686018427387904:=⟨by have:=h.1;omega,by have:=h.2;omega⟩
def uJ(b:aI):(bV b).length<=b.l.length:=List.length_filter_le _ _
section
variable {h0 h h':aa} {a:Nat} {b:aI} {vc:List Value} {ov:Value} {o:Option Nat}
def Kr{N:Nat}(OK:eF N b)(hN:N<=1048000)(hhas:b.has=true)(steps:Nat)(hst:2*b.fuel.toNat<=steps)(p:aQ)(B:bC h0 h a b vc ov o):
  al PP 109 [.pointer (some ⟨a,0,none⟩),du p] h (λr h'=>Ext h h'/\∃pv,r= .tuple #[pv,.int .i64 (gv steps b p).2]/\aL 3 ab h' pv (gv steps b p).1):=by
 refine aC Tryz.func109 aeN ?_;simp only[aA,Tryz.f109];have hlen:=OK.len;have hll:=uJ b;have hlive:=uL (by omega) B;obtain⟨FB,hFB⟩:∃F,F=gv steps b p:=⟨_,rfl⟩;rw[<-hFB];rw[Kq]at hFB;simp -implicitDefEqProofs[du,ah];refine hlive.mono ?_;rintro r G1 ⟨E1,S1⟩;obtain⟨ad,cc,rfl⟩:=S1.shape;by_cases q:512<=(bV b).length
 .have q':(512:Int)<=(bV b).length:=by omega
  rw[if_pos q]at hFB;subst hFB;simp -implicitDefEqProofs[af,q,q'];intro _;exact⟨E1,aL.nil⟩
 .have q':¬(512:Int)<=(bV b).length:=by omega
  rw[if_neg q]at hFB;have B1:=B.exts E1;have hpl:=BD (by omega) B1;have hw0:=λv1 v2 G(H1:aL 29 ah G v1 (aO b).1)(H2:aL 3 ab G v2 (aO b).2.1)=>aom (aO b).1 (aO b).2.1 p v1 v2 (by show((bV b).map _).length<=_;rw[cf];omega) (by show((bV b).map _).length<=_;rw[cf];omega) G H1.sl H2.sl;simp only[du,ah]at hw0;simp -implicitDefEqProofs[af,q,q'];intro _;refine hpl.mono ?_;rintro r G2 ⟨E2,v1,v2,v3,rfl,P1,P2,P3⟩;have hw:=hw0 v1 v2 G2 P1 P2;have B2:=B1.exts E2;obtain⟨x1,y1,e1⟩:=P1.shape;obtain⟨x2,y2,e2⟩:=P2.shape;obtain⟨x3,y3,e3⟩:=P3.shape;subst e1;subst e2;subst e3;simp -implicitDefEqProofs[af];intro _;refine hw.mono ?_;rintro r G3 ⟨E3,w1,w2,rfl,W1,W2⟩;have B3:=B2.exts E3;have P33:=P3.ext E3;obtain⟨hok1,hok2⟩:=BE OK;have hpf:∀x∈(aO b).2.1++[-1],-4611686018427387904<=x/\x<=4611686018427387904:=λx hx=>by
   rcases eH.1 hx with z|z
   .exact(hok1 x z).wide
   .rw[dZ]at z;subst z;decide
  have hP:lA G3 b.v ((aO b).1++[p]) (aO b).2.2 vc w1 (.slice x3 (aO b).2.2.length y3):=⟨OK.may hhas,by rw[bH];show((bV b).map _).length+_<=_;rw[cf];simp;omega,by show(cT 0 (bV b)).length<=_;have:=wG 0 (bV b);omega,λq hq=>(hok2 q hq).wide,B3.dv,W1,P33⟩;have hag:=CY steps b.v ((aO b).1++[p]) (aO b).2.2 ((aO b).2.1++[-1]) b.fuel hst vc w1 (.slice x3 (aO b).2.2.length y3) w2 hpf (by rw[bH];show((bV b).map _).length+_<=_;rw[cf];simp;omega) G3 hP W2.sl;obtain⟨R,hR⟩:=nm (gj steps b.v ((aO b).1++[p]) (aO b).2.2 ((aO b).2.1++[-1]) b.fuel);have hRl:R.2=0->R.1.aY.length=((aO b).1++[p]).length:=λz=>by
   rw[hR]at z ⊢;exact zO (by rw[bH,bH];show((bV b).map _).length+_=((bV b).map _).length+_;rw[cf,cf];rfl) z
  rw[<-hR]at hag hFB;obtain⟨L,hL⟩:=nm ((aO b).1++[p]);have hLl:L.length<=1073741824:=by rw[hL];exact hP.ll
  rw[<-hL]at W1 hRl hFB;obtain⟨O,hO⟩:=nm ((aO b).2.1++[-1]);rw[<-hO]at W2;obtain⟨x4,y4,e4⟩:=W1.shape;obtain⟨x5,y5,e5⟩:=W2.shape;subst e4;subst e5;have hrow3:=B3.row;obtain⟨a1,n1,c1,g,r,a2,n2,c2,a3,n3,c3,a4,n4,c4,rfl,rfl,rfl,hrow⟩:=B.cells;simp only[iI,dB,dJ]at hrow3;simp -implicitDefEqProofs[af,hrow3];intro _;refine hag.mono ?_;rintro r G4 ⟨E4,pv,at_,nt,ct,rfl,S4⟩;obtain⟨x6,y6,e6⟩:=S4.shape;subst e6;have EE:Ext h G4:=((E1.trans E2).trans E3).trans E4;by_cases q2:R.2=0;rotate_left
  .rw[if_pos q2]at hFB;subst hFB;simp -implicitDefEqProofs[aF,qz,q2];intro _;exact⟨EE,aL.nil⟩
  .rw[if_neg (by simpa using q2)]at hFB;have hfu:=AG L R.1.aY (.slice x4 L.length y4) (.slice x6 R.1.aY.length y6) (by rw[hRl q2];exact hLl) hLl G4 (W1.ext E4).sl S4.sl;simp -implicitDefEqProofs[aF,qz,q2];intro _;refine cE hfu ?_;by_cases q3:jD L R.1.aY=true
   .rw[if_pos q3]at hFB;subst hFB;simp -implicitDefEqProofs[af,q3];intro _;exact⟨EE,S4⟩
   .rw[if_neg q3]at hFB;by_cases q4:R.1.answer=3
    .rw[if_pos q4]at hFB;subst hFB;simp -implicitDefEqProofs[af,q3,q4];intro _;exact⟨EE,aL.nil⟩
    .rw[if_neg q4]at hFB;subst hFB;simp -implicitDefEqProofs[af,q3,q4];intro _;exact⟨EE,aL.nil⟩
def O4{p:List Int}{n:Nat}(h:p.length=n+1):p[n]? =some (p.getLastD 0):=by
 rw[List.getLastD_eq_getLast?,List.getLast?_eq_getElem?,h,sd];rw[aq (by omega)];rfl
def yX(steps:Nat)(b:aI)(c:CmdR):jX:=if !dK c.az then err 1 else if(gv steps b c.az).2≠0 then err (gv steps b c.az).2 else⟨0,0,(0,0),il b ⟨0,0,c.az,0,(gv steps b c.az).1.getLastD 0⟩⟩
def ajt{N:Nat}(OK:eF N b)(hN:N<=1048000)(hhas:b.has=true)(steps:Nat)(hst:2*b.fuel.toNat<=steps)(c:CmdR)(B:bC h0 h a b vc ov o):
  al PP 69 [.pointer (some ⟨a,0,none⟩),cH c] h (λr h'=>Ext h h'/\nV h' (yX steps b c) r):=by
 refine aC Tryz.func69 ahA ?_;simp only[aA,Tryz.f69];have hm:=nG c.az h;have hf:=Kr OK hN hhas steps hst c.az B;simp only[du,ah]at hm hf;obtain⟨QB,hQB⟩:∃F,F=yX steps b c:=⟨_,rfl⟩;rw[<-hQB];unfold yX at hQB;obtain⟨FB,hFB⟩:∃F,F=gv steps b c.az:=⟨_,rfl⟩;have hfl:=λz=>Ks (steps:=steps) (b:=b) (p:=c.az) z;have hfF:=λM z=>AD (n:=steps) (b:=b) (p:=c.az) M z;rw[<-hFB]at hf hQB hfl hfF;simp -implicitDefEqProofs[cH,cmdC];refine cE hm ?_;by_cases q:dK c.az=true;rotate_left
 .rw[if_pos (by simp[q])]at hQB;subst hQB;simp -implicitDefEqProofs[af,q];intro _;exact⟨Ext.bJ _,jJ _ 1⟩
 .rw[if_neg (by simp[q])]at hQB;simp -implicitDefEqProofs[af,q];intro _;refine hf.mono ?_;rintro r G ⟨E,pv,rfl,S⟩;obtain⟨ad,cc,e⟩:=S.shape;subst e;by_cases q2:FB.2=0;rotate_left
  .rw[if_pos q2]at hQB;subst hQB;simp -implicitDefEqProofs[af,q2];intro _;exact⟨E,jJ _ _⟩
  .rw[if_neg (by simpa using q2)]at hQB;replace hfl:=hfl q2;replace hfF:=hfF (OK.may hhas) q2;obtain⟨n,hn⟩:=nm (bV b).length;rw[<-hn]at hfl;have hnl:n<=1048000:=(by rw[hn];have:=uJ b;have:=OK.len;omega);have hlast:=O4 hfl;have hx:=(AH hfF).wide;obtain⟨pl,hpl⟩:=nm FB.1;rw[<-hpl]at hfl hlast hx S hQB ⊢;obtain⟨la,hla⟩:=nm (pl.getLastD 0);rw[<-hla]at hlast hx hQB;subst hQB;obtain⟨_,b1,o1,cs1,r1,rfl,bD,hd1,hl1,_⟩:=S.at 1 V.dY hlast;rw[Nat.mul_one]at hd1 hl1;rw[hfl]at S ⊢;have w1:IntKind.wrap .i64 (((n:Int)+1)-1)=(n:Int):=(by rw[bB (by omega)];omega);have w2:IntKind.wrap .i64 (n:Int)=(n:Int):=bB (by omega);have hlt:(n:Int)<(n:Int)+1:=(by omega);have hse:=xy (B.exts E) (OK.may hhas) ⟨0,0,c.az,0,la⟩ hx;simp only[jI,aP]at hse;simp -implicitDefEqProofs[af,aF,q2,w1,w2,hlt,bD,hd1,hl1,ab];intro _;refine hse.mono ?_;rintro r G2 ⟨E2,S2⟩;obtain⟨ad2,cc2,rfl⟩:=S2.shape;simp -implicitDefEqProofs[aF,af];intro _;exact⟨E.trans E2,_,rfl,S2⟩
end
def XJ{h:aa}{a:Nat}{o:Option Nat}(c c':aW):cX (a::o.toList) h (bY (h.new c) o c'):=by
 refine⟨zU _ _ _,by rw[cW,eu];omega,λi hi q=>?_⟩;rw[qS _ _ _ (by rw[eu];omega) (λe=>q (by simp[e])),qY,if_neg (by omega)]
def Dg{h0 h:aa}{a:Nat}{b:aI}{vc:List Value}{ov:Value}{o:Option Nat}(B:bC h0 h a b vc ov o)(x:aB):
  (bY (h.new (.row true 43 (aP x))) o (.row true 43 (b.l.flatMap aP++aP x))).f a= .row true 77 (iI b vc ov)/\
  bC h0 ((bY (h.new (.row true 43 (aP x))) o (.row true 43 (b.l.flatMap aP++aP x))).set a (.row true 77 (iI {b with l:=b.l++[x]} vc (.slice (some ⟨h.n+1,0,none⟩) (b.l.length+1) (b.l.length+1))))) a {b with l:=b.l++[x]} vc (.slice (some ⟨h.n+1,0,none⟩) (b.l.length+1) (b.l.length+1)) (some (h.n+1))/\
  cX (a::o.toList) h ((bY (h.new (.row true 43 (aP x))) o (.row true 43 (b.l.flatMap aP++aP x))).set a (.row true 77 (iI {b with l:=b.l++[x]} vc (.slice (some ⟨h.n+1,0,none⟩) (b.l.length+1) (b.l.length+1))))):=by
 obtain⟨F,hF⟩:=nm (bY (h.new (.row true 43 (aP x))) o (.row true 43 (b.l.flatMap aP++aP x)));have hoa:o≠some a:=λe=>by
  obtain⟨cs,q⟩:=B.dR.row a e;rw[B.row]at q;simp only[aW.row.injEq]at q;exact absurd q.2.1 (by decide)
 have hFa:F.f a= .row true 77 (iI b vc ov):=by
  rw[hF,qS _ _ _ (by rw[eu];have:=B.a1;omega) hoa,qY,if_neg (by have:=B.a1;omega)];exact B.row
 have hFn:F.n=h.n+2:=by rw[hF,cW,eu]
 have EF:Ext h0 F:=by
  rw[hF];exact Ext.app (B.ext.bI _) (λi hi=>⟨(B.dR.lt i hi).1,by rw[eu];have:=(B.dR.lt i hi).2;omega⟩) _
 have KF:Kp h F:=by
  rw[hF];refine((Kp.refl h).new _).app (λi hi e' cs q=>?_) _;have hlt:=(B.dR.lt i hi).2;rw[qY,if_neg (by omega)]at q;obtain⟨cs',q'⟩:=B.dR.row i hi;rw[q']at q;cases q
 have W:eV 43 aP h0 F (some (h.n+1)) (b.l++[x]) (.slice (some ⟨h.n+1,0,none⟩) (b.l.length+1) (b.l.length+1)):=by
  rw[hF];exact B.dR.one B.ext.n _ x rfl
 have C:cX (a::o.toList) h F:=by rw[hF];exact XJ _ _
 rw[<-hF];refine⟨hFa,sj (b:={b with l:=b.l++[x]}) hFa B.a0 (by have:=B.a1;omega) EF (B.dv.kp KF) W rfl,C.trans (jC F a _) (λi hi _=>?_)⟩;rw[dZ]at hi;subst hi;exact dU
def aai(steps:Nat)(b:aI)(c:CmdR)(h1:dK c.az=true)(h2:¬c.a<1)(h3:¬1000000<c.a)(h4:¬1099511627776<b.now+c.a):kH steps b c=
  if(gv steps b c.az).2≠0 then(b,err (gv steps b c.az).2)else
   (tD {b with l:=b.l++[⟨(b.l.length:Int)+1,1,c.az,b.now+c.a,(gv steps b c.az).1.getLastD 0⟩]} (gv steps b c.az).1,
    ⟨0,(b.l.length:Int)+1,(0,0),il (tD {b with l:=b.l++[⟨(b.l.length:Int)+1,1,c.az,b.now+c.a,(gv steps b c.az).1.getLastD 0⟩]} (gv steps b c.az).1) ⟨(b.l.length:Int)+1,1,c.az,b.now+c.a,(gv steps b c.az).1.getLastD 0⟩⟩):=by
 unfold kH;rw[if_neg (by simp[h1,h2,h3,h4])]
def yc(steps:Nat)(b:aI)(c:CmdR)(h:(!dK c.az || decide (c.a<1) || decide (1000000<c.a) || decide (1099511627776<b.now+c.a))=true):kH steps b c=(b,err 1):=by
 unfold kH;rw[if_pos h]
def aaj{h0 h:aa}{a:Nat}{b:aI}{vc:List Value}{ov:Value}{o:Option Nat}{N:Nat}(OK:eF N b)(hN:N<=1048000)(hhas:b.has=true)(steps:Nat)(hst:2*b.fuel.toNat<=steps)(c:CmdR)(B:bC h0 h a b vc ov o):
  al PP 68 [.pointer (some ⟨a,0,none⟩),cH c] h (λr h'=>cN h0 h h' a o (kH steps b c).1/\nV h' (kH steps b c).2 r):=by
 refine aC Tryz.func68 ahz ?_;simp only[aA,Tryz.f68];have hm:=nG c.az h;have hf:=Kr OK hN hhas steps hst c.az B;simp only[du,ah]at hm hf;have hrow:=B.row;have hbc:=hrow;obtain⟨a1,n1,c1,g,r,a2,n2,c2,a3,n3,c3,a4,n4,c4,hvc,hov,hn4,hrow'⟩:=B.cells;obtain⟨HB,hHB⟩:∃F,F=kH steps b c:=⟨_,rfl⟩;rw[<-hHB];simp -implicitDefEqProofs[cH,cmdC];refine cE hm ?_;by_cases q1:dK c.az=true;rotate_left
 .rw[yc steps b c (by simp[q1])]at hHB;subst hHB;simp -implicitDefEqProofs[aF,q1];intro _;exact⟨cN.fP B (Ext.bJ _),jJ _ 1⟩
 by_cases q2:c.a<1
 .rw[yc steps b c (by simp[q2])]at hHB;subst hHB;simp -implicitDefEqProofs[aF,q1,q2];intro _;exact⟨cN.fP B (Ext.bJ _),jJ _ 1⟩
 by_cases q3:1000000<c.a
 .rw[yc steps b c (by simp[q3])]at hHB;subst hHB;simp -implicitDefEqProofs[aF,q1,q2,q3];intro _;exact⟨cN.fP B (Ext.bJ _),jJ _ 1⟩
 have w0:IntKind.wrap .i64 (b.now+c.a)=b.now+c.a:=bB (by have:=OK.n0;have:=OK.n1;omega);by_cases q4:1099511627776<b.now+c.a
 .rw[yc steps b c (by simp[q4])]at hHB;subst hHB;simp -implicitDefEqProofs[aF,q1,q2,q3,hrow',w0,q4];intro _;exact⟨cN.fP B (Ext.bJ _),jJ _ 1⟩
 rw[aai steps b c q1 q2 q3 q4]at hHB;obtain⟨FB,hFB⟩:∃F,F=gv steps b c.az:=⟨_,rfl⟩;have hfl:=λz=>Ks (steps:=steps) (b:=b) (p:=c.az) z;have hfF:=λM z=>AD (n:=steps) (b:=b) (p:=c.az) M z;rw[<-hFB]at hf hHB hfl hfF;simp -implicitDefEqProofs[aF,q1,q2,q3,hrow',w0,q4];intro _;refine hf.mono ?_;rintro r G ⟨E,pv,rfl,S⟩;obtain⟨ad,cc,e⟩:=S.shape;subst e;by_cases q5:FB.2=0;rotate_left
 .rw[if_pos q5]at hHB;subst hHB;simp -implicitDefEqProofs[af,q5];intro _;exact⟨cN.fP B E,jJ _ _⟩
 rw[if_neg (by simpa using q5)]at hHB;replace hfl:=hfl q5;replace hfF:=hfF (OK.may hhas) q5;obtain⟨n,hn⟩:=nm (bV b).length;rw[<-hn]at hfl;have hlen:=OK.len;have hnl:n<=1048000:=by rw[hn];have:=uJ b;omega
 have hlast:=O4 hfl;have hx:=(AH hfF).wide;obtain⟨pl,hpl⟩:=nm FB.1;rw[<-hpl]at hfl hlast hx S hHB ⊢;obtain⟨la,hla⟩:=nm (pl.getLastD 0);rw[<-hla]at hlast hx hHB;have S0:=S;obtain⟨_,b1,o1,cs1,r1,rfl,bD,hd1,hl1,_⟩:=S.at 1 V.dY hlast;rw[Nat.mul_one]at hd1 hl1;rw[hfl]at S ⊢;have w1:IntKind.wrap .i64 (((n:Int)+1)-1)=(n:Int):=by rw[bB (by omega)];omega
 have w2:IntKind.wrap .i64 (n:Int)=(n:Int):=bB (by omega);have hlt:(n:Int)<(n:Int)+1:=by omega
 have w3:IntKind.wrap .i64 ((b.l.length:Int)+1)=(b.l.length:Int)+1:=bB (by omega);have BG:=B.exts E;obtain⟨x,hX⟩:=nm (⟨(b.l.length:Int)+1,1,c.az,b.now+c.a,la⟩:aB);rw[<-hX]at hHB;have hxc:aP x=[Value.int .i64 ((b.l.length:Int)+1),.int .i64 1,.int .i64 c.az.size,.int .i64 c.az.cS,.int .i64 (b.now+c.a),.int .i64 la]:=by rw[hX];rfl
 have hA:=vA J9 BG.dR x (by have:=OK.len;omega);obtain⟨p1,BX,CX⟩:=Dg BG x;have hrowG:=BG.row;subst hvc;subst hov;subst hn4;rw[hxc]at hA p1 BX CX;simp only[iI,dB,dJ]at hrowG p1 BX CX;have KX:Kp G _:=CX.kp BG.iQ;have hlive:(bV {b with l:=b.l++[x]}).length=n+1:=by
  show((b.l++[x]).filter bT).length=_;rw[mo,bH,hn];have:bT x=true:=by rw[hX];rfl
  simp[this,bV]
 have hsit:=Rs BX (by show(b.l++[x]).length<=_;rw[bH,jz];omega) pl _ (S.kp KX) (by rw[hlive,hfl];exact aX _);have hr1:List.range 6=[0,1,2,3,4,5]:=rfl;have hneG:¬a=G.n:=by have:=BG.a1;omega
 simp -implicitDefEqProofs[af,q5,w0,w1,w2,hlt,w3,bD,hd1,hl1,ab,hrowG,aM,hr1,hA,p1,hneG];intro _;refine hsit.mono ?_;rintro rr G2 ⟨B2,C2⟩;have hse:=xy B2 (OK.may hhas) x (by rw[hX];exact hx);simp only[jI]at hse;rw[hxc]at hse;simp -implicitDefEqProofs[af];intro _;refine hse.mono ?_;rintro rr G3 ⟨E3,S3⟩;obtain⟨ad3,cc3,rfl⟩:=S3.shape;simp -implicitDefEqProofs[aF,af];intro _;subst hHB;exact⟨(cN.pre E (cN.trans CX (λi hi=>.inr (by simp only[av]at hi;omega)) (cN.px B2 C2))).post E3,_,rfl,S3⟩
section
variable {h0 h h':aa} {a:Nat} {b:aI} {vc:List Value} {ov:Value} {o:Option Nat}
def bC.ug{bo:Nat}(B:bC h0 h a b vc ov (some bo))(L:List aB)(hl:L.length=b.l.length)(r:List Value):
  cN h0 h (h.set bo (.row true 43 (L.flatMap aP++r))) a (some bo) {b with l:=L}:=by
 refine cN.px (B.ve hl r).1 ((jC h bo _).mono λx hx _=>?_);rw[dZ]at hx;subst hx;simp
def Yb(hl:b.l.length<=1048576)(M:aK b.v=true)(hF:∀o∈b.l,jq o.first)(id:Int)(B:bC h0 h a b vc ov o):
  al PP 70 [.pointer (some ⟨a,0,none⟩),.int .i64 id] h (λr h'=>cN h0 h h' a o (lR b id).1/\nV h' (lR b id).2 r):=by
 refine aC Tryz.func70 ahB ?_;simp only[aA,Tryz.f70];have hord:=Di B (by omega) id;obtain⟨CB,hCB⟩:∃F,F=lR b id:=⟨_,rfl⟩;rw[<-hCB];unfold lR at hCB;simp -implicitDefEqProofs;refine hord.mono ?_;rintro r h' ⟨rfl,hr⟩;by_cases q:id<1∨(b.l.length:Int)<id
 .rw[if_pos q]at hr hCB;subst hCB;subst hr;simp -implicitDefEqProofs[af];intro _;exact⟨cN.fP B (Ext.bJ _),jJ _ 4⟩
 .rw[if_neg q]at hr hCB;obtain⟨bo,rfl,rfl⟩:=hr;obtain⟨k,hk⟩:=nm (id.toNat-1);rw[<-hk]at hCB;try rw[<-hk]
  have hkl:k<b.l.length:=by omega
  have hti:=sD hkl;obtain⟨t,ht⟩:=nm (b.l.getD k default);rw[<-ht]at hti;simp only[<-ht]at hCB;obtain⟨⟨c',r',e,qq⟩,nn0,nn1⟩:=B.dR;obtain⟨P,Q,hP,e1,e2⟩:=s9 hti r';have B':=B;rw[e1]at qq;have hL:∀X:List Value,(P++X).length=k*6+X.length:=λX=>by rw[bH,hP]
  have t1:∀X:List Value,(P++X).take (k*6+1)=P++X.take 1:=λX=>tG hP;have t4:∀X:List Value,(P++X).take (k*6+4)=P++X.take 4:=λX=>tG hP;have d1:∀X:List Value,(P++X).drop (k*6+1)=X.drop 1:=λX=>nh (i:=1) hP;have d2:∀X:List Value,(P++X).drop (k*6+1+1)=X.drop 2:=λX=>nh (i:=2) hP;have d5:∀X:List Value,(P++X).drop (k*6+4+1)=X.drop 5:=λX=>nh (i:=5) hP;have d0:∀X:List Value,(P++X).drop (k*6)=X:=λX=>nh (i:=0) hP;have z1:k*6+1+1<=k*6+(Q.length+1+1+1+1+1+1):=by omega
  have z2:k*6+4+1<=k*6+(Q.length+1+1+1+1+1+1):=by omega
  have z3:k*6+6<=k*6+(Q.length+1+1+1+1+1+1):=by omega
  simp only[aP,dB,dJ]at qq;by_cases q2:t.state=1;rotate_left
  .rw[if_pos q2]at hCB;subst hCB;simp -implicitDefEqProofs[af,qq,hL,z1,z2,z3,d1,q2];intro _;exact⟨cN.fP B (Ext.bJ _),jJ _ 5⟩
  .rw[if_neg (by simpa using q2)]at hCB;obtain⟨t2,ht2⟩:=nm ({t with state:=2,gX:=0}:aB);have hQ:=B.ug (b.l.set k t2) (by rw[kW]) r';have BS:=(B.ve (L:=b.l.set k t2) (by rw[kW]) r').1;rw[e2 t2]at hQ BS;have hfi:jq t2.first:=(by rw[ht2];exact hF t (dE hti));have hse:=xy BS M t2 hfi.wide;have hc2:aP t2=[.int .i64 t.id,.int .i64 2,.int .i64 t.az.size,.int .i64 t.az.cS,.int .i64 0,.int .i64 t.first]:=(by rw[ht2];rfl);simp only[jI]at hse;rw[hc2]at hse hQ;simp only[dB,dJ]at hse hQ;rw[<-ht2]at hCB;subst hCB;simp -implicitDefEqProofs[af,qq,hL,z1,z2,z3,d0,d1,d2,d5,t1,t4,q2];intro _;rw[nB];refine hse.mono ?_;rintro r G2 ⟨E2,S2⟩;obtain⟨ad2,cc2,rfl⟩:=S2.shape;simp -implicitDefEqProofs[af];intro _;exact⟨hQ.post E2,_,rfl,S2⟩
def XD(hl:b.l.length<=1048576)(id:Int)(B:bC h0 h a b vc ov o):
  al PP 71 [.pointer (some ⟨a,0,none⟩),.int .i64 id] h (λr h'=>cN h0 h h' a o (lQ b id).1/\nV h' (lQ b id).2 r):=by
 refine aC Tryz.func71 ahC ?_;simp only[aA,Tryz.f71];have hord:=Di B (by omega) id;obtain⟨CB,hCB⟩:∃F,F=lQ b id:=⟨_,rfl⟩;rw[<-hCB];unfold lQ at hCB;simp -implicitDefEqProofs;refine hord.mono ?_;rintro r h' ⟨rfl,hr⟩;by_cases q:id<1∨(b.l.length:Int)<id
 .rw[if_pos q]at hr hCB;subst hCB;subst hr;simp -implicitDefEqProofs[af];intro _;exact⟨cN.fP B (Ext.bJ _),jJ _ 4⟩
 .rw[if_neg q]at hr hCB;obtain⟨bo,rfl,rfl⟩:=hr;obtain⟨k,hk⟩:=nm (id.toNat-1);rw[<-hk]at hCB;try rw[<-hk]
  have hkl:k<b.l.length:=by omega
  have hti:=sD hkl;obtain⟨t,ht⟩:=nm (b.l.getD k default);rw[<-ht]at hti;simp only[<-ht]at hCB;obtain⟨⟨c',r',e,qq⟩,nn0,nn1⟩:=B.dR;have hend:=Kc h' bo k hti r' qq;obtain⟨P,Q,hP,e1,e2⟩:=s9 hti r';rw[e1]at qq;have hL:∀X:List Value,(P++X).length=k*6+X.length:=λX=>by rw[bH,hP]
  have d1:∀X:List Value,(P++X).drop (k*6+1)=X.drop 1:=λX=>nh (i:=1) hP;have z1:k*6+1+1<=k*6+(Q.length+1+1+1+1+1+1):=by omega
  simp only[aP,dB,dJ]at qq;by_cases q2:t.state=3
  .rw[if_pos q2]at hCB;subst hCB;simp -implicitDefEqProofs[af,qq,hL,z1,d1,q2];intro _;exact⟨cN.fP B (Ext.bJ _),jJ _ 5⟩
  .rw[if_neg q2]at hCB;subst hCB;have hQ:=B.ug (b.l.set k (oa t)) (by rw[kW]) r';simp -implicitDefEqProofs[af,qq,hL,z1,d1,q2];intro _;refine hend.mono ?_;rintro r G2 rfl;simp -implicitDefEqProofs[af];intro _;exact⟨hQ,jJ _ 0⟩
end
def ajI(steps:Nat)(b:aI):ma steps b=
  if(gj steps b.v (aO b).1 (aO b).2.2 (aO b).2.1 b.fuel).2≠0 then(b,err (gj steps b.v (aO b).1 (aO b).2.2 (aO b).2.1 b.fuel).2)
  else if(gj steps b.v (aO b).1 (aO b).2.2 (aO b).2.1 b.fuel).1.answer=3 then(b,err 7)
  else(tD b (gj steps b.v (aO b).1 (aO b).2.2 (aO b).2.1 b.fuel).1.aY,⟨0,(nH (aO b).2.1 (gj steps b.v (aO b).1 (aO b).2.2 (aO b).2.1 b.fuel).1.aY (min (aO b).2.1.length (gj steps b.v (aO b).1 (aO b).2.2 (aO b).2.1 b.fuel).1.aY.length)).length,(0,0),[]⟩):=by
 unfold nH;rw[cf];rfl
section
variable {h0 h h':aa} {a:Nat} {b:aI} {vc:List Value} {ov:Value} {o:Option Nat}
def ajJ{N:Nat}(OK:eF N b)(hN:N<=1048000)(hhas:b.has=true)(steps:Nat)(hst:2*b.fuel.toNat<=steps)(B:bC h0 h a b vc ov o):
  al PP 72 [.pointer (some ⟨a,0,none⟩)] h (λr h'=>cN h0 h h' a o (ma steps b).1/\nV h' (ma steps b).2 r):=by
 refine aC Tryz.func72 ahD ?_;simp only[aA,Tryz.f72];have hlen:=OK.len;have hll:=uJ b;have hpl:=BD (by omega) B;obtain⟨RB,hRB⟩:∃F,F=ma steps b:=⟨_,rfl⟩;rw[<-hRB];rw[ajI]at hRB;simp -implicitDefEqProofs;refine hpl.mono ?_;rintro r G2 ⟨E2,v1,v2,v3,rfl,P1,P2,P3⟩;have B2:=B.exts E2;have l1:(aO b).1.length=(bV b).length:=cf ..;have l2:(aO b).2.1.length=(bV b).length:=cf ..;obtain⟨hok1,hok2⟩:=BE OK;have hP:lA G2 b.v (aO b).1 (aO b).2.2 vc v1 v3:=⟨OK.may hhas,by omega,by show(cT 0 (bV b)).length<=_;have:=wG 0 (bV b);omega,λq hq=>(hok2 q hq).wide,B2.dv,P1,P3⟩;have hag:=CY steps b.v (aO b).1 (aO b).2.2 (aO b).2.1 b.fuel hst vc v1 v3 v2 (λx hx=>(hok1 x hx).wide) (by omega) G2 hP P2.sl;obtain⟨R,hR⟩:=nm (gj steps b.v (aO b).1 (aO b).2.2 (aO b).2.1 b.fuel);have hRl:R.2=0->R.1.aY.length=(bV b).length:=λz=>by
  rw[hR]at z ⊢;rw[zO (by omega) z];exact l1
 rw[<-hR]at hag hRB;have hrow2:=B2.row;obtain⟨a1,n1,c1,g,r,a2,n2,c2,a3,n3,c3,a4,n4,c4,rfl,rfl,rfl,hrow⟩:=B.cells;simp only[iI,dB,dJ]at hrow2;obtain⟨x1,y1,e1⟩:=P1.shape;obtain⟨x2,y2,e2⟩:=P2.shape;obtain⟨x3,y3,e3⟩:=P3.shape;subst e1;subst e2;subst e3;simp -implicitDefEqProofs[af,hrow2];intro _;refine hag.mono ?_;rintro r G4 ⟨E4,pv,at_,nt,ct,rfl,S4⟩;obtain⟨x6,y6,e6⟩:=S4.shape;subst e6;have EE:Ext h G4:=E2.trans E4;have B4:=B2.exts E4;by_cases q2:R.2=0;rotate_left
 .rw[if_pos q2]at hRB;subst hRB;simp -implicitDefEqProofs[aF,qz,q2];intro _;exact⟨cN.fP B EE,jJ _ _⟩
 rw[if_neg (by simpa using q2)]at hRB;by_cases q4:R.1.answer=3
 .rw[if_pos q4]at hRB;subst hRB;simp -implicitDefEqProofs[aF,qz,q2,q4];intro _;exact⟨cN.fP B EE,jJ _ 7⟩
 rw[if_neg q4]at hRB;subst hRB;have hRl':=hRl q2;have hsit:=Rs B4 (by omega) R.1.aY _ S4 (by omega);simp -implicitDefEqProofs[aF,qz,q2,q4];intro _;refine hsit.mono ?_;rintro r G5 ⟨B5,C5⟩;have K5:=C5.kp B4.iQ;have hmo:=ach (aO b).2.1 R.1.aY _ _ (by omega) (by omega) G5 ((P2.ext E4).kp K5).sl (S4.kp K5).sl;simp -implicitDefEqProofs[af];intro _;refine hmo.mono ?_;rintro r G6 ⟨E6,S6⟩;obtain⟨x7,y7,e7⟩:=S6.shape;subst e7;simp -implicitDefEqProofs[af];intro _;exact⟨(cN.pre EE (cN.px B5 C5)).post E6,_,rfl,aL.nil⟩
end
def jK(v:Int)(out ks:List Int):List Int:=ks.foldl (λout k=>out.set k.toNat v) out
def wS(v:Int):∀(ks out:List Int),(jK v out ks).length=out.length:=by
 intro ks;induction ks with
 |nil=>intro out;rfl
 |cons k r ih=>intro out;show(jK v (out.set k.toNat v) r).length=_;rw[ih,kW]
def Rl(v:Int)(out ks:List Int)(j:Nat){t:Int}(h:ks[j]? =some t):jK v out (ks.take (j+1))=(jK v out (ks.take j)).set t.toNat v:=by
 unfold jK;rw[fL,h,Option.toList_some,List.foldl_append];rfl
def akE(v:Int):∀(ks out:List Int)(j:Nat),(∀k∈ks,0<=k)->j<out.length->(jK v out ks).getD j 0=if(j:Int)∈ks then v else out.getD j 0:=by
 intro ks;induction ks with
 |nil=>intro out j _ _;rfl
 |cons k r ih=>
  intro out j hk hj;have hk0:=hk k dU;show(jK v (out.set k.toNat v) r).getD j 0=_;rw[ih _ _ (λx hx=>hk x (eI _ hx)) (by rw[kW];exact hj)];by_cases q:(j:Int)∈r
  .rw[if_pos q,if_pos (eI _ q)]
  .rw[if_neg q];by_cases q2:(j:Int)=k
   .rw[if_pos (by rw[q2];exact dU)];have e:k.toNat=j:=(by omega);rw[bu,e,List.getElem?_set_self hj];rfl
   .rw[if_neg (λz=>by rcases cJ.1 z with z|z;exact q2 z;exact q z)];rw[bu,bu,List.getElem?_set_ne (by omega)]
def O2(v:ai):∀k∈iv v,0<=k:=by
 intro k hk;unfold iv at hk;obtain⟨n,_,rfl⟩:=dO.1 hk;omega
def aaT{v:ai}(M:aK v=true):∀k∈iv v,k<v.ag.length:=by
 intro k hk;unfold iv at hk;obtain⟨n,hn,rfl⟩:=dO.1 hk;have:=dF.1 (gS.1 hn).1;rw[zq M]at this;omega
def kZ(b:aI)(i:Nat):List Int:=((bV b).take i).foldl (λout o=>jK o.id out (il b o)) (jK (-1) (List.replicate b.v.ag.length 0) (iv b.v))
def XH(b:aI)(i:Nat){t:aB}(h:(bV b)[i]? =some t):kZ b (i+1)=jK t.id (kZ b i) (il b t):=by
 unfold kZ;rw[fL,h,Option.toList_some,List.foldl_append];rfl
def ZE(f:aB->Int)(g:aB->List Int):∀(l:List aB)(out:List Int),(l.foldl (λout o=>jK (f o) out (g o)) out).length=out.length:=by
 intro l;induction l with
 |nil=>intro out;rfl
 |cons o r ih=>intro out;rw[List.foldl_cons,ih,wS]
def HZ(b:aI)(i:Nat):(kZ b i).length=b.v.ag.length:=by
 unfold kZ;rw[ZE (λo=>o.id) (λo=>il b o),wS,List.length_replicate]
def XG(b:aI):ue b=⟨0,0,(0,0),kZ b (bV b).length⟩:=by
 unfold ue kZ;rw[jZ];have e:(List.range b.v.ag.length).map (λk:Nat=>if(iv b.v).contains (k:Int)then(-1:Int)else 0)=jK (-1) (List.replicate b.v.ag.length 0) (iv b.v):=by
  refine List.ext_getElem (by rw[wS];simp) (λj h1 h2=>?_);rw[cf,pP]at h1;have:=akE (-1) (iv b.v) (List.replicate b.v.ag.length 0) j (O2 b.v) (by simpa using h1);rw[bu,aq h2,iH]at this;rw[this,List.getElem_map,List.getElem_range];have e2:(List.replicate b.v.ag.length (0:Int)).getD j 0=0:=by
   rw[bu];cases q:(List.replicate b.v.ag.length (0:Int))[j]? with
   |none=>rfl
   |some x=>exact(List.mem_replicate.1 (dE q)).2
  rw[e2];by_cases q:(j:Int)∈iv b.v
  .rw[if_pos q,if_pos (by simpa using q)]
  .rw[if_neg q,if_neg (by simpa using q)]
 simp only[e];rfl
def akx{b:aI}{o:aB}:∀x∈il b o,0<=x/\x<b.v.ag.length:=by
 intro x hx;unfold il at hx;split at hx
 .unfold cY at hx;split at hx
  .cases ht:lM b.v (bK b.v) o.first o.az.size with
   |none=>rw[ht]at hx;cases hx
   |some l=>
    rw[ht]at hx;simp only at hx;split at hx
    .simp only[iH]at hx;obtain⟨e,t1,t2,t3⟩:=wY ht;rw[e]at hx;have:=Qx hx;omega
    .cases hx
  .cases hx
 .cases hx
def aky{b:aI}{o:aB}:(il b o).length<=b.v.ag.length:=by
 unfold il;split
 .unfold cY;split
  .cases ht:lM b.v (bK b.v) o.first o.az.size with
   |none=>simp
   |some l=>
    simp only;split
    .simp only[iH];obtain⟨e,t1,t2,t3⟩:=wY ht;rw[e,qo];omega
    .simp
  .simp
 .simp
def xb:List Value:=[.int .i64 0,.int .i64 0,.int .i64 0,.int .i64 0,.slice none 0 0]
def Us(h:aa)(a b1:Nat)(kv:Value)(ks:List Int)(n m k:Nat)(σ:St):Prop:=∃i:Nat,k=m-i/\i<=m/\Ext h σ.m.h/\σ.m.h.f b1= .row true 3 ((jK (-1) (List.replicate n 0) (ks.take i)).map (Value.int .i64))/\b1<σ.m.h.n/\aL 3 ab σ.m.h kv ks/\
 σ.t.get 0=some (.pointer (some ⟨a,0,none⟩))/\σ.t.get 2=some (.pointer (some ⟨2,0,some 0⟩))/\σ.t.get 3=some (.slice (some ⟨b1,0,none⟩) n n)/\σ.t.get 21=some kv/\σ.t.get 22=some (.int .i64 (m:Nat))/\σ.t.get 23=some (.int .i64 (i:Nat))/\σ.m.x.look 2=some (38,xb)
def Ut(h:aa)(a b1:Nat)(b:aI)(lv:Value)(n m k:Nat)(σ:St):Prop:=∃i:Nat,k=m-i/\i<=m/\Ext h σ.m.h/\σ.m.h.f b1= .row true 3 ((kZ b i).map (Value.int .i64))/\b1<σ.m.h.n/\aL 43 aP σ.m.h lv (bV b)/\
 σ.t.get 0=some (.pointer (some ⟨a,0,none⟩))/\σ.t.get 2=some (.pointer (some ⟨2,0,some 0⟩))/\σ.t.get 3=some (.slice (some ⟨b1,0,none⟩) n n)/\σ.t.get 32=some lv/\σ.t.get 33=some (.int .i64 (m:Nat))/\σ.t.get 34=some (.int .i64 (i:Nat))/\σ.m.x.look 2=some (38,xb)
def Uu(h:aa)(a b1:Nat)(b:aI)(lv sv:Value)(t:aB)(i n m p k:Nat)(σ:St):Prop:=∃j:Nat,k=p-j/\j<=p/\Ext h σ.m.h/\σ.m.h.f b1= .row true 3 ((jK t.id (kZ b i) ((il b t).take j)).map (Value.int .i64))/\b1<σ.m.h.n/\aL 43 aP σ.m.h lv (bV b)/\aL 3 ab σ.m.h sv (il b t)/\
 σ.t.get 0=some (.pointer (some ⟨a,0,none⟩))/\σ.t.get 2=some (.pointer (some ⟨2,0,some 0⟩))/\σ.t.get 3=some (.slice (some ⟨b1,0,none⟩) n n)/\σ.t.get 7=some (.pointer (some ⟨7,0,some 0⟩))/\σ.t.get 32=some lv/\σ.t.get 33=some (.int .i64 (m:Nat))/\σ.t.get 34=some (.int .i64 (i:Nat))/\σ.t.get 40=some sv/\σ.t.get 41=some (.int .i64 (p:Nat))/\σ.t.get 42=some (.int .i64 (j:Nat))/\σ.m.x.look 2=some (38,xb)/\σ.m.x.look 7=some (43,aP t)
def XI{h0 h:aa}{a:Nat}{b:aI}{vc:List Value}{ov:Value}{o:Option Nat}{N:Nat}(OK:eF N b)(hN:N<=1048000)(hhas:b.has=true)(B:bC h0 h a b vc ov o):
  al PP 73 [.pointer (some ⟨a,0,none⟩)] h (λr h'=>Ext h h'/\nV h' (ue b) r):=by
 refine al.jM (post:=λr h'=>Ext h h'/\∃sv,r= .agg ⟨uX (ue b) sv⟩/\cO 3 ab h h' sv (ue b).ag) ?_ (λv h' ⟨E,sv,e,W⟩=>by
  obtain⟨h'',w,E',S⟩:=W.dG E;exact⟨h'',w,E',sv,e,S⟩)
 refine aC Tryz.func73 ahE ?_;simp only[aA,Tryz.f73];have M:=OK.may hhas;have hvl:=(jF M).len;have hlen:=OK.len;have hll:=uJ b;rw[XG];obtain⟨n,hn⟩:=nm b.v.ag.length;have hv:=B.dv;have hk:=λG(E:Ext h G)=>aaU b.v M vc G (B.dv.ext E);have hlive:=λG(E:Ext h G)=>uL (by omega) (B.exts E);have hse:=λG(E:Ext h G)(t:aB)(ht:jq t.first)=>xy (B.exts E) M t ht.wide;have hrow:=B.row;obtain⟨s,ke,p,rfl,z1,z2,z3⟩:=hv;obtain⟨b1,d1,rfl⟩:=z1.shape;obtain⟨b2,d2,rfl⟩:=z2.shape;obtain⟨b3,d3,rfl⟩:=z3.shape;obtain⟨b4,d4,hov⟩:=B.dR.shape;subst hov;simp only[iI,dB,dJ]at hrow;have hz:=xc (.int .i64 0) n;have hmx:n*8<=140737488355328:=by omega
 have h00:¬(n:Int)<0:=by omega
 have hne:¬a=h.n:=by have:=B.a1;omega
 have hu0:List.replicate n (Value.int .i64 0)=(jK (-1) (List.replicate n 0) ((iv b.v).take 0)).map (Value.int .i64):=by simp[jK]
 rw[<-hn]at hrow hk;simp -implicitDefEqProofs[hrow,oF,dH,hz,hmx,h00,hne];rw[hu0];refine(hk _ (Ext.new h _)).mono ?_;rintro r G ⟨E,S⟩;have hGf:=E.f h.n (by simp);obtain⟨ad,cc,rfl⟩:=S.shape;have hkl:(iv b.v).length<=n:=by
  unfold iv;rw[cf];have:=List.length_filter_le (λk=> !(bK b.v).getD k true) (List.range (bK b.v).length);rw[pP]at this;have h2:=zq M;omega
 obtain⟨m,hm⟩:=nm (iv b.v).length;rw[<-hm]at S hkl ⊢;simp -implicitDefEqProofs[af];intro _;refine bG (Us h a h.n (.slice ad m cc) (iv b.v) n m) _ ⟨0,rfl,by omega,(Ext.new h _).trans E,by rw[hGf];simp,by show h.n<G.n;have:=E.n;rw[eu]at this;omega,S,by simp[xb]⟩ ?_;clear S hGf E;rintro k0 ⟨T,⟨x,G⟩⟩ ⟨i,rfl,hi,E,hb,hbn,S,g0,g2,g3,g21,g22,g23,x2⟩;simp at E hb hbn S g0 g2 g3 g21 g22 g23 x2;simp -implicitDefEqProofs[g0,g2,g3,g21,g22,g23,x2];refine bR (λhc=>?_) (λhc=>?_)
 .have him:i<m:=by omega
  have w1:=bO (i:=i) (by omega);have hti:(iv b.v)[i]? =some (iv b.v)[i]:=aq (by omega);obtain⟨_,b',o1,cells',r,rfl,hb',hd',hlc,_⟩:=S.at 1 V.dY hti;obtain⟨t,ht⟩:=nm (iv b.v)[i];rw[<-ht]at hd' hti;have t0:=O2 b.v t (dE hti);have t1:=aaT M t (dE hti);obtain⟨q,rfl⟩:∃q:Nat,t=q:=⟨t.toNat,by omega⟩;have hqn:q<n:=by omega
  rw[Nat.mul_one]at hd' hlc;have hsu:=Rl (-1) (List.replicate n 0) (iv b.v) i hti;have hsl:=wS (-1) ((iv b.v).take i) (List.replicate n 0);rw[List.length_replicate]at hsl;obtain⟨L,hL⟩:=nm (jK (-1) (List.replicate n 0) ((iv b.v).take i));rw[<-hL]at hb hsu hsl;obtain⟨cells,hcells⟩:=nm (L.map (Value.int .i64));rw[<-hcells]at hb;have hcl2:cells.length=n:=by rw[hcells,cf,hsl]
  have hil:q+1<=cells.length:=by omega
  have hts:=mO (Value.int .i64) L q (-1) (by omega);simp only[gR]at hsu;rw[<-hsu,<-hcells]at hts;have hbf:∀e cs,G.f h.n≠.row false e cs:=λe cs z=>by rw[hb]at z;cases z
  simp -implicitDefEqProofs[g0,g2,g3,g21,g22,g23,x2,him,hb',hd',hlc,ab,hqn,hb,hil,w1];refine⟨m-(i+1),by omega,i+1,rfl,by omega,E.dp (aX _) _,?_,hbn,S.kp ((Kp.refl _).set hbf _),by simp[x2]⟩;rw[<-hts];simp
 .have e:i=m:=by omega
  subst e;have ec:jK (-1) (List.replicate n 0) ((iv b.v).take i)=kZ b 0:=by
   rw[hm,jZ];unfold kZ;rw[List.take_zero,List.foldl_nil,<-hn]
  rw[ec]at hb;simp -implicitDefEqProofs[g0,g2,g3,g21,g22,g23,x2];refine(hlive G E).mono ?_;rintro r G2 ⟨E2,S2⟩;obtain⟨ad2,cc2,rfl⟩:=S2.shape;obtain⟨m2,hm2⟩:∃m,m=(bV b).length:=⟨_,rfl⟩;have bN:=E2.f h.n hbn;rw[hb]at bN;rw[<-hm2]at S2 ⊢;simp -implicitDefEqProofs[af];intro _;refine bG (Ut h a h.n b (.slice ad2 m2 cc2) n m2) _ ⟨0,rfl,by omega,E.trans E2,bN,by have:=E2.n;simp only;omega,S2,by simp[g0,g2,g3,x2]⟩ ?_;clear g0 g2 g3 g21 g22 g23 x2 hb hbn S bN E2 S2 E hc;rintro k1 ⟨T,⟨x,G⟩⟩ ⟨i2,rfl,uH,E,hb,hbn,S,g0,g2,g3,g32,g33,g34,x2⟩;simp at E hb hbn S g0 g2 g3 g32 g33 g34 x2;simp -implicitDefEqProofs[g0,g2,g3,g32,g33,g34,x2];refine bR (λhc=>?_) (λhc=>?_)
  .have him:i2<m2:=(by omega);have w1:=bO (i:=i2) (by omega);have hti:(bV b)[i2]? =some (bV b)[i2]:=aq (by omega);obtain⟨_,b',o1,cells',r,rfl,hb',hd',hlc,_⟩:=S.at 6 iA hti;obtain⟨t,ht⟩:=nm (bV b)[i2];rw[<-ht]at hd' hti;have htf:=OK.fst t (gS.1 (dE hti)).1;have hk6:(cells'.drop (o1+i2*6)).take 6=aP t:=(by rw[hd'];rfl);have hse':=hse G E t htf;have hcs:=XH b i2 hti;have hcl:=HZ b i2;simp only[jI,aP]at hse' hk6;simp -implicitDefEqProofs[g0,g2,g3,g32,g33,g34,x2,him,hb',hk6,hlc];refine hse'.mono ?_;rintro r G2 ⟨E2,S2⟩;obtain⟨ad3,cc3,rfl⟩:=S2.shape;have bN:=E2.f h.n hbn;rw[hb]at bN;have hpl:=aky (b:=b) (o:=t);obtain⟨p,hp⟩:=nm (il b t).length;rw[<-hp]at S2 hpl ⊢;simp -implicitDefEqProofs[af];intro _;refine bG (Uu h a h.n b (.slice (some ⟨b',o1,none⟩) m2 cc2) (.slice ad3 p cc3) t i2 n m2 p) _ ⟨0,rfl,by omega,E.trans E2,by simpa[jK]using bN,by have:=E2.n;simp only;omega,S.ext E2,S2,by simp[g0,g2,g3,g32,g33,g34,x2,aP]⟩ ?_;clear g0 g2 g3 g32 g33 g34 x2 hb hbn S bN E2 S2 E hb' hd' hk6 hlc hse';rintro k2 ⟨T,⟨x,G⟩⟩ ⟨j,rfl,hj,E,hb,hbn,S,S2,g0,g2,g3,g7,g32,g33,g34,g40,g41,g42,x2,x7⟩;simp at E hb hbn S S2 g0 g2 g3 g7 g32 g33 g34 g40 g41 g42 x2 x7;simp only[aP]at x7;simp -implicitDefEqProofs[g0,g2,g3,g7,g32,g33,g34,g40,g41,g42,x2,x7];refine bR (λhc=>?_) (λhc=>?_)
   .have hjp:j<p:=(by omega);have w2:=bO (i:=j) (by omega);have huj:(il b t)[j]? =some (il b t)[j]:=aq (by omega);obtain⟨_,b5,o5,cells5,r5,rfl,hb5,hd5,hlc5,_⟩:=S2.at 1 V.dY huj;obtain⟨u,hu⟩:=nm (il b t)[j];rw[<-hu]at hd5 huj;have hub:=akx u (dE huj);obtain⟨q,rfl⟩:∃q:Nat,u=q:=⟨u.toNat,by omega⟩;have hqn:q<n:=(by omega);rw[Nat.mul_one]at hd5 hlc5;have hsu:=Rl t.id (kZ b i2) (il b t) j huj;have hsl:=wS t.id ((il b t).take j) (kZ b i2);obtain⟨L,hL⟩:=nm (jK t.id (kZ b i2) ((il b t).take j));rw[<-hL]at hb hsu hsl;obtain⟨cells,hcells⟩:=nm (L.map (Value.int .i64));rw[<-hcells]at hb;have hcl2:cells.length=n:=(by rw[hcells,cf,hsl,hcl,hn]);have hil:q+1<=cells.length:=(by omega);have hts:=mO (Value.int .i64) L q t.id (by omega);simp only[gR]at hsu;rw[<-hsu,<-hcells]at hts;have hbf:∀e cs,G.f h.n≠.row false e cs:=λe cs z=>(by rw[hb]at z;cases z);simp -implicitDefEqProofs[g0,g2,g3,g7,g32,g33,g34,g40,g41,g42,x2,x7,hjp,hb5,hd5,hlc5,ab,hqn,hb,hil,w2];refine⟨p-(j+1),by omega,j+1,rfl,by omega,E.dp (aX _) _,?_,hbn,S.kp ((Kp.refl _).set hbf _),S2.kp ((Kp.refl _).set hbf _),by simp[x2,x7,aP]⟩;rw[<-hts];simp
   .have e:j=p:=(by omega);subst e;have ec:jK t.id (kZ b i2) ((il b t).take j)=kZ b (i2+1):=(by rw[hp,jZ,hcs]);rw[ec]at hb;simp -implicitDefEqProofs[g0,g2,g3,g7,g32,g33,g34,g40,g41,g42,x2,x7,w1];exact⟨m2-(i2+1),by omega,i2+1,rfl,by omega,E,hb,hbn,S,by simp[g0,g2,g3,g32,g33,x2]⟩
  .have e:i2=m2:=(by omega);subst e;simp -implicitDefEqProofs[g0,g2,g3,g32,g33,g34,x2,xb];refine⟨E,_,rfl,some ⟨h.n,0,none⟩,by rw[HZ,hn],.inr ⟨h.n,rfl,?_,aX _,hbn⟩⟩;rw[hb];have:∀l:List Int,l.map (Value.int .i64)=l.flatMap ab:=λl=>(by induction l with|nil=>rfl|cons z r ih=>rw[fg,ic,ih];rfl);rw[this]
end Go.Proofs.Ybk.K
namespace Go.Proofs.Ybk.K
open Go Go.Am
set_option maxHeartbeats 4000000
open V (au aR ai ao aZ ab bg aK aE cA cG a8 bL)
open F (cC)
def eD(r:dW):List Value:=[.int .i64 r.kind,.string (B r.text),.int .i64 r.order.id,.int .i64 r.order.state,.int .i64 r.order.az.size,.int .i64 r.order.az.cS,.int .i64 r.order.gX,.int .i64 r.order.first,.int .i64 r.time]
def wM(r:dW):(eD r).length=9:=rfl
def qV:lN 39 73 9 80 eD:=⟨J2,R7,⟨_,SI,rfl⟩,Dt,Iv,by decide,by decide,wM,λ_=>rfl⟩
def akK:∀(l was:List aB)(t:aB),fZ (l++[t]) was=fZ l was++(if was[l.length]? =some t then[]else[gI t]):=by
 intro l;induction l with
 |nil=>
  intro was t;show(if was.head? =some t then[]else[gI t])++[]=[]++_;rw[pO,dJ,List.head?_eq_getElem?];rfl
 |cons a r ih=>
  intro was t;rw[dB,fZ,fZ,ih,eG,eW];cases was with
  |nil=>rfl
  |cons b s=>rfl
def oM(l was:List aB)(i:Nat):List dW:=fZ (l.take i) was
def akL(l was:List aB)(i:Nat){t:aB}(h:l[i]? =some t):oM l was (i+1)=if was[i]? =some t then oM l was i else oM l was i++[gI t]:=by
 unfold oM;have hl:(l.take i).length=i:=by
  have:=(cP.1 h).1;rw[dh];omega
 rw[fL,h,Option.toList_some,akK,hl];split
 .rw[pO]
 .rfl
def Rr:∀(l was:List aB),(fZ l was).length<=l.length:=by
 intro l;induction l with
 |nil=>intro was;exact aX _
 |cons a r ih=>
  intro was;rw[fZ,bH,eW];have:=ih was.tail;split<;>simp<;>omega
def te(b:aI)(c:CmdR):List dW:=if c.kind=1 then[gJ c.text]else if c.kind=5 then[iP b.now]else[]
def akJ(b was:aI)(c:CmdR):kQ b was c=if te b c++fZ b.l was.l=[]then[]else(te b c++fZ b.l was.l)++[recC]:=rfl
def ajd(b:aI)(c:CmdR):(te b c).length<=1:=by
 unfold te;split
 .exact aX _
 .split<;>simp
def zG(h:aa)(a2:Nat)(pre:List dW)(l was:List aB)(lv:Value)(C2:List Value)(m n:Nat)(σ:St):Prop:=∃(i:Nat)(o:Option Nat)(w:Value),n=m-i/\i<=m/\Ext h σ.m.h/\Ow 73 eD h σ.m.h o (pre++oM l was i) w/\
 σ.t.get 1=some (.pointer (some ⟨a2,0,none⟩))/\σ.t.get 7=some w/\σ.t.get 33=some lv/\σ.t.get 34=some (.int .i64 (m:Nat))/\σ.t.get 35=some (.int .i64 (i:Nat))
def UM(h:aa)(a a2:Nat)(pre:List dW)(σ:St):Prop:=∃(o:Option Nat)(w:Value),Ext h σ.m.h/\Ow 73 eD h σ.m.h o pre w/\σ.t.get 0=some (.pointer (some ⟨a,0,none⟩))/\σ.t.get 1=some (.pointer (some ⟨a2,0,none⟩))/\σ.t.get 7=some w
section
variable {h0 h:aa} {a a2:Nat} {b was:aI} {vc vc2:List Value} {ov ov2:Value} {o o2:Option Nat}
def akM(hl:b.l.length<=1048576)(hl2:was.l.length<=1048576)(c:CmdR)(B1:bC h0 h a b vc ov o)(B2:bC h0 h a2 was vc2 ov2 o2):
  al PP 37 [.pointer (some ⟨a,0,none⟩),.pointer (some ⟨a2,0,none⟩),cH c] h (λr h'=>Ext h h'/\aL 73 eD h' r (kQ b was c)):=by
 refine al.jM (post:=λv' h'=>Ext h h'/\cO 73 eD h h' v' (kQ b was c)) ?_ (λv h' ⟨E,W⟩=>by
  obtain⟨h'',w,E',S⟩:=W.dG E;exact⟨h'',w,E',S⟩)
 refine aC Tryz.func37 ahg ?_;simp only[aA,Tryz.f37];obtain⟨SB,hSB⟩:∃F,F=kQ b was c:=⟨_,rfl⟩;rw[<-hSB];rw[akJ]at hSB;have hr1:List.range 9=[0,1,2,3,4,5,6,7,8]:=rfl;have hrow:=B1.row;have hrow2:=B2.row;have hS1:=B1.dR.sl;have hS2:=B2.dR.sl;obtain⟨x1,y1,m1,g1,r1,x2,m2,y2,x3,m3,y3,e1⟩:=B1.dv.shape;obtain⟨x4,y4,m4,g4,r4,x5,m5,y5,x6,m6,y6,e2⟩:=B2.dv.shape;obtain⟨x7,y7,e3⟩:=B1.dR.shape;obtain⟨x8,y8,e4⟩:=B2.dR.shape;subst e1;subst e2;subst e3;subst e4;simp only[iI,dB,dJ]at hrow hrow2;refine w8 3 (UM h a a2 (te b c)) ?_ ?_
 .simp only[sF,sE];have W0:Ow 73 eD h h none ([]:List dW) (.slice none 0 0):=Ow.nil;have hA1:=iV qV W0 (gJ c.text) (by decide);have hA3:=iV qV W0 (iP b.now) (by decide);have k1:[Value.int .i64 1,.string (B c.text),.int .i64 0,.int .i64 0,.int .i64 0,.int .i64 0,.int .i64 0,.int .i64 0,.int .i64 0]=eD (gJ c.text):=rfl;have k3:[Value.int .i64 3,.string (B []),.int .i64 0,.int .i64 0,.int .i64 0,.int .i64 0,.int .i64 0,.int .i64 0,.int .i64 b.now]=eD (iP b.now):=rfl;simp only[List.flatMap_nil,dJ,qR,iG]at hA1 hA3;rw[<-k1]at hA1;rw[<-k3]at hA3;unfold te;by_cases q1:c.kind=1
  .rw[if_pos q1];simp -implicitDefEqProofs[cH,cmdC,q1,aM,hr1,hA1];exact⟨_,_,iZ (Ext.bJ h) W0 _ _,Ow.one W0 (aX _) _ (gJ c.text) rfl,by simp⟩
  .by_cases q5:c.kind=5
   .rw[if_neg q1,if_pos q5];simp -implicitDefEqProofs[cH,cmdC,q1,q5,hrow,aM,hr1,hA3];exact⟨_,_,iZ (Ext.bJ h) W0 _ _,Ow.one W0 (aX _) _ (iP b.now) rfl,by simp⟩
   .rw[if_neg q1,if_neg q5];simp -implicitDefEqProofs[cH,cmdC,q1,q5];exact⟨none,_,Ext.bJ h,Ow.nil,by simp⟩
 .simp only[tF,qG];rintro⟨T,⟨x,G⟩⟩ ⟨oo,w,E,W,g0,g1,g7⟩;simp at E W g0 g1 g7;have hpl:=ajd b c;obtain⟨pre,hpre⟩:∃p,p=te b c:=⟨_,rfl⟩;rw[<-hpre]at W hpl hSB;have hrG:=hrow;rw[<-E.f a B1.a1]at hrG;obtain⟨m,hm⟩:=nm b.l.length;rw[<-hm]at hS1 hrG;simp -implicitDefEqProofs[g0,g1,g7,hrG];refine bG (zG h a2 pre b.l was.l (.slice x7 m y7) [] m) _ ⟨0,oo,w,rfl,by omega,E,by simpa[oM,fZ]using W,by simp[g1,g7]⟩ ?_;clear W g0 g1 g7 hrG E;rintro n ⟨T,⟨x,G⟩⟩ ⟨i,oo,w,rfl,hi,E,W,g1,g7,g33,g34,g35⟩;simp at E W g1 g7 g33 g34 g35;have hwn:cn w=true:=by rw[W.1];rfl
  simp only[cn,iM,Option.isNone_iff_eq_none]at hwn;simp -implicitDefEqProofs[g1,g7,g33,g34,g35,hwn];refine bR (λhc=>?_) (λhc=>?_)
  .have him:i<m:=(by omega);have w1:=bO (i:=i) (by omega);have hti:b.l[i]? =some b.l[i]:=aq (by omega);obtain⟨_,b',o1,w0,cells',r,rfl,hb',hd',hlc,_⟩:=(hS1.ext E).at 6 iA hti;obtain⟨t,ht⟩:=nm b.l[i];rw[<-ht]at hd' hti;have hk6:(cells'.drop (o1+i*6)).take 6=aP t:=(by rw[hd'];rfl);have hnx:=akL b.l was.l i hti;have hfl:(pre++oM b.l was.l i).length<=1048577:=by
    rw[bH];have:=Rr (b.l.take i) was.l;rw[dh]at this;show pre.length+(fZ (b.l.take i) was.l).length<=_;omega
   have hr2:=hrow2;rw[<-E.f a2 B2.a1]at hr2;obtain⟨acc,hacc⟩:=nm (pre++oM b.l was.l i);have hnx':pre++oM b.l was.l (i+1)=if was.l[i]? =some t then acc else acc++[gI t]:=by
    rw[hnx,hacc];split
    .rfl
    .rw[eG]
   rw[<-hacc]at W hfl;obtain⟨rfl,_⟩:=id W;have hA:=iV qV W (gI t) (by omega);obtain⟨ti,ts,⟨tp,tw⟩,tl,tf⟩:=t;have k2:[Value.int .i64 2,.string (B []),.int .i64 ti,.int .i64 ts,.int .i64 tp,.int .i64 tw,.int .i64 tl,.int .i64 tf,.int .i64 0]=eD (gI ⟨ti,ts,⟨tp,tw⟩,tl,tf⟩):=rfl;rw[<-k2]at hA;simp only[aP]at hk6;by_cases q:was.l.length<=i
   .have q':(was.l.length:Int)<=i:=(by omega);rw[if_neg (by rw[iT q];simp)]at hnx';simp -implicitDefEqProofs[g1,g7,g33,g34,g35,him,hb',hk6,hlc,hr2,q,q',aM,hr1,hA,w1];refine⟨m-(i+1),by omega,i+1,some (G.n+1),.slice (some ⟨G.n+1,0,none⟩) (acc.length+1) (acc.length+1),rfl,by omega,iZ E W _ _,?_,by simp⟩;rw[hnx'];exact Ow.one W E.n _ _ rfl
   .have q':¬(was.l.length:Int)<=i:=(by omega);have hiw:i<was.l.length:=(by omega);have hui:was.l[i]? =some was.l[i]:=aq hiw;obtain⟨_,b5,o5,w5,cells5,r5,rfl,hb5,hd5,hlc5,_⟩:=(hS2.ext E).at 6 iA hui;obtain⟨u,hu⟩:=nm was.l[i];rw[<-hu]at hd5 hui;have hk5:(cells5.drop (o5+i*6)).take 6=aP u:=(by rw[hd5];rfl);obtain⟨ui,us,⟨up,uw⟩,ul,uf⟩:=u;simp only[aP]at hk5;simp -implicitDefEqProofs[g1,g7,g33,g34,g35,him,hb',hk6,hlc,hr2,q,q',hiw,hb5,hk5,hlc5];refine jk (λhq=>?_) (λhq=>?_)
    .rw[if_neg (by rw[hui];intro e;simp only[av,aB.mk.injEq,aQ.mk.injEq]at e;simp[e.1,e.2.1,e.2.2.1.1,e.2.2.1.2,e.2.2.2.1,e.2.2.2.2]at hq)]at hnx';simp -implicitDefEqProofs[g1,g7,g33,g34,g35,aM,hr1,hA,w1];refine⟨m-(i+1),by omega,i+1,some (G.n+1),.slice (some ⟨G.n+1,0,none⟩) (acc.length+1) (acc.length+1),rfl,by omega,iZ E W _ _,?_,by simp⟩;rw[hnx'];exact Ow.one W E.n _ _ rfl
    .simp at hq;obtain⟨rfl,rfl,⟨rfl,rfl⟩,rfl,rfl⟩:=hq;rw[if_pos hui]at hnx';simp -implicitDefEqProofs[g1,g7,g33,g34,g35,w1];exact⟨m-(i+1),by omega,i+1,oo,_,rfl,by omega,E,by rw[hnx'];exact W,by simp[g1,g7,g33,g34]⟩
  .have e:i=m:=(by omega);subst e;have he:oM b.l was.l i=fZ b.l was.l:=(by unfold oM;rw[hm,jZ]);rw[he]at W;have hfl:(pre++fZ b.l was.l).length<=1048577:=by
    rw[bH];have:=Rr b.l was.l;omega
   obtain⟨acc,hacc⟩:=nm (pre++fZ b.l was.l);rw[<-hacc]at W hfl hSB;obtain⟨rfl,_⟩:=id W;by_cases q:acc=[]
   .have q':acc.length=0:=(by rw[q];rfl);rw[if_pos q]at hSB;subst hSB;simp -implicitDefEqProofs[g7,q'];exact⟨E,cO.nil⟩
   .have q':¬acc.length=0:=λz=>q (mY.1 z);rw[if_neg q]at hSB;subst hSB;have hA:=iV qV W recC (by omega);have k4:[Value.int .i64 4,.string (B []),.int .i64 0,.int .i64 0,.int .i64 0,.int .i64 0,.int .i64 0,.int .i64 0,.int .i64 0]=eD recC:=rfl;rw[<-k4]at hA;simp -implicitDefEqProofs[g7,q',aM,hr1,hA];exact⟨iZ E W _ _,(Ow.one W E.n _ recC rfl).own⟩
end
section
variable {h0 h:aa} {a:Nat} {b:aI} {vc:List Value} {ov:Value} {o:Option Nat}
def Yq{N:Nat}(OK:eF N b)(hN:N<=1048000)(steps:Nat)(hst:2*b.fuel.toNat<=steps)(c:CmdR)(hc:c.text.length<=1048576)(G0:cC h0)(B:bC h0 h a b vc ov o):
  al PP 36 [.pointer (some ⟨a,0,none⟩),cH c] h (λr h'=>cN h0 h h' a o (bZ steps b c).1/\nV h' (bZ steps b c).2 r):=by
 refine aC Tryz.func36 ahf ?_;simp only[aA,Tryz.f36];have hlen:=OK.len;have hload:=aby (by omega) c hc G0 B;have htick:=anc (by omega) ⟨OK.n0,OK.n1⟩ c.a B;have hrow:=B.row;have hrow':=hrow;obtain⟨a1,n1,c1,g,r,a2,n2,c2,a3,n3,c3,a4,n4,c4,e1,e2,e3,hr⟩:=B.cells;have fin:∀(R:jX)(v:Value)(G:aa),nV G R v->∃ad n cc,v= .agg ⟨[.int .i64 R.code,.int .i64 R.n,.int .i64 R.spot.1,.int .i64 R.spot.2,.slice ad n cc]⟩:=by
  rintro R v G ⟨sv,rfl,S⟩;obtain⟨ad,cc,rfl⟩:=S.shape;exact⟨_,_,_,rfl⟩
 obtain⟨DB,hDB⟩:∃F,F=bZ steps b c:=⟨_,rfl⟩;rw[<-hDB];unfold bZ at hDB;simp only[cH,cmdC]at hload htick;by_cases q1:c.kind<1
 .rw[if_pos (.inl q1)]at hDB;subst hDB;simp -implicitDefEqProofs[cH,cmdC,q1];exact⟨cN.fP B (Ext.bJ _),jJ _ 1⟩
 by_cases q2:8<c.kind
 .rw[if_pos (.inr q2)]at hDB;subst hDB;simp -implicitDefEqProofs[cH,cmdC,q1,q2];exact⟨cN.fP B (Ext.bJ _),jJ _ 1⟩
 rw[if_neg (by omega)]at hDB;by_cases k1:c.kind=1
 .rw[if_pos k1]at hDB;subst hDB;rw[k1]at hload;simp -implicitDefEqProofs[cH,cmdC,k1];refine hload.mono ?_;rintro r h' ⟨Q,P⟩;obtain⟨ad,n,cc,rfl⟩:=fin _ _ _ P;simp -implicitDefEqProofs[af];intro _;exact⟨Q,P⟩
 rw[if_neg k1]at hDB;by_cases k5:c.kind=5
 .rw[if_pos k5]at hDB;subst hDB;simp -implicitDefEqProofs[cH,cmdC,k5];refine htick.mono ?_;rintro r h' ⟨Q,P⟩;obtain⟨ad,n,cc,rfl⟩:=fin _ _ _ P;simp -implicitDefEqProofs[af];intro _;exact⟨Q,P⟩
 rw[if_neg k5]at hDB;by_cases qh:b.has=true;rotate_left
 .rw[if_pos (by simpa using qh)]at hDB;subst hDB;simp -implicitDefEqProofs[cH,cmdC,q1,q2,k1,k5,hr,qh];exact⟨cN.fP B (Ext.bJ _),jJ _ 11⟩
 rw[if_neg (by simpa using qh)]at hDB;have hhold:=aaj OK hN qh steps hst c B;have hquote:=ajt OK hN qh steps hst c B;have hconf:=Yb (by omega) (OK.may qh) OK.fst c.a B;have hcanc:=XD (by omega) c.a B;have hrepl:=ajJ OK hN qh steps hst B;have hchart:=XI OK hN qh B;simp only[cH,cmdC]at hhold hquote;by_cases k2:c.kind=2
 .rw[if_pos k2]at hDB;subst hDB;rw[k2]at hhold;simp -implicitDefEqProofs[cH,cmdC,k2,hr,qh];refine hhold.mono ?_;rintro r h' ⟨Q,P⟩;obtain⟨ad,n,cc,rfl⟩:=fin _ _ _ P;simp -implicitDefEqProofs[af];intro _;exact⟨Q,P⟩
 rw[if_neg k2]at hDB;by_cases k6:c.kind=6
 .rw[if_pos k6]at hDB;have eq6:DB=(b,yX steps b c):=hDB;subst eq6;rw[k6]at hquote;simp -implicitDefEqProofs[cH,cmdC,k6,hr,qh];refine hquote.mono ?_;rintro r h' ⟨E,P⟩;obtain⟨ad,n,cc,rfl⟩:=fin _ _ _ P;simp -implicitDefEqProofs[af];intro _;exact⟨cN.fP B E,P⟩
 rw[if_neg k6]at hDB;by_cases k3:c.kind=3
 .rw[if_pos k3]at hDB;subst hDB;simp -implicitDefEqProofs[cH,cmdC,k3,hr,qh];refine hconf.mono ?_;rintro r h' ⟨Q,P⟩;obtain⟨ad,n,cc,rfl⟩:=fin _ _ _ P;simp -implicitDefEqProofs[af];intro _;exact⟨Q,P⟩
 rw[if_neg k3]at hDB;by_cases k4:c.kind=4
 .rw[if_pos k4]at hDB;subst hDB;simp -implicitDefEqProofs[cH,cmdC,k4,hr,qh];refine hcanc.mono ?_;rintro r h' ⟨Q,P⟩;obtain⟨ad,n,cc,rfl⟩:=fin _ _ _ P;simp -implicitDefEqProofs[af];intro _;exact⟨Q,P⟩
 rw[if_neg k4]at hDB;by_cases k7:c.kind=7
 .rw[if_pos k7]at hDB;subst hDB;simp -implicitDefEqProofs[cH,cmdC,k7,hr,qh];refine hrepl.mono ?_;rintro r h' ⟨Q,P⟩;obtain⟨ad,n,cc,rfl⟩:=fin _ _ _ P;simp -implicitDefEqProofs[af];intro _;exact⟨Q,P⟩
 rw[if_neg k7]at hDB;subst hDB;simp -implicitDefEqProofs[cH,cmdC,q1,q2,k1,k2,k3,k4,k5,k6,k7,hr,qh];refine hchart.mono ?_;rintro r h' ⟨E,P⟩;obtain⟨ad,n,cc,rfl⟩:=fin _ _ _ P;simp -implicitDefEqProofs[af];intro _;exact⟨cN.fP B E,P⟩
def Ak(steps:Nat)(b:aI)(c:CmdR):(bZ steps b c).1.fuel=b.fuel:=by
 unfold bZ;split
 .rfl
 split
 .unfold kJ;split
  .rfl
  .split<;>rfl
 split
 .unfold iR;split<;>rfl
 split
 .rfl
 split
 .unfold kH;split
  .rfl
  .simp only;split<;>rfl
 split
 .rfl
 split
 .unfold lR;split
  .rfl
  .simp only;split<;>rfl
 split
 .unfold lQ;split
  .rfl
  .simp only;split<;>rfl
 split
 .unfold ma;simp only;split
  .rfl
  .split<;>rfl
 .rfl
def zB(h0 h:aa)(a:Nat)(o:Option Nat)(steps:Nat)(b:aI)(c:CmdR)(r:Value)(h':aa):Prop:=cN h0 h h' a o (bZ steps b c).1/\∃ad n cc w,r= .tuple #[.agg ⟨uX (bZ steps b c).2 (.slice ad n cc)⟩,w]/\aL 3 ab h' (.slice ad n cc) (bZ steps b c).2.ag/\aL 73 eD h' w (j4 steps b c)
def xK{N:Nat}(OK:eF N b)(hN:N<=1047000)(steps:Nat)(hst:2*b.fuel.toNat<=steps)(c:CmdR)(hc:c.text.length<=1048576)(G0:cC h0)(B:bC h0 h a b vc ov o):
  al PP 15 [.pointer (some ⟨a,0,none⟩),cH c] h (zB h0 h a o steps b c):=by
 refine aC Tryz.func15 P5 ?_;simp only[aA,Tryz.f15];have hlen:=OK.len;have hcp:=IA (by omega) B;simp -implicitDefEqProofs[cH,cmdC];refine hcp.mono ?_;rintro r G1 ⟨E1,a',ov',o',rfl,B'⟩;have B1:=B.exts E1;have hdo:=Yq OK (by omega) steps hst c hc G0 B1;simp only[cH,cmdC]at hdo;simp -implicitDefEqProofs[af];intro _;refine hdo.mono ?_;rintro r G2 ⟨⟨vc2,ov2,o2,B2,C2,D2⟩,sv,rfl,S⟩;obtain⟨ad,cc,rfl⟩:=S.shape;have hQ:cN h0 h G2 a o (bZ steps b c).1:=cN.pre E1 ⟨vc2,ov2,o2,B2,C2,D2⟩;obtain⟨R,hR⟩:=nm (bZ steps b c).2;have hdr:j4 steps b c=if R.code≠0 then[]else kQ (bZ steps b c).1 b c:=by rw[hR];rfl
 rw[<-hR]at S ⊢;by_cases q:R.code=0;rotate_left
 .rw[if_pos q]at hdr;simp -implicitDefEqProofs[af,uX,q];intro _;exact⟨hQ,ad,_,cc,_,by rw[<-hR];rfl,by rw[<-hR];exact S,by rw[hdr];exact aL.nil⟩
 .rw[if_neg (by simpa using q)]at hdr;have B3:=(B'.low B.ext).other B1 C2 (λx hx z=>by
   have h1:=(B'.own x hx).1;have h2:=(B.own x z).2;omega)
  have OK2:=oY steps c OK;have hsi:=akM (by have:=OK2.len;omega) (by omega) c B2 B3;simp only[cH,cmdC]at hsi;simp -implicitDefEqProofs[af,uX,q];intro _;refine hsi.mono ?_;rintro r G3 ⟨E3,S3⟩;obtain⟨ad3,cc3,rfl⟩:=S3.shape;simp -implicitDefEqProofs[aF];intro _;exact⟨hQ.post E3,ad,R.ag.length,cc,.slice ad3 (kQ (bZ steps b c).1 b c).length cc3,by rw[<-hR];simp[uX,q],by rw[<-hR];exact S.ext E3,by rw[hdr];exact S3⟩
end
def vV(n lo hi:Int)(h:aa):al PP 117 [.int .i64 n,.int .i64 lo,.int .i64 hi] h (λv h'=>h'=h/\v= .bool (aE n lo hi)):=by
 refine aC Tryz.func117 aeW ?_;simp only[aA,Tryz.f117];unfold aE;by_cases q:lo<=n
 .simp -implicitDefEqProofs[q]
 .simp -implicitDefEqProofs[q]
def aiG(o:aB)(h:aa):al PP 116 [jI o] h (λv h'=>h'=h/\v= .bool (l7 o)):=by
 refine aC Tryz.func116 aeV ?_;simp only[aA,Tryz.f116];have hp:=λH=>nG o.az H;simp only[du,ah]at hp;unfold l7;simp -implicitDefEqProofs[jI,aP];refine cE (vV _ _ _ h) ?_;by_cases q1:aE o.id 1 2147483647=true;rotate_left
 .simp -implicitDefEqProofs[af,q1]
 simp -implicitDefEqProofs[af,q1];intro _;refine cE (vV _ _ _ h) ?_;by_cases q2:aE o.state 1 3=true;rotate_left
 .simp -implicitDefEqProofs[af,q2]
 simp -implicitDefEqProofs[af,q2];intro _;refine cE (hp h) ?_;by_cases q3:dK o.az=true;rotate_left
 .simp -implicitDefEqProofs[af,q3]
 simp -implicitDefEqProofs[af,q3];intro _;refine cE (vV _ _ _ h) ?_;by_cases q4:aE o.gX 0 1099511627776=true;rotate_left
 .simp -implicitDefEqProofs[af,q4]
 simp -implicitDefEqProofs[af,q4];intro _;refine cE (vV _ _ _ h) ?_;simp -implicitDefEqProofs[af]
def oK(r:dW):Value:=.agg ⟨eD r⟩
def xe{a b:List UInt8}(h:B a=B b):a=b:=by
 have h1:∀x:List UInt8,(B x).data.toList=x:=λ_=>rfl;rw[<-h1 a,<-h1 b,h]
def ajz(r:dW)(h:aa):al PP 75 [oK r] h (λv h'=>h'=h/\v= .bool (jo r)):=by
 refine aC Tryz.func75 ahG ?_;simp only[aA,Tryz.f75];have hord:=aiG r.order h;have hin:=vV r.time 0 1099511627776 h;obtain⟨MB,hMB⟩:∃F,F=jo r:=⟨_,rfl⟩;rw[<-hMB];unfold jo at hMB;obtain⟨rk,rt,⟨oi,os,⟨op,ow⟩,ol,of_⟩,rm⟩:=r;simp only[jI,aP]at hord hin;simp only[gJ,gI,iP,recC,kf,nT,dW.mk.injEq,aB.mk.injEq,aQ.mk.injEq,true_and,and_true]at hMB;by_cases k1:rk=1
 .subst k1;by_cases q:rt.length<=1048576
  .have q':(rt.length:Int)<=1048576:=(by omega);simp -implicitDefEqProofs[oK,eD,q'];rw[hMB];simp[q]
  .have q':¬(rt.length:Int)<=1048576:=(by omega);simp -implicitDefEqProofs[oK,eD,q'];rw[hMB];simp[q]
 by_cases k2:rk=2
 .subst k2;simp -implicitDefEqProofs[oK,eD];refine cE hord ?_;obtain⟨D,hD⟩:=nm (l7 ⟨oi,os,⟨op,ow⟩,ol,of_⟩);rw[<-hD]at hMB ⊢;cases D
  .simp -implicitDefEqProofs[aF];rw[hMB];simp
  .simp -implicitDefEqProofs[aF];rw[hMB];simp
 by_cases k3:rk=3
 .subst k3;simp -implicitDefEqProofs[oK,eD];refine cE hin ?_;obtain⟨D,hD⟩:=nm (aE rm 0 1099511627776);rw[<-hD]at hMB ⊢;cases D
  .simp -implicitDefEqProofs[aF];rw[hMB];simp
  .simp -implicitDefEqProofs[aF];rw[hMB];simp
 by_cases k4:rk=4
 .subst k4;simp -implicitDefEqProofs[oK,eD];rw[hMB];simp
 .simp -implicitDefEqProofs[oK,eD,k1,k2,k3,k4];rw[hMB];simp[k1,k2,k3,k4]
def ald{h0 h:aa}{a:Nat}{b:aI}{vc:List Value}{ov:Value}{o:Option Nat}(B:bC h0 h a b vc ov o)(x:aB):al PP 77 [.pointer (some ⟨a,0,none⟩),jI x] h (λr h'=>h'=h/\r= .bool (kR b x)):=by
 refine aC Tryz.func77 ahI ?_;simp only[aA,Tryz.f77];obtain⟨a1,n1,c1,g,r,a2,n2,c2,a3,n3,c3,a4,n4,c4,rfl,rfl,rfl,hrow⟩:=B.cells;unfold kR;by_cases q1:x.state=1
 .simp -implicitDefEqProofs[jI,aP,q1,hrow]
 .by_cases q3:x.state=3
  .by_cases q4:x.gX=0
   .simp -implicitDefEqProofs[jI,aP,q3,q4]
   .simp -implicitDefEqProofs[jI,aP,q3,q4]
  .simp -implicitDefEqProofs[jI,aP,q1,q3]
def Ul(h:aa)(a:Nat)(b:aI)(ov:Value)(m n:Nat)(σ:St):Prop:=∃i:Nat,n=m-i/\i<=m/\σ.m.h=h/\(∀j t,j<i->b.l[j]? =some t->kR b t=true)/\
 σ.t.get 0=some (.pointer (some ⟨a,0,none⟩))/\σ.t.get 11=some ov/\σ.t.get 12=some (.int .i64 (m:Nat))/\σ.t.get 13=some (.int .i64 (i:Nat))
def abT(b:aI)(hs:b.l.all (kR b)=true):nF b=(decide ((aO b).1.length=0) || (b.has&&(decide ((aO b).1.length<=512)&&(jD (aO b).1 (aO b).2.1&&ix b.v (aO b).1 (aO b).2.1 (aO b).2.2)))):=by
 unfold nF;rw[hs,qQ]
def abS{h0 h:aa}{a:Nat}{b:aI}{vc:List Value}{ov:Value}{o:Option Nat}{N:Nat}(OK:eF N b)(hN:N<=1048000)(B:bC h0 h a b vc ov o):
  al PP 42 [.pointer (some ⟨a,0,none⟩)] h (λr h'=>Ext h h'/\r= .bool (nF b)):=by
 refine aC Tryz.func42 ahm ?_;simp only[aA,Tryz.f42];have hlen:=OK.len;have hll:=uJ b;have hsl:=B.dR.sl;have hrow:=B.row;have hvs:=B.dv.shape;obtain⟨x7,y7,e3⟩:=B.dR.shape;subst e3;obtain⟨x1,y1,m1,g1,r1,x2,m2,y2,x3,m3,y3,e1⟩:=hvs;subst e1;simp only[iI,dB,dJ]at hrow;obtain⟨m,hm⟩:=nm b.l.length;have hrow':=hrow;rw[<-hm]at hrow hsl;simp -implicitDefEqProofs[hrow];refine bG (Ul h a b (.slice x7 m y7) m) _ ⟨0,rfl,by omega,rfl,λj t hj=>by omega,by simp⟩ ?_;rintro n ⟨T,⟨x,G⟩⟩ ⟨i,rfl,hi,hG,aJ,g0,g11,g12,g13⟩;simp at hG g0 g11 g12 g13;subst hG;simp -implicitDefEqProofs[g0,g11,g12,g13];refine bR (λhc=>?_) (λhc=>?_)
 .have him:i<m:=by omega
  have w1:=bO (i:=i) (by omega);have hti:b.l[i]? =some b.l[i]:=aq (by omega);obtain⟨_,b',o1,w0,cells',r,rfl,hb',hd',hlc,_⟩:=hsl.at 6 iA hti;obtain⟨t,ht⟩:=nm b.l[i];rw[<-ht]at hd' hti;have hk6:(cells'.drop (o1+i*6)).take 6=aP t:=by rw[hd'];rfl
  have hso:=ald B t;simp only[jI,aP]at hso hk6;simp -implicitDefEqProofs[g0,g11,g12,g13,him,hb',hk6,hlc];refine cE hso ?_;by_cases z:kR b t=true
  .simp -implicitDefEqProofs[af,z,g0,g11,g12,g13,w1];intro _;refine⟨m-(i+1),by omega,i+1,rfl,by omega,rfl,λj u hj hu=>?_,by simp[g0,g11,g12]⟩;rcases Nat.lt_or_ge j i with q|q
   .exact aJ j u q hu
   .have:j=i:=(by omega);subst this;rw[hti]at hu;obtain rfl:=bU hu;exact z
  .have e:nF b=false:=by
    unfold nF;have:b.l.all (kR b)=false:=by
     rw[Bool.eq_false_iff];intro q;exact z (cz.1 q t (dE hti))
    rw[this,Bool.false_and]
   rw[e]
   simp -implicitDefEqProofs[af,z]
   intro _
   exact Ext.bJ _
 .have e:i=m:=by omega
  subst e;have hs:b.l.all (kR b)=true:=by
   rw[cz];intro t ht;obtain⟨j,hj,e⟩:=List.getElem_of_mem ht;exact aJ j t (by omega) (by rw[<-e];exact aq hj)
  obtain⟨MB,hMB⟩:∃F,F=nF b:=⟨_,rfl⟩;rw[<-hMB];rw[abT b hs]at hMB;have hpl:=BD (by omega) B;simp -implicitDefEqProofs[g0,g11,g12,g13];refine hpl.mono ?_;rintro r G2 ⟨E2,v1,v2,v3,rfl,P1,P2,P3⟩;have B2:=B.exts E2;have l1:(aO b).1.length=(bV b).length:=cf ..;have l2:(aO b).2.1.length=(bV b).length:=cf ..;obtain⟨hok1,hok2⟩:=BE OK;have hrow2:=B2.row;simp only[iI,dB,dJ]at hrow2;obtain⟨x1',y1',e1⟩:=P1.shape;obtain⟨x2',y2',e2⟩:=P2.shape;obtain⟨x3',y3',e3⟩:=P3.shape;subst e1;subst e2;subst e3;have hfu:=AG (aO b).1 (aO b).2.1 _ _ (by omega) (by omega) G2 P1.sl P2.sl;have hmay:=λhhas=>QJ b.v (aO b).1 (aO b).2.2 (aO b).2.1 _ _ _ _ (λx hx=>(hok1 x hx).wide) G2 (⟨OK.may hhas,by omega,by show(cT 0 (bV b)).length<=_;have:=wG 0 (bV b);omega,λq hq=>(hok2 q hq).wide,B2.dv,P1,P3⟩:lA G2 b.v (aO b).1 (aO b).2.2 _ _ _) P2.sl;by_cases q0:(aO b).1.length=0
  .have e:MB=true:=(by rw[hMB];simp[q0]);subst e;simp -implicitDefEqProofs[af,q0];intro _;exact E2
  have q0':¬((aO b).1.length:Int)=0:=by omega
  by_cases qh:b.has=true;rotate_left
  .have e:MB=false:=(by rw[hMB];simp[q0,qh]);subst e;simp -implicitDefEqProofs[af,q0,q0',hrow2,qh];intro _;exact E2
  by_cases q5:(aO b).1.length<=512;rotate_left
  .have e:MB=false:=(by rw[hMB];simp[q0,q5]);subst e;have q5':¬((aO b).1.length:Int)<=512:=(by omega);simp -implicitDefEqProofs[af,q0,q0',hrow2,qh,q5,q5'];intro _;exact E2
  have q5':((aO b).1.length:Int)<=512:=by omega
  have hmay':=hmay qh;simp -implicitDefEqProofs[af,q0,q0',hrow2,qh,q5,q5'];intro _;refine cE hfu ?_;by_cases q6:jD (aO b).1 (aO b).2.1=true;rotate_left
  .have e:MB=false:=(by rw[hMB];simp[q0,q6]);subst e;simp -implicitDefEqProofs[af,q6];intro _;exact E2
  simp -implicitDefEqProofs[af,q6,hrow2];intro _;have e:MB=ix b.v (aO b).1 (aO b).2.1 (aO b).2.2:=by rw[hMB];simp[q0,qh,q5,q6]
  rw[<-e]at hmay';refine hmay'.mono ?_;rintro r G3 ⟨E3,rfl⟩;simp -implicitDefEqProofs[af];intro _;exact E2.trans E3
end Go.Proofs.Ybk.K
namespace Go.Proofs.Ybk.K
open Go Go.Am
set_option maxHeartbeats 4000000
open V (au aR ai ao aZ ab bg aK aE cA cG a8 bL)
open T (dn)
open F (cC mc)
def KT{n:Int}(h: -2147483648<=n/\n<=2147483647):(Lib.itoa n).length<=21:=by
 unfold Lib.itoa;split
 .have:=F.uk (u:=n.natAbs) (by omega);simp;omega
 .have:=F.uk (u:=n.toNat) (by omega);omega
def acV(l:List Int)(n:Int):dn (l++[n])=dn l++32::Lib.itoa n:=by
 induction l with
 |nil=>simp[dn]
 |cons a r ih=>rw[dB,dn,ih,dn];simp
def PW:∀(l:List Int),(∀n∈l,-2147483648<=n/\n<=2147483647)->(dn l).length<=22*l.length:=by
 intro l;induction l with
 |nil=>intro _;simp[dn]
 |cons n r ih=>
  intro h;have h1:=KT (h n dU);have h2:=ih (λx hx=>h x (eI _ hx));have e:dn (n::r)=(32::Lib.itoa n)++dn r:=rfl;rw[e,bH,eW,eW];omega
def Uz(w:List UInt8)(l:List Int)(lv:Value)(h:aa)(m n:Nat)(σ:St):Prop:=∃i:Nat,n=m-i/\i<=m/\σ.m.h=h/\σ.t.get 0=some (.string (B (w++dn (l.take i))))/\σ.t.get 7=some lv/\σ.t.get 8=some (.int .i64 (m:Nat))/\σ.t.get 9=some (.int .i64 (i:Nat))
def sJ(w:List UInt8)(l:List Int)(hw:w.length<=100)(hl:l.length<=100)(hb:∀n∈l,-2147483648<=n/\n<=2147483647)(s:Value)(h:aa)(G:cC h)(H:a8 h s l):
  al PP 85 [.string (B w),s] h (λr h'=>h'=h/\r= .string (B (w++dn l))):=by
 refine aC Tryz.func85 ahR ?_;simp only[aA,Tryz.f85];obtain⟨ad,c,rfl⟩:=H.shape;obtain⟨m,hm⟩:=nm l.length;rw[<-hm]at H hl ⊢;simp -implicitDefEqProofs;refine bG (Uz w l (.slice ad m c) h m) _ ⟨0,rfl,by omega,rfl,by simp[dn]⟩ ?_;rintro n ⟨T,⟨x,G'⟩⟩ ⟨i,rfl,hi,hG,g0,g7,g8,g9⟩;simp at hG g0 g7 g8 g9;subst hG;simp -implicitDefEqProofs[g0,g7,g8,g9];refine bR (λhc=>?_) (λhc=>?_)
 .have him:i<m:=by omega
  have w1:=bO (i:=i) (by omega);have hti:l[i]? =some l[i]:=aq (by omega);obtain⟨_,b',o1,w0,cells',r,rfl,hb',hd',hlc,_⟩:=H.at 1 V.dY hti;obtain⟨t,ht⟩:=nm l[i];rw[<-ht]at hd' hti;rw[Nat.mul_one]at hd' hlc;have htb:=hb t (dE hti);have hit:=F.aaI t (by omega) G' G;have hnl:=PW (l.take i) (λn hn=>hb n (List.mem_of_mem_take hn));rw[dh]at hnl;have hnx:dn (l.take (i+1))=dn (l.take i)++32::Lib.itoa t:=by rw[fL,hti,Option.toList_some,acV]
  have hil:=KT htb;obtain⟨S,hS⟩:=nm (dn (l.take i));rw[<-hS]at hnl hnx g0 ⊢;obtain⟨u,hu⟩:=nm (Lib.itoa t);rw[<-hu]at hil hit hnx;have f0:u.length<=9223372036854775806:=by omega
  have f1:1+u.length<=9223372036854775807:=by omega
  have f2:w.length+S.length+(u.length+1)<=9223372036854775807:=by omega
  have f3:w.length+(S.length+(u.length+1))<=9223372036854775807:=by omega
  have f4:w.length+S.length+u.length<=9223372036854775806:=by omega
  have f5:w.length+(S.length+u.length)<=9223372036854775806:=by omega
  simp -implicitDefEqProofs[g0,g7,g8,g9,him,hb',hd',hlc,ab];refine cE hit ?_;simp -implicitDefEqProofs[af,g0,g7,g8,g9,f0,f1,f2,f3,f4,f5,w1];intro _;exact⟨m-(i+1),by omega,i+1,rfl,by omega,rfl,by rw[hnx];simp,by simp[g7,g8]⟩
 .have e:i=m:=by omega
  have et:l.take i=l:=b9 (by omega);rw[et]at g0;simp -implicitDefEqProofs[g0,et]
def Aq:lN 122 9 1 16 mc:=⟨JW,RQ,⟨_,SJ,rfl⟩,Du,Iw,by decide,by decide,λ_=>rfl,λ_=>rfl⟩
def pg(h:aa)(l:List Int)(hne:l≠[]):a8 (h.new (.row true 3 (l.map (Value.int .i64)))) (.slice (some ⟨h.n,0,none⟩) l.length l.length) l:=by
 have e:l.map (Value.int .i64)=l.flatMap ab:=by induction l with
  |nil=>rfl
  |cons z r ih=>
   cases r with
   |nil=>rfl
   |cons y t=>rw[fg,ic,ih (by simp)];rfl
 exact⟨_,_,rfl,λz=>(by cases z),.inr ⟨h.n,0,true,l.map (Value.int .i64),[],rfl,by simp,by rw[e];simp,by simp⟩⟩
def aaM:∀(L:List (List UInt8)),L≠[]->Lib.join L [10]++[10]=gk L:=by
 intro L hL;cases L with
 |nil=>exact absurd rfl hL
 |cons x r=>
  rw[Lib.join_cons];have:∀r:List (List UInt8),Lib.joinTail [10] r++[10]=10::gk r:=by
   intro r;induction r with
   |nil=>rfl
   |cons y t ih=>
    have e:Lib.joinTail [10] (y::t)=([10]++y)++Lib.joinTail [10] t:=(by simp[Lib.joinTail]);have e2:gk (y::t)=y++10::gk t:=(by simp[gk]);rw[e,e2,eG,ih];simp
  have e2:gk (x::r)=x++10::gk r:=by simp[gk]
  rw[e2,eG,this]
def ajh(s:au)(hk:0<=s.kind/\s.kind<=2)(hb:∀n∈[s.row,s.x,s.y],-2147483648<=n/\n<=2147483647)(h:aa)(G:cC h):al PP 86 [bg s] h (λv h'=>Ext h h'/\v= .string (B (Ln.ef s).bytes)):=by
 refine aC Tryz.func86 ahS ?_;simp only[aA,Tryz.f86];have hr3:List.range 3=[0,1,2]:=rfl;have hI:=pg h [s.row,s.x,s.y] (by simp);have E:=Ext.new h (.row true 3 ([s.row,s.x,s.y].map (Value.int .i64)));have hL:=λw(hw:w.length<=100)=>sJ w [s.row,s.x,s.y] hw (by simp) hb _ _ (G.ext E) hI;simp only[fg,List.map_nil,eW,qR]at hL E;have hby:(Ln.ef s).bytes=jN s.kind++dn [s.row,s.x,s.y]:=rfl;rw[hby];unfold jN mP mh mg;have fin:∀w r h',(h'=h.new (.row true 3 [.int .i64 s.row,.int .i64 s.x,.int .i64 s.y])/\r=Value.string (B (w++dn [s.row,s.x,s.y])))->Ext h h':=λw r h' z=>by rw[z.1];exact E
 by_cases h0:s.kind=0
 .have hL':=hL [115,101,97,116] (by decide);simp -implicitDefEqProofs[bg,ao,h0,aM,hr3];refine cE hL' ?_;simp -implicitDefEqProofs[af];intro _;exact E
 .by_cases h1:s.kind=1
  .have hL':=hL [119,104,101,101,108] (by decide);simp -implicitDefEqProofs[bg,ao,h1,aM,hr3];refine cE hL' ?_;simp -implicitDefEqProofs[af];intro _;exact E
  .have h2:s.kind=2:=(by omega);have hL':=hL [99,111,109,112,97,110,105,111,110] (by decide);simp -implicitDefEqProofs[bg,ao,h2,aM,hr3];refine cE hL' ?_;simp -implicitDefEqProofs[af];intro _;exact E
def v7{v:ai}(M:fT v):∀k∈v.aD,0<=k/\k<v.ag.length:=by
 have h:=M.aD;intro k hk;obtain⟨i,hi,rfl⟩:=List.getElem_of_mem hk;unfold V.iw at h;simp only[bQ,cz]at h;have:=h.1 i (dF.2 hi);unfold V.gT at this;rw[aq hi]at this;simp only[bQ,de]at this;exact⟨this.1,this.2.1⟩
def KW:∀(L:List (List UInt8)),(∀l∈L,l.length<=99)->(gk L).length<=100*L.length:=by
 intro L;induction L with
 |nil=>intro _;simp[gk]
 |cons x r ih=>
  intro h;have e2:gk (x::r)=x++10::gk r:=by simp[gk]
  have h1:=h x dU;have h2:=ih (λl hl=>h l (eI _ hl));rw[e2,bH,eW,eW];omega
def vE(x:Ln)(hw:x.word.length<=9)(hn:∀n∈x.gD,-2147483648<=n/\n<=2147483647)(hl:x.gD.length<=3):x.bytes.length<=99:=by
 unfold Ln.bytes;rw[bH];have:=PW x.gD hn;omega
def aon(k:Int):(jN k).length<=9:=by
 unfold jN;split
 .decide
 .split
  .decide
  .split<;>decide
def Pd{v:ai}(M:fT v):∀l∈(dN v).map Ln.bytes,l.length<=99:=by
 intro l hl;obtain⟨x,hx,rfl⟩:=dO.1 hl;have hg:=M.aV;have hr:=M.bA;unfold dN at hx;rcases eH.1 hx with hx|hx
 .simp only[cJ,List.not_mem_nil,or_false]at hx;rcases hx with rfl|rfl
  .exact vE _ (by show 3<=9;decide) (λn hn=>by simp only[Ln.gD,dZ]at hn;subst hn;omega) (by show 1<=3;decide)
  .exact vE _ (by show 6<=9;decide) (λn hn=>by simp only[Ln.gD,dZ]at hn;subst hn;omega) (by show 1<=3;decide)
 .rcases eH.1 hx with hx|hx
  .obtain⟨s,hs,rfl⟩:=dO.1 hx;obtain⟨i,hi,rfl⟩:=List.getElem_of_mem hs;have:=M.ef (aq hi);exact vE _ (aon _) (λn hn=>by simp only[Ln.gD,cJ,List.not_mem_nil,or_false]at hn;rcases hn with rfl|rfl|rfl<;>omega) (by show 3<=3;decide)
  .rcases eH.1 hx with hx|hx
   .obtain⟨k,hk,rfl⟩:=dO.1 hx;have hkb:=v7 M k hk;have hi:k.toNat<v.ag.length:=(by omega);have e:fQ v k=v.ag[k.toNat]:=(by unfold fQ;rw[bu,aq hi];rfl);have:=M.ef (aq hi);rw[<-e]at this;exact vE _ (by show 4<=9;decide) (λn hn=>by simp only[Ln.gD,cJ,List.not_mem_nil,or_false]at hn;rcases hn with rfl|rfl<;>omega) (by show 2<=3;decide)
   .obtain⟨p,hp,rfl⟩:=dO.1 hx;obtain⟨i,hi,rfl⟩:=List.getElem_of_mem hp;have:=M.gy (aq hi);exact vE _ (by show 4<=9;decide) (λn hn=>by simp only[Ln.gD,cJ,List.not_mem_nil,or_false]at hn;rcases hn with rfl|rfl|rfl<;>omega) (by show 3<=3;decide)
def A9{v:ai}(M:fT v):v.ag.length<=4096/\v.aD.length<=200/\v.aG.length<=200:=⟨M.len.2,M.vZ,M.wH⟩
def UN(h:aa)(cs:List Value)(pre:List (List UInt8))(σ:St):Prop:=∃o w,Ext h σ.m.h/\Ow 9 mc h σ.m.h o pre w/\σ.t.get 1=some (.pointer (some ⟨1,0,some 0⟩))/\σ.t.get 4=some w/\σ.m.x.look 1=some (63,cs)
def CF(s1 s2 s3:Nat)(cs:List Value)(sv:Value)(pre xs:List (List UInt8))(m:Nat)(h:aa)(n:Nat)(σ:St):Prop:=∃(i:Nat)(o:Option Nat)(w:Value),n=m-i/\i<=m/\Ext h σ.m.h/\Ow 9 mc h σ.m.h o (pre++xs.take i) w/\σ.t.get 1=some (.pointer (some ⟨1,0,some 0⟩))/\σ.t.get 4=some w/\σ.t.get s1=some sv/\σ.t.get s2=some (.int .i64 (m:Nat))/\σ.t.get s3=some (.int .i64 (i:Nat))/\σ.m.x.look 1=some (63,cs)
def UC(sv:Value)(pre xs:List (List UInt8))(m:Nat)(h:aa)(n:Nat)(σ:St):Prop:=∃(i:Nat)(o:Option Nat)(w:Value),n=m-i/\i<=m/\Ext h σ.m.h/\Ow 9 mc h σ.m.h o (pre++xs.take i) w/\σ.t.get 4=some w/\σ.t.get 62=some sv/\σ.t.get 63=some (.int .i64 (m:Nat))/\σ.t.get 64=some (.int .i64 (i:Nat))
def Bu{h G:aa}(E:Ext h G)(l:List (List UInt8))(hne:l≠[]){cells:List Value}(hc:cells=l.flatMap mc){n:Nat}(hn:n=l.length):Ow 9 mc h (G.new (.row true 9 cells)) (some G.n) l (.slice (some ⟨G.n,0,none⟩) n n):=by
 refine⟨by rw[hn];rfl,?_,E.n,by simp⟩;rw[hc];simp
def ajc(v:ai)(hm:aK v=true)(cs:List Value)(h:aa)(G:cC h)(H:eC h v cs):
  al PP 45 [.agg ⟨cs⟩] h (λr h'=>Ext h h'/\r= .tuple #[.string (B (gW v)),.int .i64 0]):=by
 refine aC Tryz.func45 ahp ?_;simp only[aA,Tryz.f45];have M:=jF hm;obtain⟨hl1,hl2,hl3⟩:=A9 M;have hmay:=V.nG v cs M.small h H.dv;rw[hm]at hmay;have hgap:=M.aV;have hrad:=M.bA;obtain⟨s,k,p,rfl,z1,z2,z3⟩:=H;obtain⟨b1,d1,rfl⟩:=z1.shape;obtain⟨b2,d2,rfl⟩:=z2.shape;obtain⟨b3,d3,rfl⟩:=z3.shape;obtain⟨ms,hms⟩:∃m,m=v.ag.length:=⟨_,rfl⟩;obtain⟨mk,hmk⟩:∃m,m=v.aD.length:=⟨_,rfl⟩;obtain⟨mp,hmp⟩:∃m,m=v.aG.length:=⟨_,rfl⟩;have hr1:List.range 1=[0]:=rfl;have hr2:List.range 2=[0,1]:=rfl;have hr3:List.range 3=[0,1,2]:=rfl;obtain⟨g,hg⟩:=nm v.aV;obtain⟨r,hr⟩:=nm v.bA;obtain⟨cs,hcs⟩:=nm [Value.slice b1 ms d1,Value.int IntKind.i64 g,Value.int IntKind.i64 r,Value.slice b2 mk d2,Value.slice b3 mp d3];rw[<-hg,<-hr,<-hms,<-hmk,<-hmp]at hmay ⊢;rw[<-hg]at hgap;rw[<-hr]at hrad;have lg:=λs H G I=>sJ [103,97,112] [g] (by decide) (by simp) (λn hn=>by rw[dZ]at hn;subst hn;omega) s H G I;have lr:=λs H G I=>sJ [114,97,100,105,117,115] [r] (by decide) (by simp) (λn hn=>by rw[dZ]at hn;subst hn;omega) s H G I;have pre2:[(Ln.aV g).bytes,(Ln.eT r).bytes].flatMap mc=[.string (B ([103,97,112]++dn [g])),.string (B ([114,97,100,105,117,115]++dn [r]))]:=rfl;simp -implicitDefEqProofs;refine cE hmay ?_;simp -implicitDefEqProofs[af];intro _;refine vy (UN h cs [(Ln.aV g).bytes,(Ln.eT r).bytes]) ?_ ?_
 .rw[iU,iU,iU,tY];have Eg:=Ext.new h (.row true 3 ([g].map (Value.int .i64)));have Er:=Ext.new h (.row true 3 ([r].map (Value.int .i64)));have Egr:=Ext.new (h.new (.row true 3 ([g].map (Value.int .i64)))) (.row true 3 ([r].map (Value.int .i64)));have Erg:=Ext.new (h.new (.row true 3 ([r].map (Value.int .i64)))) (.row true 3 ([g].map (Value.int .i64)));have Ig:=pg h [g] (by simp);have Ir:=pg h [r] (by simp);have Igr:=pg (h.new (.row true 3 ([g].map (Value.int .i64)))) [r] (by simp);have Irg:=pg (h.new (.row true 3 ([r].map (Value.int .i64)))) [g] (by simp);refine⟨?_,?_,?_,trivial⟩
  .simp -implicitDefEqProofs[aM,hr1,hr2];refine cE (lg _ _ (G.ext Eg) Ig) ?_;simp -implicitDefEqProofs[aF,aM,hr1,hr2];intro _;refine cE (lr _ _ ((G.ext Eg).ext Egr) Igr) ?_;simp -implicitDefEqProofs[aF,aM,hr1,hr2];intro _;exact⟨_,_,(Eg.trans Egr).bI _,Bu (Eg.trans Egr) _ (by simp) pre2.symm rfl,by simp[hcs]⟩
  .simp -implicitDefEqProofs[aM,hr1,hr2];refine cE (lg _ _ ((G.ext Eg).ext Egr) (Ig.ext Egr)) ?_;simp -implicitDefEqProofs[aF,aM,hr1,hr2];intro _;refine cE (lr _ _ ((G.ext Eg).ext Egr) Igr) ?_;simp -implicitDefEqProofs[aF,aM,hr1,hr2];intro _;exact⟨_,_,(Eg.trans Egr).bI _,Bu (Eg.trans Egr) _ (by simp) pre2.symm rfl,by simp[hcs]⟩
  .simp -implicitDefEqProofs[aM,hr1,hr2];refine cE (lg _ _ ((G.ext Er).ext Erg) Irg) ?_;simp -implicitDefEqProofs[aF,aM,hr1,hr2];intro _;refine(lr _ _ ((G.ext Er).ext Erg) (Ir.ext Erg)).mono ?_;rintro rr h' ⟨rfl,rfl⟩;simp -implicitDefEqProofs[aF,aM,hr1,hr2];intro _;exact⟨_,_,(Er.trans Erg).bI _,Bu (Er.trans Erg) _ (by simp) pre2.symm rfl,by simp[hcs]⟩
 .rintro⟨T,⟨x,G0⟩⟩ ⟨o,w,E,W,g1,g4,x1⟩;simp at E W g1 g4 x1;obtain⟨P0,hP0⟩:∃P,P=[(Ln.aV g).bytes,(Ln.eT r).bytes]:=⟨_,rfl⟩;obtain⟨X1,hX1⟩:∃X,X=v.ag.map λs=>(Ln.ef s).bytes:=⟨_,rfl⟩;obtain⟨X2,hX2⟩:∃X,X=v.aD.map λk=>(Ln.kill (fQ v k).row (fQ v k).x).bytes:=⟨_,rfl⟩;obtain⟨X3,hX3⟩:∃X,X=v.aG.map λp=>(Ln.gy p).bytes:=⟨_,rfl⟩;have aJ:(dN v).map Ln.bytes=P0++(X1++(X2++X3)):=by
   rw[hP0,hX1,hX2,hX3,hg,hr];simp[dN,Function.comp_def]
  have hX1l:X1.length=ms:=by rw[hX1,hms];simp
  have hX2l:X2.length=mk:=by rw[hX2,hmk];simp
  have hX3l:X3.length=mp:=by rw[hX3,hmp];simp
  have hP0l:P0.length=2:=by rw[hP0];rfl
  rw[<-hP0]at W;have hwn:cn w=true:=by rw[W.1];rfl
  simp only[cn,iM,Option.isNone_iff_eq_none]at hwn;simp -implicitDefEqProofs[g1,g4,x1,hcs,hwn];rw[<-hcs];refine bG (CF 24 25 26 cs (.slice b1 ms d1) P0 X1 ms h) _ ⟨0,o,_,rfl,by omega,E,by simpa using W,by simp[g1,g4,x1]⟩ ?_;clear W E g1 g4 x1;rintro n1 ⟨T,⟨x,H1⟩⟩ ⟨i,o,w,rfl,hi,E,W,g1,g4,gs,gm,gi,x1⟩;simp at E W g1 g4 gs gm gi x1;have hwn:cn w=true:=by rw[W.1];rfl
  simp only[cn,iM,Option.isNone_iff_eq_none]at hwn;rw[hcs]at x1;simp -implicitDefEqProofs[g1,g4,gs,gm,gi,x1,hwn];refine bR (λhc=>?_) (λhc=>?_)
  .have him:i<ms:=(by omega);have w1:=bO (i:=i) (by omega);have hti:v.ag[i]? =some v.ag[i]:=aq (by omega);obtain⟨t,ht⟩:=nm v.ag[i];rw[<-ht]at hti;have zz:=z1.ext E;rw[<-hms]at zz;obtain⟨_,b',o1,cells',rr,rfl,hb',hd',hlc,_⟩:=zz.at 4 V.fD hti;have hse:=M.ef hti;have hps:=ajh t (by omega) (λn hn=>by simp at hn;rcases hn with rfl|rfl|rfl<;>omega) H1 (G.ext E);have hxi:X1[i]? =some (Ln.ef t).bytes:=(by rw[hX1,fx,hti];rfl);have hnx:P0++X1.take (i+1)=(P0++X1.take i)++[(Ln.ef t).bytes]:=(by rw[fL,hxi,eG];rfl);have hal:(P0++X1.take i).length<=10000:=(by rw[bH,dh,hP0l];omega);obtain⟨acc,hacc⟩:=nm (P0++X1.take i);rw[<-hacc]at W hal hnx;obtain⟨rfl,_⟩:=id W;obtain⟨by_,hby⟩:∃z,z=(Ln.ef t).bytes:=⟨_,rfl⟩;rw[<-hby]at hnx hps;simp only[bg,ao]at hps;simp -implicitDefEqProofs[g1,g4,gs,gm,gi,x1,him,hb',hd',hlc,ao];refine hps.mono ?_;rintro rr H2 ⟨E2,rfl⟩;have W2:=W.ext E2;have hA:=iV Aq W2 by_ (by omega);simp only[mc]at hA;simp -implicitDefEqProofs[af,g1,g4,gs,gm,gi,x1,aM,hr1,hA,w1];intro _;refine⟨ms-(i+1),by omega,i+1,some (H2.n+1),.slice (some ⟨H2.n+1,0,none⟩) (acc.length+1) (acc.length+1),rfl,by omega,iZ (E.trans E2) W2 _ _,?_,by simp[g1,gs,gm,x1,hcs]⟩;rw[hnx];exact Ow.one W2 (E.trans E2).n _ by_ rfl
  .have him:i=ms:=(by omega);rw[him,b9 (by omega)]at W;obtain⟨P1,hP1⟩:∃P,P=P0++X1:=⟨_,rfl⟩;have hP1l:P1.length<=5000:=(by rw[hP1,bH];omega);rw[<-hP1]at W;simp -implicitDefEqProofs[g1,g4,x1,hwn];rw[<-hcs];refine bG (CF 37 38 39 cs (.slice b2 mk d2) P1 X2 mk h) _ ⟨0,o,_,rfl,by omega,E,by simpa using W,by simp[g1,g4,x1,hcs]⟩ ?_;clear W E g1 g4 x1 gs gm gi hc him hi;rintro n1 ⟨T,⟨x,H1⟩⟩ ⟨i,o,w,rfl,hi,E,W,g1,g4,gs,gm,gi,x1⟩;simp at E W g1 g4 gs gm gi x1;have hwn:cn w=true:=(by rw[W.1];rfl);simp only[cn,iM,Option.isNone_iff_eq_none]at hwn;rw[hcs]at x1;simp -implicitDefEqProofs[g1,g4,gs,gm,gi,x1,hwn];refine bR (λhc=>?_) (λhc=>?_)
   .have him:i<mk:=(by omega);have w1:=bO (i:=i) (by omega);have hti:v.aD[i]? =some v.aD[i]:=aq (by omega);obtain⟨t,ht⟩:=nm v.aD[i];rw[<-ht]at hti;have zz:=z2.ext E;rw[<-hmk]at zz;obtain⟨_,b',o1,cells',rr,rfl,hb',hd',hlc,_⟩:=zz.at 1 V.dY hti;rw[Nat.mul_one]at hd' hlc;have hkb:=v7 M t (dE hti);obtain⟨kn,rfl⟩:∃kn:Nat,t=kn:=⟨t.toNat,by omega⟩;have hkms:kn<ms:=(by omega);have huj:v.ag[kn]? =some v.ag[kn]:=aq (by omega);obtain⟨u,hu⟩:=nm v.ag[kn];rw[<-hu]at huj;have zs:=z1.ext E;rw[<-hms]at zs;obtain⟨_,b5,o5,cells5,rr5,rfl,hb5,hd5,hlc5,_⟩:=zs.at 4 V.fD huj;have hd5':cells5.drop (o5+kn*4+1)=[Value.int .i64 u.x,.int .i64 u.y,.int .i64 u.kind]++rr5:=(by rw[<-eh,hd5];rfl);have q1:o5+kn*4+1<=cells5.length:=(by omega);have q2:o5+kn*4+1+1<=cells5.length:=(by omega);have q3:o5+kn*4+2<=cells5.length:=(by omega);have hsa:fQ v (kn:Nat)=u:=(by unfold fQ;rw[gR,bu,huj];rfl);have hse:=M.ef huj;have Ik:=pg H1 [u.row,u.x] (by simp);have Ek:=Ext.new H1 (.row true 3 ([u.row,u.x].map (Value.int .i64)));have hli:=sJ [107,105,108,108] [u.row,u.x] (by decide) (by simp) (λn hn=>by simp at hn;rcases hn with rfl|rfl<;>omega) _ _ ((G.ext E).ext Ek) Ik;have hxi:X2[i]? =some (Ln.kill u.row u.x).bytes:=(by rw[hX2,fx,hti,fV,hsa]);have hnx:P1++X2.take (i+1)=(P1++X2.take i)++[(Ln.kill u.row u.x).bytes]:=(by rw[fL,hxi,eG];rfl);have hal:(P1++X2.take i).length<=10000:=(by rw[bH,dh];omega);obtain⟨acc,hacc⟩:=nm (P1++X2.take i);rw[<-hacc]at W hal hnx;obtain⟨rfl,_⟩:=id W;have hby0:(Ln.kill u.row u.x).bytes=[107,105,108,108]++dn [u.row,u.x]:=rfl;rw[hby0]at hnx;obtain⟨by_,hby⟩:∃z,z=[107,105,108,108]++dn [u.row,u.x]:=⟨_,rfl⟩;rw[<-hby]at hnx hli;have W2:=W.ext Ek;have hA:=iV Aq W2 by_ (by omega);simp only[mc]at hA;simp only[fg,List.map_nil,eW,qR,eu,iG,Nat.reduceAdd]at hli hA W2 Ek;simp -implicitDefEqProofs[g1,g4,gs,gm,gi,x1,him,hb',hd',hlc,ab,hkms,hb5,hd5,hd5',hlc5,q1,q2,q3,ao,aM,hr1,hr2];refine hli.mono ?_;rintro rr h' ⟨rfl,rfl⟩;simp -implicitDefEqProofs[aF,g1,g4,gs,gm,gi,x1,aM,hr1,hA,w1];intro _;refine⟨mk-(i+1),by omega,i+1,some (H1.n+1+1),.slice (some ⟨H1.n+1+1,0,none⟩) (acc.length+1) (acc.length+1),rfl,by omega,iZ (E.trans Ek) W2 _ _,?_,by simp[g1,gs,gm,x1,hcs]⟩;rw[hnx];exact Ow.one W2 (E.trans Ek).n _ by_ rfl
   .have him:i=mk:=(by omega);rw[him,b9 (by omega)]at W;obtain⟨P2,hP2⟩:∃P,P=P1++X2:=⟨_,rfl⟩;have hP2l:P2.length<=6000:=(by rw[hP2,bH];omega);rw[<-hP2]at W;simp -implicitDefEqProofs[g1,g4,x1,hwn];refine bG (UC (.slice b3 mp d3) P2 X3 mp h) _ ⟨0,o,_,rfl,by omega,E,by simpa using W,by simp[g4]⟩ ?_;clear W E g1 g4 x1 gs gm gi hc him hi;rintro n1 ⟨T,⟨x,H1⟩⟩ ⟨i,o,w,rfl,hi,E,W,g4,gs,gm,gi⟩;simp at E W g4 gs gm gi;have hwn:cn w=true:=(by rw[W.1];rfl);simp only[cn,iM,Option.isNone_iff_eq_none]at hwn;simp -implicitDefEqProofs[g4,gs,gm,gi,hwn];refine bR (λhc=>?_) (λhc=>?_)
    .have him:i<mp:=(by omega);have w1:=bO (i:=i) (by omega);have hti:v.aG[i]? =some v.aG[i]:=aq (by omega);obtain⟨t,ht⟩:=nm v.aG[i];rw[<-ht]at hti;have zz:=z3.ext E;rw[<-hmp]at zz;obtain⟨_,b',o1,cells',rr,rfl,hb',hd',hlc,_⟩:=zz.at 3 V.pE hti;have hpo:=M.gy hti;have Ik:=pg H1 [t.x,t.y,t.r] (by simp);have Ek:=Ext.new H1 (.row true 3 ([t.x,t.y,t.r].map (Value.int .i64)));have hli:=sJ [112,111,108,101] [t.x,t.y,t.r] (by decide) (by simp) (λn hn=>by simp at hn;rcases hn with rfl|rfl|rfl<;>omega) _ _ ((G.ext E).ext Ek) Ik;have hxi:X3[i]? =some (Ln.gy t).bytes:=(by rw[hX3,fx,hti];rfl);have hnx:P2++X3.take (i+1)=(P2++X3.take i)++[(Ln.gy t).bytes]:=(by rw[fL,hxi,eG];rfl);have hal:(P2++X3.take i).length<=10000:=(by rw[bH,dh];omega);obtain⟨acc,hacc⟩:=nm (P2++X3.take i);rw[<-hacc]at W hal hnx;obtain⟨rfl,_⟩:=id W;have hby0:(Ln.gy t).bytes=[112,111,108,101]++dn [t.x,t.y,t.r]:=rfl;rw[hby0]at hnx;obtain⟨by_,hby⟩:∃z,z=[112,111,108,101]++dn [t.x,t.y,t.r]:=⟨_,rfl⟩;rw[<-hby]at hnx hli;have W2:=W.ext Ek;have hA:=iV Aq W2 by_ (by omega);simp only[mc]at hA;simp only[fg,List.map_nil,eW,qR,eu,iG,Nat.reduceAdd]at hli hA W2 Ek;simp -implicitDefEqProofs[g4,gs,gm,gi,him,hb',hd',hlc,aZ,aM,hr1,hr3];refine cE hli ?_;simp -implicitDefEqProofs[af,g4,gs,gm,gi,aM,hr1,hA,w1];intro _;refine⟨mp-(i+1),by omega,i+1,some (H1.n+1+1),.slice (some ⟨H1.n+1+1,0,none⟩) (acc.length+1) (acc.length+1),rfl,by omega,iZ (E.trans Ek) W2 _ _,?_,by simp[gs,gm]⟩;rw[hnx];exact Ow.one W2 (E.trans Ek).n _ by_ rfl
    .have him:i=mp:=(by omega);rw[him,b9 (by omega)]at W;have hfin:P2++X3=(dN v).map Ln.bytes:=(by rw[aJ,hP2,hP1];simp);rw[hfin]at W;have hne:(dN v).map Ln.bytes≠[]:=(by rw[aJ,hP0];simp);have hll:((dN v).map Ln.bytes).length<=6000:=(by rw[aJ];simp only[bH];omega);have hjj:=aaM ((dN v).map Ln.bytes) hne;have hjl:(Lib.join ((dN v).map Ln.bytes) [10]).length<=1000000000:=by
      have q:=KW _ (Pd M);have q2:=congrArg List.length hjj;rw[bH,jz]at q2;omega
     have hjo:=F.aaN _ ((dN v).map Ln.bytes) [10] (by omega) (by omega) h H1 (G.ext E) o W;have hpv:gW v=gk ((dN v).map Ln.bytes):=rfl;rw[<-hpv]at hjj;obtain⟨J,hJ⟩:=nm (Lib.join ((dN v).map Ln.bytes) [10]);rw[<-hJ]at hjl hjo hjj;have f1:J.length<=9223372036854775806:=(by omega);simp -implicitDefEqProofs[g4,hwn];refine cE hjo ?_;simp -implicitDefEqProofs[af,f1];intro _;exact⟨E,by rw[<-hjj]⟩
def nP(b:aI)(i:Nat):List dW:=(if b.has then[gJ (gW b.v)]else[])++([iP b.now]++(b.l.take i).map gI)
def ajD(b:aI)(i:Nat){t:aB}(h:b.l[i]? =some t):nP b (i+1)=nP b i++[gI t]:=by
 unfold nP;rw[fL,h,Option.toList_some,kX,<-eG,<-eG,<-eG];rfl
def QX(b:aI)(i:Nat):(nP b i).length<=i+2:=by
 unfold nP;rw[bH,bH,cf,dh,jz];split<;>simp<;>omega
def ajA(b:aI):ku b=nP b b.l.length++[recC]:=by
 unfold ku nP;rw[jZ,eG,eG]
def UH(h:aa)(a:Nat)(pre:List dW)(σ:St):Prop:=∃(o:Option Nat)(w:Value),Ext h σ.m.h/\Ow 73 eD h σ.m.h o pre w/\σ.t.get 0=some (.pointer (some ⟨a,0,none⟩))/\σ.t.get 3=some w
def TH(h:aa)(b:aI)(lv:Value)(m n:Nat)(σ:St):Prop:=∃(i:Nat)(o:Option Nat)(w:Value),n=m-i/\i<=m/\Ext h σ.m.h/\Ow 73 eD h σ.m.h o (nP b i) w/\σ.t.get 3=some w/\σ.t.get 38=some lv/\σ.t.get 39=some (.int .i64 (m:Nat))/\σ.t.get 40=some (.int .i64 (i:Nat))
def yZ{h0 h:aa}{a:Nat}{b:aI}{vc:List Value}{ov:Value}{o:Option Nat}(hl:b.l.length<=1048576)(hm:b.has=true->aK b.v=true)(G0:cC h0)(B:bC h0 h a b vc ov o):
  al PP 19 [.pointer (some ⟨a,0,none⟩)] h (λr h'=>Ext h h'/\aL 73 eD h' r (ku b)):=by
 refine al.jM (post:=λv' h'=>Ext h h'/\cO 73 eD h h' v' (ku b)) ?_ (λv h' ⟨E,W⟩=>by
  obtain⟨h'',w,E',S⟩:=W.dG E;exact⟨h'',w,E',S⟩)
 refine aC Tryz.func19 afY ?_;simp only[aA,Tryz.f19];rw[ajA];have hr1:List.range 9=[0,1,2,3,4,5,6,7,8]:=rfl;have hrow:=B.row;have hS:=B.dR.sl;have hpr:=λq=>ajc b.v (hm q) vc h (G0.ext B.ext) B.dv;obtain⟨x1,y1,m1,g1,r1,x2,m2,y2,x3,m3,y3,e1⟩:=B.dv.shape;obtain⟨x7,y7,e3⟩:=B.dR.shape;subst e1;subst e3;simp only[iI,dB,dJ]at hrow;refine w8 4 (UH h a (if b.has then[gJ (gW b.v)]else[])) ?_ ?_
 .simp only[sF,sE];by_cases q:b.has=true
  .rw[if_pos q];simp -implicitDefEqProofs[hrow,q];refine(hpr q).mono ?_;rintro r H ⟨E,rfl⟩;have W0:Ow 73 eD h H none ([]:List dW) (.slice none 0 0):=Ow.nil;have hA:=iV qV W0 (gJ (gW b.v)) (by decide);have k1:[Value.int .i64 1,.string (Go.Am.B (gW b.v)),.int .i64 0,.int .i64 0,.int .i64 0,.int .i64 0,.int .i64 0,.int .i64 0,.int .i64 0]=eD (gJ (gW b.v)):=rfl;simp only[List.flatMap_nil,dJ,qR,iG]at hA;rw[<-k1]at hA;simp -implicitDefEqProofs[af,aM,hr1,hA];intro _;exact⟨_,_,iZ E W0 _ _,Ow.one W0 E.n _ (gJ (gW b.v)) rfl,by simp⟩
  .rw[if_neg q];simp -implicitDefEqProofs[hrow,q];exact⟨none,_,Ext.bJ h,Ow.nil,by simp⟩
 .simp only[tF,qG];rintro⟨T,⟨x,G⟩⟩ ⟨oo,w,E,W,g0,g3⟩;simp at E W g0 g3;have hpl:(if b.has then[gJ (gW b.v)]else[]).length<=1:=by split<;>simp
  have e0:nP b 0=(if b.has then[gJ (gW b.v)]else[])++[iP b.now]:=by unfold nP;simp
  obtain⟨pre,hpre⟩:∃p,p=(if b.has then[gJ (gW b.v)]else[]):=⟨_,rfl⟩;rw[<-hpre]at W hpl e0;have hrG:=hrow;rw[<-E.f a B.a1]at hrG;obtain⟨m,hm'⟩:=nm b.l.length;have hne:∀c c',(bY (G.new c) oo c').f a=G.f a:=λc c'=>by
   rw[qS _ _ _ (by rw[eu];have:=E.n;have:=B.a1;omega) (λe=>by have:=(W.lt a e).1;have:=B.a1;omega),qY,if_neg (by have:=E.n;have:=B.a1;omega)]
  rw[<-hm']at hS hrG ⊢;obtain⟨rfl,_⟩:=id W;have hA:=iV qV W (iP b.now) (by omega);have k3:[Value.int .i64 3,.string (Go.Am.B []),.int .i64 0,.int .i64 0,.int .i64 0,.int .i64 0,.int .i64 0,.int .i64 0,.int .i64 b.now]=eD (iP b.now):=rfl;rw[<-k3]at hA;simp -implicitDefEqProofs[g0,g3,hrG,aM,hr1,hA,hne];refine bG (TH h b (.slice x7 m y7) m) _ ⟨0,some (G.n+1),.slice (some ⟨G.n+1,0,none⟩) (pre.length+1) (pre.length+1),rfl,by omega,iZ E W _ _,by rw[e0];exact Ow.one W E.n _ (iP b.now) rfl,by simp⟩ ?_;clear W g0 g3 hrG E hA hne;rintro n ⟨T,⟨x,G⟩⟩ ⟨i,oo,w,rfl,hi,E,W,g3,g38,g39,g40⟩;simp at E W g3 g38 g39 g40;simp -implicitDefEqProofs[g3,g38,g39,g40];refine bR (λhc=>?_) (λhc=>?_)
  .have him:i<m:=(by omega);have w1:=bO (i:=i) (by omega);have hti:b.l[i]? =some b.l[i]:=aq (by omega);obtain⟨_,b',o1,w0,cells',r,rfl,hb',hd',hlc,_⟩:=(hS.ext E).at 6 iA hti;obtain⟨t,ht⟩:=nm b.l[i];rw[<-ht]at hd' hti;have hk6:(cells'.drop (o1+i*6)).take 6=aP t:=(by rw[hd'];rfl);have hnx:=ajD b i hti;have hal:=QX b i;obtain⟨acc,hacc⟩:=nm (nP b i);rw[<-hacc]at W hal hnx;obtain⟨rfl,_⟩:=id W;have hA:=iV qV W (gI t) (by omega);have k2:[Value.int .i64 2,.string (Go.Am.B []),.int .i64 t.id,.int .i64 t.state,.int .i64 t.az.size,.int .i64 t.az.cS,.int .i64 t.gX,.int .i64 t.first,.int .i64 0]=eD (gI t):=rfl;rw[<-k2]at hA;simp only[aP]at hk6;simp -implicitDefEqProofs[g3,g38,g39,g40,him,hb',hk6,hlc,aM,hr1,hA,w1];refine⟨m-(i+1),by omega,i+1,some (G.n+1),.slice (some ⟨G.n+1,0,none⟩) (acc.length+1) (acc.length+1),rfl,by omega,iZ E W _ _,?_,by simp⟩;rw[hnx];exact Ow.one W E.n _ (gI t) rfl
  .have e:i=m:=(by omega);subst e;have hal:=QX b i;obtain⟨acc,hacc⟩:=nm (nP b i);rw[<-hacc]at W hal ⊢;obtain⟨rfl,_⟩:=id W;have hA:=iV qV W recC (by omega);have k4:[Value.int .i64 4,.string (Go.Am.B []),.int .i64 0,.int .i64 0,.int .i64 0,.int .i64 0,.int .i64 0,.int .i64 0,.int .i64 0]=eD recC:=rfl;rw[<-k4]at hA;simp -implicitDefEqProofs[g3,aM,hr1,hA];exact⟨iZ E W _ _,(Ow.one W E.n _ recC rfl).own⟩
end Go.Proofs.Ybk.K
namespace Go.Proofs.Ybk.K
open Go Go.Am
set_option maxHeartbeats 4000000
open V (au aR ai ao aZ ab bg aK aE cA cG a8 bL)
open F (cC)
def abX{r:dW}(h:jo r=true)(k:r.kind=1):r.text.length<=1048576:=by
 unfold jo at h;rw[if_pos k]at h;simp only[bQ,de]at h;exact h.1
def Py{r:dW}(h:jo r=true)(k:r.kind=2):l7 r.order=true:=by
 unfold jo at h;rw[if_neg (by omega),if_pos k]at h;simp only[bQ]at h;exact h.1
def abY{r:dW}(h:jo r=true)(k:r.kind=3):0<=r.time/\r.time<=1099511627776:=by
 unfold jo at h;rw[if_neg (by omega),if_neg (by omega),if_pos k]at h;unfold aE at h;simp only[bQ,de]at h;omega
def Qn{o:aB}(h:l7 o=true):(1<=o.id/\o.id<=2147483647)/\jq o.first:=by
 unfold l7 aE at h;simp only[bQ,de]at h;exact⟨by omega,by omega,by omega⟩
def amQ{N:Nat}{b b':aI}{r:dW}(H:eF N b)(h:kA b r=some b'):eF (N+1) b':=by
 have H1:eF (N+1) b:=H.mono (by omega);unfold kA at h;by_cases hm:jo r=true;rotate_left
 .rw[if_pos (by simpa using hm)]at h;cases h
 rw[if_neg (by rw[hm];decide)]at h;by_cases k1:r.kind=1
 .rw[if_pos k1]at h;cases hp:(fp r.text).1 with
  |some e=>rw[hp]at h;cases h
  |none=>
   rw[hp]at h;simp only[av]at h;subst h;exact⟨H.f0,H.f1,H.n0,H.n1,H1.len,λ_=>Bw hp,H.fst⟩
 rw[if_neg k1]at h;by_cases k3:r.kind=3
 .rw[if_pos k3]at h;split at h
  .simp only[av]at h;subst h;have:=abY hm k3;exact⟨H.f0,H.f1,this.1,this.2,H1.len,H.may,H.fst⟩
  .cases h
 rw[if_neg k3]at h;by_cases k2:r.kind=2
 .rw[if_pos k2]at h;have ho:=(Qn (Py hm k2)).2;split at h
  .cases h
  .split at h
   .simp only[av]at h;subst h;refine⟨H.f0,H.f1,H.n0,H.n1,by show(b.l++[r.order]).length<=_;rw[bH,jz];have:=H.len;omega,H.may,λo q=>?_⟩;rcases eH.1 q with q|q
    .exact H.fst o q
    .rw[dZ]at q;subst q;exact ho
   .simp only[av]at h;subst h;exact⟨H.f0,H.f1,H.n0,H.n1,by show(b.l.set _ _).length<=_;rw[kW];exact H1.len,H.may,Cf H.fst _ ho⟩
 .rw[if_neg k2]at h;cases h
def zm:∀(p q:List dW)(b:aI),gb (p++q) b=(gb p b).bind (gb q):=by
 intro p;induction p with
 |nil=>intro q b;rfl
 |cons r t ih=>
  intro q b;rw[dB,gb,gb];cases kA b r with
  |none=>rfl
  |some b'=>exact ih q b'
def UT(h0 h:aa)(a:Nat)(o:Option Nat)(x:Option aI)(v:Value)(h':aa):Prop:=match x with
 |some b'=>v= .bool true/\cN h0 h h' a o b'
 |none=>v= .bool false/\cX (a::o.toList) h h'
def amP{h0 h:aa}{a:Nat}{b:aI}{vc:List Value}{ov:Value}{o:Option Nat}{N:Nat}(OK:eF N b)(hN:N<=1048000)(r:dW)(B:bC h0 h a b vc ov o):
  al PP 41 [.pointer (some ⟨a,0,none⟩),oK r] h (UT h0 h a o (kA b r)):=by
 refine aC Tryz.func41 ahl ?_;simp only[aA,Tryz.f41];have hlen:=OK.len;have hmay:=ajz r h;have hrow:=B.row;have hrow0:=B.row;have hW:=B.dR;obtain⟨a1,n1,c1,g,rr,a2,n2,c2,a3,n3,c3,a4,n4,c4,e1,e2,e3,hr⟩:=B.cells;subst e1;subst e2;subst e3;have cha:∀(F:aa)(x:aW),Ext h F->cX (a::o.toList) h (F.set a x):=λF x E=>(cX.fP E (S:=a::o.toList)).trans (jC F a x) (λi hi _=>by rw[dZ]at hi;subst hi;exact dU);simp only[iI,dB,dJ]at hrow;simp only[oK,eD]at hmay;have hr1:List.range 1=[0]:=rfl;unfold kA;simp -implicitDefEqProofs[oK,eD];refine cE hmay ?_;by_cases hm:jo r=true;rotate_left
 .rw[if_pos (by simpa using hm)];simp -implicitDefEqProofs[af,hm];intro _;exact⟨rfl,cX.bJ _ _⟩
 rw[if_neg (by rw[hm];decide)];by_cases k1:r.kind=1
 .rw[if_pos k1];simp -implicitDefEqProofs[af,hm,k1];intro _;refine(Sn r.text (abX hm k1) h).mono ?_;rintro v G ⟨E,H⟩;have hrG:=hrow;rw[<-E.f a B.a1]at hrG;have BG:=B.exts E;have hrG0:=BG.row;cases hp:(fp r.text).1 with
  |some e=>
   rw[hp]at H;obtain⟨be,rfl⟩:=H;simp -implicitDefEqProofs[af,V.jv,hrG];intro _;rw[nB];exact⟨rfl,cha _ _ E⟩
  |none=>
   rw[hp]at H;obtain⟨co,hV,rfl⟩:=H;have hV':=hV;obtain⟨s,k,p,rfl,z1,z2,z3⟩:=hV';obtain⟨b1,d1,rfl⟩:=z1.shape;obtain⟨b2,d2,rfl⟩:=z2.shape;obtain⟨b3,d3,rfl⟩:=z3.shape;simp -implicitDefEqProofs[af,hrG];intro _;rw[nB];exact⟨rfl,cN.px (sj (b:={b with v:=nI (fp r.text).2,has:=true}) hrG0 BG.a0 BG.a1 BG.ext hV BG.dR rfl) (cha _ _ E)⟩
 rw[if_neg k1];by_cases k3:r.kind=3
 .rw[if_pos k3];by_cases q:b.now<=r.time
  .rw[if_pos q];simp -implicitDefEqProofs[af,hm,k1,k3,hrow,q];intro _;exact⟨rfl,cN.px (sj (b:={b with now:=r.time}) hrow0 B.a0 B.a1 B.ext B.dv hW rfl) (cha _ _ (Ext.bJ h))⟩
  .rw[if_neg q];simp -implicitDefEqProofs[af,hm,k1,k3,hrow,q];intro _;exact⟨rfl,cha _ _ (Ext.bJ h)⟩
 rw[if_neg k3];by_cases k2:r.kind=2;rotate_left
 .rw[if_neg k2];simp -implicitDefEqProofs[af,hm,k1,k2,k3];intro _;exact⟨rfl,cX.bJ _ _⟩
 rw[if_pos k2];obtain⟨⟨i1,i2⟩,hf⟩:=Qn (Py hm k2);have wl:IntKind.wrap .i64 ((b.l.length:Int)+1)=(b.l.length:Int)+1:=bB (by omega);have hr6:List.range 6=[0,1,2,3,4,5]:=rfl;by_cases q1:(b.l.length:Int)+1<r.order.id
 .rw[if_pos q1];simp -implicitDefEqProofs[af,hm,k1,k2,k3,hrow,wl,q1];intro _;exact⟨rfl,cX.bJ _ _⟩
 rw[if_neg q1];obtain⟨rk,rt,⟨oi,os,⟨op,ow⟩,ol,of_⟩,rm⟩:=r;simp only at k1 k2 k3 q1 i1 i2 hf;subst k2;obtain⟨X,hX⟩:=nm (⟨oi,os,⟨op,ow⟩,ol,of_⟩:aB);have ro:aP X=[.int .i64 oi,.int .i64 os,.int .i64 op,.int .i64 ow,.int .i64 ol,.int .i64 of_]:=by rw[hX];rfl
 simp only;rw[<-hX];rw[<-hX]at hm;have key:∀(P Q:List Value)(t:aB)(k:Nat),P.length=k*6->(P++(aP t++Q)).take (k*6)++(aP X++(P++(aP t++Q)).drop (k*6+6))=P++(aP X++Q):=λP Q t k hP=>by
  rw[show(P++(aP t++Q)).drop (k*6+6)=Q from nh (i:=6) hP];have:=tG (X:=aP t++Q) (i:=0) hP;rw[ie]at this;rw[this];simp
 by_cases q2:oi=(b.l.length:Int)+1
 .rw[if_pos q2];subst q2;have hA:=vA J9 hW nT (by omega);obtain⟨p1,BX,CX⟩:=Dg B nT;have hz:aP nT=[Value.int .i64 0,.int .i64 0,.int .i64 0,.int .i64 0,.int .i64 0,.int .i64 0]:=rfl;obtain⟨F,hF⟩:=nm (bY (h.new (.row true 43 (aP nT))) o (.row true 43 (b.l.flatMap aP++aP nT)));rw[<-hF]at p1 BX CX hA;rw[hz]at hA;simp only[iI,dB,dJ]at p1 BX CX;have hneG:¬a=h.n:=by have:=B.a1;omega
  obtain⟨⟨c',r',e,qq⟩,nn0,nn1⟩:=BX.dR;obtain⟨BS,KS⟩:=BX.ve (L:=b.l++[X]) (by simp) r';have hti:(b.l++[nT])[b.l.length]? =some nT:=by rw[iF (aX _),oS];rfl
  obtain⟨P,Q,hP,s1,s2⟩:=s9 hti r';have s3:=s2 X;rw[List.set_append_right _ _ (aX _),oS,List.set_cons_zero]at s3;rw[s3]at BS;simp only at qq;rw[s1]at qq;have hst:=key P Q nT b.l.length hP;have hl6:b.l.length*6+6<=(P++(aP nT++Q)).length:=by rw[bH,hP,bH,iA];omega
  obtain⟨R,hR⟩:=nm (P++(aP nT++Q));rw[<-hR]at qq hst hl6;obtain⟨R2,hR2⟩:∃R,R=P++(aP X++Q):=⟨_,rfl⟩;rw[<-hR2]at hst BS;rw[ro]at hst;simp only[dB,dJ]at hst;have w1:IntKind.wrap .i64 (((b.l.length:Int)+1)-1)=(b.l.length:Int):=by rw[bB (by omega)];omega
  have w2:IntKind.wrap .i64 (b.l.length:Int)=(b.l.length:Int):=bB (by omega);have hlt:(b.l.length:Int)<(b.l.length:Int)+1:=by omega
  have hrF:(F.set a (.row true 77 [.int .i64 b.fuel,.bool b.has,.slice a1 n1 c1,.int .i64 g,.int .i64 rr,.slice a2 n2 c2,.slice a3 n3 c3,.slice (some ⟨h.n+1,0,none⟩) (b.l.length+1) (b.l.length+1),.int .i64 b.now])).f a= .row true 77 [.int .i64 b.fuel,.bool b.has,.slice a1 n1 c1,.int .i64 g,.int .i64 rr,.slice a2 n2 c2,.slice a3 n3 c3,.slice (some ⟨h.n+1,0,none⟩) (b.l.length+1) (b.l.length+1),.int .i64 b.now]:=by simp
  obtain⟨F2,hF2⟩:=nm (F.set a (.row true 77 [.int .i64 b.fuel,.bool b.has,.slice a1 n1 c1,.int .i64 g,.int .i64 rr,.slice a2 n2 c2,.slice a3 n3 c3,.slice (some ⟨h.n+1,0,none⟩) (b.l.length+1) (b.l.length+1),.int .i64 b.now]));rw[<-hF2]at hrF BS CX qq;have hF2':=hF2.symm;simp -implicitDefEqProofs[af,hm,hrow,wl,aM,hr6,hA,p1,hneG,hF2',hrF,w1,w2,hlt,qq,hl6,hst];intro _;exact⟨rfl,cN.trans CX (λi hi=>.inr (by simp only[av]at hi;omega)) (cN.px BS ((jC F2 (h.n+1) _).mono λx hx _=>by rw[dZ]at hx;subst hx;simp))⟩
 .rw[if_neg q2];obtain⟨k,rfl⟩:∃k:Nat,oi=(k:Int)+1:=⟨oi.toNat-1,by omega⟩;have hk:k<b.l.length:=by omega
  have ek:((k:Int)+1).toNat-1=k:=by omega
  rw[ek];have hti:b.l[k]? =some b.l[k]:=aq hk;obtain⟨t,ht⟩:=nm b.l[k];rw[<-ht]at hti;cases o with
  |none=>
   have:=hW.2;rw[this]at hk;simp at hk
  |some bo=>
   obtain⟨⟨c',r',e,qq⟩,nn0,nn1⟩:=hW;simp only[Value.slice.injEq]at e;obtain⟨rfl,_,_⟩:=e;have BS:=(B.ve (L:=b.l.set k X) (by rw[kW]) r').1;obtain⟨P,Q,hP,s1,s2⟩:=s9 hti r';rw[s2 X]at BS;rw[s1]at qq;have hst:=key P Q t k hP;have hl6:k*6+6<=(P++(aP t++Q)).length:=(by rw[bH,hP,bH,iA];omega);obtain⟨R,hR⟩:=nm (P++(aP t++Q));rw[<-hR]at qq hst hl6;obtain⟨R2,hR2⟩:∃R,R=P++(aP X++Q):=⟨_,rfl⟩;rw[<-hR2]at hst BS;rw[ro]at hst;simp only[dB,dJ]at hst;have w1:IntKind.wrap .i64 (((k:Int)+1)-1)=(k:Int):=(by rw[bB (by omega)];omega);have w2:IntKind.wrap .i64 (k:Int)=(k:Int):=bB (by omega);have q2':¬(k:Int)=(b.l.length:Int):=(by omega);have q2'':¬k=b.l.length:=(by omega);have q1':¬(b.l.length:Int)<(k:Int):=(by omega);have q1'':¬b.l.length<k:=(by omega);simp -implicitDefEqProofs[af,hm,hrow,wl,w1,w2,q1,q2,q2',q2'',q1',q1'',hk,qq,hl6,hst];intro _;exact⟨rfl,cN.px BS ((jC h bo _).mono λx hx _=>by rw[dZ]at hx;subst hx;simp)⟩
def TC(h:aa)(a a':Nat)(b:aI)(l:List dW)(N:Nat)(lv:Value)(m n:Nat)(σ:St):Prop:=∃(i:Nat)(x:aI)(vc:List Value)(ov:Value)(o:Option Nat),n=m-i/\i<=m/\gb (l.take i) b=some x/\eF (N+i) x/\x.fuel=b.fuel/\bC h σ.m.h a' x vc ov o/\aL 73 eD σ.m.h lv l/\
 σ.t.get 0=some (.pointer (some ⟨a,0,none⟩))/\σ.t.get 6=some (.pointer (some ⟨a',0,none⟩))/\σ.t.get 28=some lv/\σ.t.get 29=some (.int .i64 (m:Nat))/\σ.t.get 30=some (.int .i64 (i:Nat))
def ak0{α:Type}{e:TypeId}{enc:α->List Value}{h:aa}{ad:Addr}{n c:Nat}{xs:List α}(H:aL e enc h (.slice (some ad) n c) xs)(m:Nat)(hm:m<=xs.length):aL e enc h (.slice (some ad) m m) (xs.take m):=by
 obtain⟨ad',c1,q,nn,z⟩:=H;simp only[Value.slice.injEq]at q;obtain⟨rfl,rfl,rfl⟩:=q;have hl:(xs.take m).length=m:=by rw[dh];omega
 refine⟨some ad,m,by rw[hl],λz=>(by cases z),?_⟩;rcases z with rfl|⟨b,off,cells,rest,z1,z2,z3,z4,z5⟩
 .exact .inl (by simp)
 .exact .inr ⟨b,off,cells,(xs.drop m).flatMap enc++rest,z1,z2,by rw[z3,<-eG,<-List.flatMap_append,se],z4,z5⟩
def amO{l:List dW}{i:Nat}{r:dW}{b x:aI}(h:gb (l.take i) b=some x)(hr:l[i]? =some r):gb (l.take (i+1)) b=kA x r:=by
 rw[fL,hr,Option.toList_some,zm,h,ep,gb];cases kA x r<;>rfl
def amN{l:List dW}{i:Nat}{b:aI}(h:gb (l.take i) b=none):gb l b=none:=by
 have:=zm (l.take i) (l.drop i) b;rw[se,h]at this;rw[this];rfl
def amR{b b':aI}{r:dW}(h:kA b r=some b'):b'.fuel=b.fuel:=by
 unfold kA at h;split at h
 .cases h
 .split at h
  .split at h
   .cases h
   .simp only[av]at h;subst h;rfl
  .split at h
   .split at h
    .simp only[av]at h;subst h;rfl
    .cases h
   .split at h
    .split at h
     .cases h
     .split at h<;>(simp only[av]at h;subst h;rfl)
    .cases h
def zV{h0 h:aa}{a:Nat}{b:aI}{vc:List Value}{ov:Value}{o:Option Nat}{N:Nat}(OK:eF N b)(l:List dW)(hN:N+l.length<=1047000)(lv:Value)(S:aL 73 eD h lv l)(B:bC h0 h a b vc ov o):
  al PP 17 [.pointer (some ⟨a,0,none⟩),lv] h (λv h'=>cN h0 h h' a o (oT b l).1/\v= .int .i64 (oT b l).2):=by
 refine aC Tryz.func17 afM ?_;simp only[aA,Tryz.f17];have hlen:=OK.len;have hcp:=IA (by omega) B;obtain⟨ad,cc,rfl⟩:=S.shape;rcases Nat.eq_zero_or_pos l.length with hz|hpos
 .have hl:l=[]:=mY.1 hz;subst hl;have w0:IntKind.wrap .i64 (-1)= -1:=rfl;simp -implicitDefEqProofs[w0];exact⟨cN.fP B (Ext.bJ _),rfl⟩
 obtain⟨n,hn⟩:∃n,l.length=n+1:=⟨l.length-1,by omega⟩;have w1:IntKind.wrap .i64 (((n:Int)+1)-1)=(n:Int):=by rw[bB (by omega)];omega
 have w2:IntKind.wrap .i64 (n:Int)=(n:Int):=bB (by omega);have hnn:¬(n:Int)<0:=by omega
 have hlt:(n:Int)<(n:Int)+1:=by omega
 have hti:l[n]? =some l[n]:=aq (by omega);obtain⟨t,ht⟩:=nm l[n];rw[<-ht]at hti;have S0:=S;obtain⟨_,b1,o1,cells,rr,rfl,hb,hd,hlc,hbn⟩:=S.at 9 wM hti;have hgl:l.getLast? =some t:=by rw[List.getLast?_eq_getElem?,hn,sd,hti]
 have hdl:l.dropLast=l.take n:=by rw[List.dropLast_eq_take,hn,sd]
 have hk9:(cells.drop (o1+n*9)).take 9=eD t:=by rw[hd];rfl
 obtain⟨AB,hAB⟩:∃F,F=oT b l:=⟨_,rfl⟩;rw[<-hAB];unfold oT at hAB;rw[hgl,hdl]at hAB;have eap1:t≠recC->AB=(b,10):=λz=>by rw[hAB,if_neg (by simpa using z)]
 have eap2:t=recC->gb (l.take n) b=none->AB=(b,10):=λz q=>by rw[hAB,if_pos (by rw[z]),q]
 have eap3:∀x,t=recC->gb (l.take n) b=some x->nF x=true->AB=(x,0):=λx z q w=>by rw[hAB,if_pos (by rw[z]),q];simp[w]
 have eap4:∀x,t=recC->gb (l.take n) b=some x->nF x=false->AB=(b,10):=λx z q w=>by rw[hAB,if_pos (by rw[z]),q];simp[w]
 clear hAB;rw[hn]at S hN ⊢;have k4:eD recC=[Value.int .i64 4,.string (Go.Am.B []),.int .i64 0,.int .i64 0,.int .i64 0,.int .i64 0,.int .i64 0,.int .i64 0,.int .i64 0]:=rfl;by_cases hc:t=recC;rotate_left
 .have e:=eap1 hc;subst e;obtain⟨tk,tt,⟨t1,t2,⟨t3,t4⟩,t5,t6⟩,tm⟩:=t;simp only[eD]at hk9;simp -implicitDefEqProofs[w1,w2,hnn,hlt,hb,hk9,hlc];refine jk (λhq=>?_) (λhq=>?_)
  .simp -implicitDefEqProofs;exact cN.fP B (Ext.bJ _)
  .exact absurd (by
    simp at hq;obtain⟨rfl,e2,⟨rfl,rfl,⟨rfl,rfl⟩,rfl,rfl⟩,rfl⟩:=hq;first|(subst e2;rfl)|(rw[xe e2];rfl)) hc
 subst hc;rw[k4]at hk9;simp -implicitDefEqProofs[w1,w2,hnn,hlt,hb,hk9,hlc];refine hcp.mono ?_;rintro r G ⟨E,a',ov',o',rfl,B'⟩;have hbG:=E.f b1 hbn;rw[hb]at hbG;have SG:=S0.ext E;have hnn2:n<=n+1:=by omega
 have hn0:(0:Int)<=n:=by omega
 simp -implicitDefEqProofs[af,hbG,hnn,hnn2,hn0];intro _;have SL:=ak0 SG n (by omega);obtain⟨L,hL⟩:=nm (l.take n);have hLl:L.length=n:=by rw[hL,dh];omega
 rw[<-hL]at SL eap2 eap3 eap4;refine bG (TC h a a' b L N (.slice (some ⟨b1,o1,none⟩) n n) n) _ ⟨0,b,vc,ov',o',rfl,by omega,rfl,OK,rfl,B',SL,by simp⟩ ?_;clear SL SG hbG E B';rintro n' ⟨T,⟨x',F⟩⟩ ⟨i,x,vcx,ovx,ox,rfl,hi,htk,OKx,hfx,BX,SL,g0,g6,g28,g29,g30⟩;simp at BX SL g0 g6 g28 g29 g30;simp -implicitDefEqProofs[g0,g6,g28,g29,g30];refine bR (λhc=>?_) (λhc=>?_)
 .have him:i<n:=by omega
  have w3:=bO (i:=i) (by omega);have hui:L[i]? =some L[i]:=aq (by omega);obtain⟨u,hu⟩:=nm L[i];rw[<-hu]at hui;obtain⟨_,b2,o2,cells2,r2,e2,bN,hd2,hlc2,_⟩:=SL.at 9 wM hui;simp only[av,Addr.mk.injEq,and_true]at e2;obtain⟨rfl,rfl⟩:=e2;have hk2:(cells2.drop (o1+i*9)).take 9=eD u:=by rw[hd2];rfl
  have htw:=amP OKx (by omega) u BX;have hst:=amO htk hui;simp only[oK,eD]at htw hk2;simp -implicitDefEqProofs[g0,g6,g28,g29,g30,him,bN,hk2,hlc2];refine htw.mono ?_;intro rr H HT;cases hq:kA x u with
  |none=>
   rw[hq]at HT hst;obtain⟨rfl,CX⟩:=HT;have hno:gb L b=none:=amN hst;have e:=eap2 rfl hno;subst e;simp -implicitDefEqProofs[af];intro _;have BB:=(B.exts BX.ext).er (h':=H) (CX) BX.iQ (λz hz=>eY B.ext.n (BX.own z hz).1) (λz hz w=>by
    have h1:=(B.own z hz).2;have h2:=(BX.own z w).1;omega)
   exact cN.px BB ((cX.fP BX.ext).trans CX (λz hz hlt=>by have:=(BX.own z hz).1;omega))
  |some x2=>
   rw[hq]at HT hst;obtain⟨rfl,vc2,ov2,o2',BX2,CX2,DX2⟩:=HT;simp -implicitDefEqProofs[af,g0,g6,g28,g29,g30,w3];intro _;refine⟨n-(i+1),by omega,i+1,x2,vc2,ov2,o2',rfl,by omega,hst,amQ OKx hq,by rw[amR hq,hfx],BX2,SL.kp (CX2.kp BX.iQ),by simp⟩
 .have e:i=n:=by omega
  rw[e,b9 (by omega)]at htk;have hmb:=abS OKx (by omega) BX;simp -implicitDefEqProofs[g0,g6,g28,g29,g30];refine hmb.mono ?_;rintro rr H ⟨EH,rfl⟩;cases hq:nF x with
  |false=>
   have e:=eap4 x rfl htk hq;subst e;simp -implicitDefEqProofs[af];intro _;exact cN.fP B (BX.ext.trans EH)
  |true=>
   have e:=eap3 x rfl htk hq;subst e;have BH:=BX.exts EH;have BBH:=B.exts (BX.ext.trans EH);have hrx:=BH.row;have hrb:=BBH.row;have hrb0:=BBH.row;obtain⟨y1,m1,d1,g1,r1,y2,m2,d2,y3,m3,d3,e1⟩:=BH.dv.shape;obtain⟨y4,m4,d4,g4,r4,y5,m5,d5,y6,m6,d6,e4⟩:=B.dv.shape;obtain⟨y7,d7,e7⟩:=BH.dR.shape;obtain⟨y8,d8,e8⟩:=B.dR.shape;subst e1;subst e4;subst e7;subst e8;simp only[iI,dB,dJ]at hrx hrb;have fin:=sj (b:=x) hrb0 BBH.a0 BBH.a1 BBH.ext BH.dv (BH.dR.low B.ext.n) rfl;simp only[iI,dB,dJ]at fin;simp -implicitDefEqProofs[af,hrx,hrb];intro _;refine⟨_,_,ox,fin,(cX.fP (BX.ext.trans EH)).trans (jC H a _) (λz hz _=>by rw[dZ]at hz;subst hz;exact dU),λz hz=>.inr (BH.dR.lt z hz).1⟩
end Go.Proofs.Ybk.K
namespace Go.Proofs.Ybk.K
open Go Go.Am
set_option maxHeartbeats 4000000
open V (au aR ai ao aZ ab bg aK aE cA cG a8 bL qH qI)
def CH{α:Type}(s u:Value)(xs ys:List α)(m:Nat)(h:aa)(n:Nat)(σ:St):Prop:=∃i:Nat,n=m-i/\i<=m/\σ.m.h=h/\σ.t.get 0=some s/\σ.t.get 1=some u/\σ.t.get 5=some (.int .i64 (i:Nat))/\xs.take i=ys.take i
def BZ(s u:Value)(xs ys:List Int)(hl:xs.length<=1073741824)(h:aa)(Hs:dt 3 ab h s xs)(Hu:dt 3 ab h u ys):al PP 33 [s,u] h (λr h'=>h'=h/\r= .bool (decide (xs=ys))):=by
 refine aC Tryz.func33 ahc ?_;simp only[aA,Tryz.f33];obtain⟨ad1,c1,rfl⟩:=Hs.shape;obtain⟨ad2,c2,rfl⟩:=Hu.shape;by_cases q:(xs.length:Int)=ys.length;rotate_left
 .have:¬xs=ys:=λe=>q (by rw[e]);simp -implicitDefEqProofs[q,this]
 obtain⟨m,hm⟩:=nm xs.length;have hm2:ys.length=m:=by omega
 rw[<-hm]at Hs hl ⊢;rw[hm2]at Hu ⊢;clear q;obtain⟨D,hD⟩:=nm (decide (xs=ys));rw[<-hD];simp -implicitDefEqProofs;refine bG (CH (.slice ad1 m c1) (.slice ad2 m c2) xs ys m h) _ ⟨0,rfl,by omega,rfl,by simp⟩ ?_;rintro n ⟨T,⟨x,H⟩⟩ ⟨i,rfl,hi,hH,g0,g1,g5,ht⟩;simp at hH g0 g1 g5;subst hH;simp -implicitDefEqProofs[g0,g1,g5];refine bR (λhc=>?_) (λhc=>?_)
 .have him:i<m:=by omega
  have hA:xs[i]? =some xs[i]:=aq (by omega);have hB:ys[i]? =some ys[i]:=aq (by omega);obtain⟨_,b1,o1,wb1,cs1,r1,rfl,bD,hd1,hl1,_⟩:=Hs.at 1 V.dY hA;obtain⟨_,b2,o2,wb2,cs2,r2,rfl,bN,hd2,hl2,_⟩:=Hu.at 1 V.dY hB;obtain⟨a',hea⟩:∃z,z=xs[i]:=⟨_,rfl⟩;obtain⟨b',heb⟩:∃z,z=ys[i]:=⟨_,rfl⟩;rw[<-hea]at hd1 hA;rw[<-heb]at hd2 hB;have w1:=bO (i:=i) (by omega);rw[Nat.mul_one]at hd1 hd2 hl1 hl2;simp -implicitDefEqProofs[g0,g1,g5,him,bD,bN,hd1,hd2,hl1,hl2,ab];refine jk (λhq=>?_) (λhq=>?_)
  .have hne:¬xs=ys:=qH hA hB (λe=>by simp[e]at hq);simp -implicitDefEqProofs;rw[hD];simp[hne]
  .simp at hq;subst hq;simp -implicitDefEqProofs[g0,g1,g5,w1];exact⟨m-(i+1),by omega,i+1,rfl,by omega,rfl,by simp[g0],by simp[g1],by simp,qI hA hB ht⟩
 .have e:i=m:=by omega
  subst e;have he:xs=ys:=by rw[b9 (by omega),b9 (by omega)]at ht;exact ht
  simp -implicitDefEqProofs;rw[hD];simp[he]
def aod(a b:ai)(ca cb:List Value)(ha:V.lz a)(h:aa)(Ha:bL h a ca)(Hb:bL h b cb):al PP 43 [.agg ⟨ca⟩,.agg ⟨cb⟩] h (λr h'=>h'=h/\r= .bool (V.vd a b)):=by
 refine aC Tryz.func43 ahn ?_;simp only[aA,Tryz.f43];obtain⟨l1,l2,l3⟩:=ha;obtain⟨s,k,p,rfl,h1,h2,h3⟩:=Ha;obtain⟨s',k',p',rfl,h1',h2',h3'⟩:=Hb;have e1:=Zn s s' a.ag b.ag (by omega) h h1 h1';have e2:=Zk k k' a.aD b.aD (by omega) h h2 h2';have e3:=Zm p p' a.aG b.aG (by omega) h h3 h3';obtain⟨x1,y1,rfl⟩:=h1.shape;obtain⟨x2,y2,rfl⟩:=h2.shape;obtain⟨x3,y3,rfl⟩:=h3.shape;obtain⟨x4,y4,rfl⟩:=h1'.shape;obtain⟨x5,y5,rfl⟩:=h2'.shape;obtain⟨x6,y6,rfl⟩:=h3'.shape;unfold V.vd;by_cases q1:a.aV=b.aV;rotate_left
 .simp -implicitDefEqProofs[q1]
 by_cases q2:a.bA=b.bA;rotate_left
 .simp -implicitDefEqProofs[q1,q2]
 obtain⟨D1,hD1⟩:∃D,D=decide (a.ag=b.ag):=⟨_,rfl⟩;obtain⟨D2,hD2⟩:∃D,D=decide (a.aD=b.aD):=⟨_,rfl⟩;obtain⟨D3,hD3⟩:∃D,D=decide (a.aG=b.aG):=⟨_,rfl⟩;rw[<-hD1]at e1 ⊢;rw[<-hD2]at e2 ⊢;rw[<-hD3]at e3 ⊢;simp -implicitDefEqProofs[q1,q2];refine cE e1 ?_;cases D1
 .simp -implicitDefEqProofs[af]
 simp -implicitDefEqProofs[af];intro _;refine cE e2 ?_;cases D2
 .simp -implicitDefEqProofs[af]
 simp -implicitDefEqProofs[af];intro _;refine cE e3 ?_;simp -implicitDefEqProofs[af]
section
variable {h0 h0' h:aa} {a a2:Nat} {b b2:aI} {vc vc2:List Value} {ov ov2:Value} {o o2:Option Nat}
def zY(hv:V.lz b.v)(hl:b.l.length<=1048576)(B1:bC h0 h a b vc ov o)(B2:bC h0' h a2 b2 vc2 ov2 o2):
  al PP 18 [.pointer (some ⟨a,0,none⟩),.pointer (some ⟨a2,0,none⟩)] h (λr h'=>h'=h/\r= .bool (wQ b b2)):=by
 refine aC Tryz.func18 P7 ?_;simp only[aA,Tryz.f18];have hven:=aod b.v b2.v vc vc2 hv h B1.dv.dv B2.dv.dv;have hord:=Zl ov ov2 b.l b2.l (by omega) h B1.dR.sl B2.dR.sl;have hr1:=B1.row;have hr2:=B2.row;obtain⟨x1,y1,m1,g1,r1,x2,m2,y2,x3,m3,y3,e1⟩:=B1.dv.shape;obtain⟨x4,y4,m4,g4,r4,x5,m5,y5,x6,m6,y6,e2⟩:=B2.dv.shape;obtain⟨x7,y7,e3⟩:=B1.dR.shape;obtain⟨x8,y8,e4⟩:=B2.dR.shape;subst e1;subst e2;subst e3;subst e4;simp only[iI,dB,dJ]at hr1 hr2;unfold wQ;obtain⟨D2,hD2⟩:∃D,D=V.vd b.v b2.v:=⟨_,rfl⟩;obtain⟨D3,hD3⟩:∃D,D=decide (b.l=b2.l):=⟨_,rfl⟩;rw[<-hD2]at hven ⊢;rw[<-hD3]at hord ⊢;by_cases q1:b.has=b2.has;rotate_left
 .have q1b:(b.has==b2.has)=false:=beq_eq_false_iff_ne.2 q1;simp -implicitDefEqProofs[hr1,hr2,q1,q1b]
 by_cases q2:b.now=b2.now;rotate_left
 .simp -implicitDefEqProofs[hr1,hr2,q1,q2]
 simp -implicitDefEqProofs[hr1,hr2,q1,q2];refine cE hven ?_;cases D2
 .simp -implicitDefEqProofs[aF,af]
 simp -implicitDefEqProofs[aF,af,hr1,hr2];intro _;refine cE hord ?_;simp -implicitDefEqProofs[aF,af]
def Wo(B1:bC h0 h a b vc ov o):al PP 18 [.pointer (some ⟨a,0,none⟩),.pointer none] h (λr h'=>h'=h/\r= .bool false):=by
 refine aC Tryz.func18 P7 ?_;simp only[aA,Tryz.f18];simp -implicitDefEqProofs
def acq(h:aa):al PP 12 [.int .i64 (-1)] h (λr h'=>h'=h/\r= .pointer none):=by
 refine aC Tryz.func12 P4 ?_;simp only[aA,Tryz.f12];simp -implicitDefEqProofs
end
end Go.Proofs.Ybk.K
namespace Go.Proofs.Ybk.K
open Go Go.Am
set_option maxHeartbeats 4000000
open V (au aR ai ao aZ ab bg aK aE cA cG a8 bL)
open F (cC)
def xg(H:aa)(R:jX)(recs:List dW)(r:Value):Prop:=∃ad n cc ad2 n2 c2,r= .tuple #[.agg ⟨[.int .i64 R.code,.int .i64 R.n,.int .i64 R.spot.1,.int .i64 R.spot.2,.slice ad n cc]⟩,.slice ad2 n2 c2]/\n=R.ag.length/\aL 3 ab H (.slice ad n cc) R.ag/\n2=recs.length/\aL 73 eD H (.slice ad2 n2 c2) recs
section
variable {h0 h:aa} {a:Nat} {b:aI} {vc:List Value} {ov:Value} {o:Option Nat}
def zB.r{steps:Nat}{c:CmdR}{r:Value}{h':aa}(H:zB h0 h a o steps b c r h'):cN h0 h h' a o (bZ steps b c).1/\xg h' (bZ steps b c).2 (j4 steps b c) r:=by
 obtain⟨Q,ad,n,cc,w,rfl,S,SR⟩:=H;obtain⟨ad2,c2,rfl⟩:=SR.shape;obtain⟨ad',c',e⟩:=S.shape;simp only[Value.slice.injEq]at e;exact⟨Q,ad,n,cc,ad2,_,c2,rfl,e.2.1,S,rfl,SR⟩
def ng{N:Nat}(OK:eF N b)(hN:N<=1047000)(steps:Nat)(hst:2*b.fuel.toNat<=steps)(c:CmdR)(hc:c.text.length<=1048576)(G0:cC h0)(B:bC h0 h a b vc ov o){b':aI}{R:jX}(hd:bZ steps b c=(b',R)):
  al PP 15 [.pointer (some ⟨a,0,none⟩),cH c] h (λr h'=>(∃vc' ov' o',bC h0 h' a b' vc' ov' o')/\Kp h h'/\xg h' R (j4 steps b c) r):=by
 refine(xK OK hN steps hst c hc G0 B).mono ?_;intro r h' H;obtain⟨⟨vc',ov',o',B',C,D⟩,HR⟩:=H.r;rw[hd]at B' HR;exact⟨⟨vc',ov',o',B'⟩,C.kp B.iQ,HR⟩
def Yo(c:CmdR)(h:aa):al PP 15 [.pointer none,cH c] h (λr h'=>h'=h/\r= .tuple #[.agg ⟨[.int .i64 1,.int .i64 0,.int .i64 0,.int .i64 0,.slice none 0 0]⟩,.slice none 0 0]):=by
 refine aC Tryz.func15 P5 ?_;simp only[aA,Tryz.f15];simp -implicitDefEqProofs[cH,cmdC]
def Pu(l:List Int)(hl:l.length<=4611686018427387904)(lv:Value)(h:aa)(hs:a8 h lv l):al PP 21 [lv] h (λr h'=>Ext h h'/\∃t,r= .string (B t)/\t.length<=10000):=by
 refine aC Tryz.func21 agd ?_;simp only[aA,Tryz.f21];have hmk:=V.abN lv l 8 (by omega) hl h hs;obtain⟨ad,c,rfl⟩:=hs.shape;simp -implicitDefEqProofs;refine hmk.mono ?_;rintro r G ⟨E,i,v,row,x,a,b',c',cs,hi,M,ha,hV,rfl⟩;have M2:=jF (V.Pt M (by omega));have hok:=abL M (by omega);have hlen:=M.len;have hk:=M.yj;have hp:=M.yP;have hVC:V.bL G v cs:=by
  obtain⟨s,k,p,rfl,h1,h2,h3⟩:=hV;exact⟨s,k,p,rfl,h1.own.sl,h2.own.sl,h3.1.own.sl⟩
 have hpr:=ajf v cs (by omega) hok (V.Pt M (by omega)) (λk hk=>v7 M2 k hk) G hVC;have hcs:∃x1 y1 m1 g1 r1 x2 m2 y2 x3 m3 y3,cs=[.slice x1 y1 m1,.int .i64 g1,.int .i64 r1,.slice x2 m2 y2,.slice x3 m3 y3]:=by
  obtain⟨s,k,p,rfl,h1,h2,h3⟩:=hVC;obtain⟨u1,u2,rfl⟩:=h1.shape;obtain⟨u3,u4,rfl⟩:=h2.shape;obtain⟨u5,u6,rfl⟩:=h3.shape;exact⟨_,_,_,_,_,_,_,_,_,_,_,rfl⟩
 obtain⟨x1,y1,m1,g1,r1,x2,m2,y2,x3,m3,y3,rfl⟩:=hcs;have hjl:=KV (dN v) hok;have hll:(dN v).length<=30:=by unfold dN;simp;omega
 obtain⟨t,ht⟩:=nm (iL (dN v));rw[<-ht]at hpr hjl;simp -implicitDefEqProofs[af];intro _;refine cE hpr ?_;simp -implicitDefEqProofs[af];intro _;exact⟨E,by omega⟩
end
end Go.Proofs.Ybk.K
namespace Go.Proofs.Ybk.K
open Go Go.Am
set_option maxHeartbeats 8000000
open V (au aR ai ao aZ ab bg aK aE cA cG a8 bL)
open F (cC)
def yK:eF 0 (eP 1000):=wq 1000 (by decide) (by decide)
def Qe:eF 3 vC:=by have:=oY 2000 (cmd 1 0 0 yB) yK;rw[JP]at this;exact this.mono (by decide)
def Qf:eF 3 tZ:=by have:=oY 2000 (cmd 2 5 1 []) (Qe);rw[JQ]at this;exact⟨this.f0,this.f1,this.n0,this.n1,by decide,this.may,this.fst⟩
def Bp:eF 3 pR:=by have:=oY 2000 (cmd 2 5 2 []) (Qf);rw[JR]at this;exact⟨this.f0,this.f1,this.n0,this.n1,by decide,this.may,this.fst⟩
def Qg:eF 3 vD:=by have:=oY 2000 (cmd 3 1 0 []) (Bp);rw[JS]at this;exact⟨this.f0,this.f1,this.n0,this.n1,by decide,this.may,this.fst⟩
def sO:eF 3 eN:=by have:=oY 2000 (cmd 5 5 0 []) (Qg);rw[JT]at this;exact⟨this.f0,this.f1,this.n0,this.n1,by decide,this.may,this.fst⟩
def amU{h0 h:aa}{a:Nat}{vc:List Value}{ov:Value}{o:Option Nat}(G0:cC h0)(B:bC h0 h a (eP 1000) vc ov o):al PP 15 [.pointer (some ⟨a,0,none⟩),cH (cmd 2 0 0 [])] h (λr h'=>(∃vc' ov' o',bC h0 h' a (eP 1000) vc' ov' o')/\Kp h h'/\
  ∃ad cc ad2 c2,r= .tuple #[.agg ⟨[.int .i64 11,.int .i64 0,.int .i64 0,.int .i64 0,.slice ad 0 cc]⟩,.slice ad2 0 c2]/\aL 3 ab h' (.slice ad 0 cc) []):=by
 refine(ng (N:=3) (yK.mono (by decide)) (by decide) 2000 (by decide) _ (by decide) G0 B YE).mono ?_;rintro r h' ⟨q1,q2,ad,n,cc,ad2,n2,c2,rfl,q3,S,q4,_⟩;replace q4:n2=0:=by rw[Yz]at q4;exact q4
 subst q4;replace q3:n=0:=q3;subst q3;exact⟨q1,q2,ad,cc,ad2,c2,rfl,S⟩
def amV{h0 h:aa}{a:Nat}{vc:List Value}{ov:Value}{o:Option Nat}(G0:cC h0)(B:bC h0 h a (eP 1000) vc ov o):al PP 15 [.pointer (some ⟨a,0,none⟩),cH (cmd 1 0 0 yB)] h (λr h'=>(∃vc' ov' o',bC h0 h' a vC vc' ov' o')/\Kp h h'/\
  ∃ad cc ad2 c2,r= .tuple #[.agg ⟨[.int .i64 0,.int .i64 3,.int .i64 0,.int .i64 0,.slice ad 0 cc]⟩,.slice ad2 2 c2]/\aL 3 ab h' (.slice ad 0 cc) []):=by
 refine(ng (N:=3) (yK.mono (by decide)) (by decide) 2000 (by decide) _ (by decide) G0 B JP).mono ?_;rintro r h' ⟨q1,q2,ad,n,cc,ad2,n2,c2,rfl,q3,S,q4,_⟩;replace q4:n2=2:=by rw[YA]at q4;exact q4
 subst q4;replace q3:n=0:=q3;subst q3;exact⟨q1,q2,ad,cc,ad2,c2,rfl,S⟩
def amY{h0 h:aa}{a:Nat}{vc:List Value}{ov:Value}{o:Option Nat}(G0:cC h0)(B:bC h0 h a vC vc ov o):al PP 15 [.pointer (some ⟨a,0,none⟩),cH (cmd 2 5 1 [])] h (λr h'=>(∃vc' ov' o',bC h0 h' a tZ vc' ov' o')/\Kp h h'/\
  ∃ad cc ad2 n2 c2,r= .tuple #[.agg ⟨[.int .i64 0,.int .i64 1,.int .i64 0,.int .i64 0,.slice ad 1 cc]⟩,.slice ad2 n2 c2]/\aL 3 ab h' (.slice ad 1 cc) [0]):=by
 refine(ng (N:=3) Qe (by decide) 2000 (by decide) _ (by decide) G0 B JQ).mono ?_;rintro r h' ⟨q1,q2,ad,n,cc,ad2,n2,c2,rfl,q3,S,q4,_⟩;clear q4;replace q3:n=1:=q3;subst q3;exact⟨q1,q2,ad,cc,ad2,n2,c2,rfl,S⟩
def amZ{h0 h:aa}{a:Nat}{vc:List Value}{ov:Value}{o:Option Nat}(G0:cC h0)(B:bC h0 h a tZ vc ov o):al PP 15 [.pointer (some ⟨a,0,none⟩),cH (cmd 2 5 2 [])] h (λr h'=>(∃vc' ov' o',bC h0 h' a pR vc' ov' o')/\Kp h h'/\
  ∃ad cc ad2 c2,r= .tuple #[.agg ⟨[.int .i64 0,.int .i64 2,.int .i64 0,.int .i64 0,.slice ad 2 cc]⟩,.slice ad2 2 c2]/\aL 3 ab h' (.slice ad 2 cc) [1,2]):=by
 refine(ng (N:=3) Qf (by decide) 2000 (by decide) _ (by decide) G0 B JR).mono ?_;rintro r h' ⟨q1,q2,ad,n,cc,ad2,n2,c2,rfl,q3,S,q4,_⟩;replace q4:n2=2:=by rw[YB]at q4;exact q4
 subst q4;replace q3:n=2:=q3;subst q3;exact⟨q1,q2,ad,cc,ad2,c2,rfl,S⟩
def am0{h0 h:aa}{a:Nat}{vc:List Value}{ov:Value}{o:Option Nat}(G0:cC h0)(B:bC h0 h a pR vc ov o):al PP 15 [.pointer (some ⟨a,0,none⟩),cH (cmd 2 5 1 [])] h (λr h'=>(∃vc' ov' o',bC h0 h' a pR vc' ov' o')/\Kp h h'/\
  ∃ad cc ad2 n2 c2,r= .tuple #[.agg ⟨[.int .i64 6,.int .i64 0,.int .i64 0,.int .i64 0,.slice ad 0 cc]⟩,.slice ad2 n2 c2]/\aL 3 ab h' (.slice ad 0 cc) []):=by
 refine(ng (N:=3) Bp (by decide) 2000 (by decide) _ (by decide) G0 B YH).mono ?_;rintro r h' ⟨q1,q2,ad,n,cc,ad2,n2,c2,rfl,q3,S,q4,_⟩;clear q4;replace q3:n=0:=q3;subst q3;exact⟨q1,q2,ad,cc,ad2,n2,c2,rfl,S⟩
def am1{h0 h:aa}{a:Nat}{vc:List Value}{ov:Value}{o:Option Nat}(G0:cC h0)(B:bC h0 h a pR vc ov o):al PP 15 [.pointer (some ⟨a,0,none⟩),cH (cmd 3 1 0 [])] h (λr h'=>(∃vc' ov' o',bC h0 h' a vD vc' ov' o')/\Kp h h'/\
  ∃ad cc ad2 n2 c2,r= .tuple #[.agg ⟨[.int .i64 0,.int .i64 0,.int .i64 0,.int .i64 0,.slice ad 1 cc]⟩,.slice ad2 n2 c2]/\aL 3 ab h' (.slice ad 1 cc) [0]):=by
 refine(ng (N:=3) Bp (by decide) 2000 (by decide) _ (by decide) G0 B JS).mono ?_;rintro r h' ⟨q1,q2,ad,n,cc,ad2,n2,c2,rfl,q3,S,q4,_⟩;clear q4;replace q3:n=1:=q3;subst q3;exact⟨q1,q2,ad,cc,ad2,n2,c2,rfl,S⟩
def am2{h0 h:aa}{a:Nat}{vc:List Value}{ov:Value}{o:Option Nat}(G0:cC h0)(B:bC h0 h a vD vc ov o):al PP 15 [.pointer (some ⟨a,0,none⟩),cH (cmd 5 5 0 [])] h (λr h'=>(∃vc' ov' o',bC h0 h' a eN vc' ov' o')/\Kp h h'/\
  ∃ad cc ad2 n2 c2,r= .tuple #[.agg ⟨[.int .i64 0,.int .i64 1,.int .i64 0,.int .i64 0,.slice ad 0 cc]⟩,.slice ad2 n2 c2]/\aL 3 ab h' (.slice ad 0 cc) []):=by
 refine(ng (N:=3) Qg (by decide) 2000 (by decide) _ (by decide) G0 B JT).mono ?_;rintro r h' ⟨q1,q2,ad,n,cc,ad2,n2,c2,rfl,q3,S,q4,_⟩;clear q4;replace q3:n=0:=q3;subst q3;exact⟨q1,q2,ad,cc,ad2,n2,c2,rfl,S⟩
def am3{h0 h:aa}{a:Nat}{vc:List Value}{ov:Value}{o:Option Nat}(G0:cC h0)(B:bC h0 h a eN vc ov o):al PP 15 [.pointer (some ⟨a,0,none⟩),cH (cmd 8 0 0 [])] h (λr h'=>(∃vc' ov' o',bC h0 h' a eN vc' ov' o')/\Kp h h'/\
  ∃ad cc ad2 n2 c2,r= .tuple #[.agg ⟨[.int .i64 0,.int .i64 0,.int .i64 0,.int .i64 0,.slice ad 3 cc]⟩,.slice ad2 n2 c2]/\aL 3 ab h' (.slice ad 3 cc) [1,0,0]):=by
 refine(ng (N:=3) sO (by decide) 2000 (by decide) _ (by decide) G0 B YI).mono ?_;rintro r h' ⟨q1,q2,ad,n,cc,ad2,n2,c2,rfl,q3,S,q4,_⟩;clear q4;replace q3:n=3:=q3;subst q3;exact⟨q1,q2,ad,cc,ad2,n2,c2,rfl,S⟩
def am4{h0 h:aa}{a:Nat}{vc:List Value}{ov:Value}{o:Option Nat}(G0:cC h0)(B:bC h0 h a eN vc ov o):al PP 15 [.pointer (some ⟨a,0,none⟩),cH (cmd 3 2 0 [])] h (λr h'=>(∃vc' ov' o',bC h0 h' a eN vc' ov' o')/\Kp h h'/\
  ∃ad cc ad2 n2 c2,r= .tuple #[.agg ⟨[.int .i64 5,.int .i64 0,.int .i64 0,.int .i64 0,.slice ad 0 cc]⟩,.slice ad2 n2 c2]/\aL 3 ab h' (.slice ad 0 cc) []):=by
 refine(ng (N:=3) sO (by decide) 2000 (by decide) _ (by decide) G0 B YJ).mono ?_;rintro r h' ⟨q1,q2,ad,n,cc,ad2,n2,c2,rfl,q3,S,q4,_⟩;clear q4;replace q3:n=0:=q3;subst q3;exact⟨q1,q2,ad,cc,ad2,n2,c2,rfl,S⟩
def am5{h0 h:aa}{a:Nat}{vc:List Value}{ov:Value}{o:Option Nat}(G0:cC h0)(B:bC h0 h a eN vc ov o):al PP 15 [.pointer (some ⟨a,0,none⟩),cH (cmd 4 9 0 [])] h (λr h'=>(∃vc' ov' o',bC h0 h' a eN vc' ov' o')/\Kp h h'/\
  ∃ad cc ad2 n2 c2,r= .tuple #[.agg ⟨[.int .i64 4,.int .i64 0,.int .i64 0,.int .i64 0,.slice ad 0 cc]⟩,.slice ad2 n2 c2]/\aL 3 ab h' (.slice ad 0 cc) []):=by
 refine(ng (N:=3) sO (by decide) 2000 (by decide) _ (by decide) G0 B YK).mono ?_;rintro r h' ⟨q1,q2,ad,n,cc,ad2,n2,c2,rfl,q3,S,q4,_⟩;clear q4;replace q3:n=0:=q3;subst q3;exact⟨q1,q2,ad,cc,ad2,n2,c2,rfl,S⟩
def amW{h0 h:aa}{a:Nat}{vc:List Value}{ov:Value}{o:Option Nat}(G0:cC h0)(B:bC h0 h a eN vc ov o):al PP 15 [.pointer (some ⟨a,0,none⟩),cH (cmd 99 0 0 [])] h (λr h'=>(∃vc' ov' o',bC h0 h' a eN vc' ov' o')/\Kp h h'/\
  ∃ad cc ad2 n2 c2,r= .tuple #[.agg ⟨[.int .i64 1,.int .i64 0,.int .i64 0,.int .i64 0,.slice ad 0 cc]⟩,.slice ad2 n2 c2]/\aL 3 ab h' (.slice ad 0 cc) []):=by
 refine(ng (N:=3) sO (by decide) 2000 (by decide) _ (by decide) G0 B YF).mono ?_;rintro r h' ⟨q1,q2,ad,n,cc,ad2,n2,c2,rfl,q3,S,q4,_⟩;clear q4;replace q3:n=0:=q3;subst q3;exact⟨q1,q2,ad,cc,ad2,n2,c2,rfl,S⟩
def amX{h0 h:aa}{a:Nat}{vc:List Value}{ov:Value}{o:Option Nat}(G0:cC h0)(B:bC h0 h a eN vc ov o):al PP 15 [.pointer (some ⟨a,0,none⟩),cH (cmd 1 0 0 [])] h (λr h'=>(∃vc' ov' o',bC h0 h' a eN vc' ov' o')/\Kp h h'/\
  ∃ad cc ad2 n2 c2,r= .tuple #[.agg ⟨[.int .i64 12,.int .i64 0,.int .i64 0,.int .i64 0,.slice ad 0 cc]⟩,.slice ad2 n2 c2]/\aL 3 ab h' (.slice ad 0 cc) []):=by
 refine(ng (N:=3) sO (by decide) 2000 (by decide) _ (by decide) G0 B YG).mono ?_;rintro r h' ⟨q1,q2,ad,n,cc,ad2,n2,c2,rfl,q3,S,q4,_⟩;clear q4;replace q3:n=0:=q3;subst q3;exact⟨q1,q2,ad,cc,ad2,n2,c2,rfl,S⟩
def abf:(bV eN).length=1:=by decide
def akr:wQ eN eN=true:=by decide
def abZ:eN.has=true->aK eN.v=true:=sO.may
def ajE:(ku eN).length=5:=by rw[RK];rfl
def anj:oT (eP 1000) (ku eN)=(eN,0):=by rw[RK];exact ani
def vk(h:aa)(G:cC h):al PP 11 [] h (λr h'=>Ext h h'/\r= .bool true):=by
 refine aC Tryz.func11 aeO ?_;simp only[aA,Tryz.f11];have hr1:List.range 1=[0]:=rfl;have hr2:List.range 2=[0,1]:=rfl;have hr3:List.range 3=[0,1,2]:=rfl;simp -implicitDefEqProofs;refine(rz 1000 (by decide) (by decide) h).mono ?_;rintro r H0 ⟨a,vc0,ov0,rfl,B0⟩;simp -implicitDefEqProofs[af];intro _;have D0:=amU G B0;simp only[cH,cmdC,cmd]at D0;refine D0.mono ?_;clear D0;rintro r H1 ⟨⟨vc1,ov1,o1,B1⟩,K0,ad0,cc0,ae0,ce0,rfl,S0⟩;simp -implicitDefEqProofs[af];intro _;have D1:=amV G B1;simp only[cH,cmdC,cmd]at D1;refine D1.mono ?_;clear D1;rintro r H2 ⟨⟨vc2,ov2,o2,B2⟩,K1,ad1,cc1,ae1,ce1,rfl,S1⟩;simp -implicitDefEqProofs[af];intro _;have D2:=amY G B2;simp only[cH,cmdC,cmd]at D2;refine D2.mono ?_;clear D2;rintro r H3 ⟨⟨vc3,ov3,o3,B3⟩,K2,ad2,cc2,ae2,ne2,ce2,rfl,S2⟩;simp -implicitDefEqProofs[af];intro _;have D3:=amZ G B3;simp only[cH,cmdC,cmd]at D3;refine D3.mono ?_;clear D3;rintro r H4 ⟨⟨vc4,ov4,o4,B4⟩,K3,ad3,cc3,ae3,ce3,rfl,S3⟩;simp -implicitDefEqProofs[af];intro _;have D4:=am0 G B4;simp only[cH,cmdC,cmd]at D4;refine D4.mono ?_;clear D4;rintro r H5 ⟨⟨vc5,ov5,o5,B5⟩,K4,ad4,cc4,ae4,ne4,ce4,rfl,S4⟩;simp -implicitDefEqProofs[af];intro _;have D5:=am1 G B5;simp only[cH,cmdC,cmd]at D5;refine D5.mono ?_;clear D5;rintro r H6 ⟨⟨vc6,ov6,o6,B6⟩,K5,ad5,cc5,ae5,ne5,ce5,rfl,S5⟩;simp -implicitDefEqProofs[af];intro _;have D6:=am2 G B6;simp only[cH,cmdC,cmd]at D6;refine D6.mono ?_;clear D6;rintro r H7 ⟨⟨vc7,ov7,o7,B7⟩,K6,ad6,cc6,ae6,ne6,ce6,rfl,S6⟩;simp -implicitDefEqProofs[af];intro _;have D7:=am3 G B7;simp only[cH,cmdC,cmd]at D7;refine D7.mono ?_;clear D7;rintro r H8 ⟨⟨vc8,ov8,o8,B8⟩,K7,ad7,cc7,ae7,ne7,ce7,rfl,S7⟩;simp -implicitDefEqProofs[af];intro _;have D8:=am4 G B8;simp only[cH,cmdC,cmd]at D8;refine D8.mono ?_;clear D8;rintro r H9 ⟨⟨vc9,ov9,o9,B9⟩,K8,ad8,cc8,ae8,ne8,ce8,rfl,S8⟩;simp -implicitDefEqProofs[af];intro _;have D9:=am5 G B9;simp only[cH,cmdC,cmd]at D9;refine D9.mono ?_;clear D9;rintro r H10 ⟨⟨vc10,ov10,o10,B10⟩,K9,ad9,cc9,ae9,ne9,ce9,rfl,S9⟩;simp -implicitDefEqProofs[af];intro _;have D10:=amW G B10;simp only[cH,cmdC,cmd]at D10;refine D10.mono ?_;clear D10;rintro r H11 ⟨⟨vc11,ov11,o11,B11⟩,xl,ad10,cc10,ae10,ne10,ce10,rfl,S10⟩;simp -implicitDefEqProofs[af];intro _;have D11:=amX G B11;simp only[cH,cmdC,cmd]at D11;refine D11.mono ?_;clear D11;rintro r H12 ⟨⟨vc12,ov12,o12,B12⟩,K11,ad11,cc11,ae11,ne11,ce11,rfl,S11⟩;simp -implicitDefEqProofs[af];intro _;refine(rz 1000 (by decide) (by decide) H12).mono ?_;rintro r H13 ⟨a2,vcn,ovn,rfl,Bn⟩;simp -implicitDefEqProofs[af];intro _;have B13:=B12.exts Bn.ext;refine(yZ (by decide) abZ G B13).mono ?_;rintro r H14 ⟨E14,SR⟩;obtain⟨adr,cr,rfl⟩:=SR.shape;have B14:=B13.exts E14;have Bn14:=Bn.exts E14;have ha:=zV (N:=0) yK (ku eN) (by rw[ajE];decide) _ SR Bn14;rw[anj]at ha;simp -implicitDefEqProofs[af];intro _;refine ha.mono ?_;rintro r H15 ⟨⟨vcm,ovm,om,Bm,Cm,Dm⟩,rfl⟩;have C15:=Cm.kp Bn14.iQ;have B15:=B14.er Cm Bn14.iQ (λx hx=>eY B12.ext.n (Bn14.own x hx).1) (λx hx z=>by
  have h1:=(B12.own x hx).2;have h2:=(Bn14.own x z).1;omega)
 simp -implicitDefEqProofs[af];intro _;have Dn:=Yo ⟨0,0,⟨0,0⟩,[]⟩ H15;simp only[cH,cmdC]at Dn;refine cE Dn ?_;have Z2:=((((((((((((S2.kp K3).kp K4).kp K5).kp K6).kp K7).kp K8).kp K9).kp xl).kp K11)).kp Bn.ext.kp).kp E14.kp).kp C15;have Z3:=(((((((((((S3.kp K4).kp K5).kp K6).kp K7).kp K8).kp K9).kp xl).kp K11)).kp Bn.ext.kp).kp E14.kp).kp C15;have Z7:=(((((((S7.kp K8).kp K9).kp xl).kp K11)).kp Bn.ext.kp).kp E14.kp).kp C15;have X1:=Ext.new H15 (.row true 3 ([(0:Int)].map (Value.int .i64)));have I1:=pg H15 [0] (by simp);obtain⟨F1,hF1⟩:∃F,F=H15.new (.row true 3 ([(0:Int)].map (Value.int .i64))):=⟨_,rfl⟩;rw[<-hF1]at X1 I1;have X2:=Ext.new F1 (.row true 3 ([(1:Int),2].map (Value.int .i64)));have I2:=pg F1 [1,2] (by simp);obtain⟨F2,hF2⟩:∃F,F=F1.new (.row true 3 ([(1:Int),2].map (Value.int .i64))):=⟨_,rfl⟩;rw[<-hF2]at X2 I2;have X3:=Ext.new F2 (.row true 3 ([(1:Int),0,0].map (Value.int .i64)));have I3:=pg F2 [1,0,0] (by simp);obtain⟨F3,hF3⟩:∃F,F=F2.new (.row true 3 ([(1:Int),0,0].map (Value.int .i64))):=⟨_,rfl⟩;rw[<-hF3]at X3 I3;have BF:=((B15.exts X1).exts X2).exts X3;have BmF:=((Bm.exts X1).exts X2).exts X3;have e1:=BZ _ _ [0] [0] (by decide) F1 (Z2.ext X1).sl I1;have e2:=BZ _ _ [1,2] [1,2] (by decide) F2 ((Z3.ext X1).ext X2).sl I2;have e3:=BZ _ _ [1,0,0] [1,0,0] (by decide) F3 (((Z7.ext X1).ext X2).ext X3).sl I3;simp only[eW,qR,iG,Nat.reduceAdd]at e1 e2 e3;simp only[fg,List.map_nil]at hF1 hF2 hF3;have hF1':=hF1.symm;have hF2':=hF2.symm;have hF3':=hF3.symm;simp -implicitDefEqProofs[af,aM,hr1,hr2,hr3,hF1'];intro _;refine cE e1 ?_;simp -implicitDefEqProofs[af,aM,hr1,hr2,hr3,hF2'];intro _;refine cE e2 ?_;simp -implicitDefEqProofs[af,aM,hr1,hr2,hr3,hF3'];intro _;refine cE e3 ?_;simp -implicitDefEqProofs[af];intro _;have hnow:eN.now=5:=rfl;refine cE (PT BF) ?_;rw[hnow];simp -implicitDefEqProofs[af];intro _;refine(uL (by decide) BF).mono ?_;rintro r F4 ⟨X4,SL⟩;obtain⟨adl,cl,rfl⟩:=SL.shape;rw[abf];simp -implicitDefEqProofs[af];intro _;have B4:=BF.exts X4;have hlen2:eN.l.length=2:=rfl;refine(Qo (by decide) B4).mono ?_;rintro r F5 ⟨X5,SO⟩;obtain⟨ado,rfl,_⟩:=SO;rw[hlen2];simp -implicitDefEqProofs[af];intro _;have B5:=B4.exts X5;have Bm5:=(BmF.exts X4).exts X5;have hsm:=zY (jF (sO.may rfl)).small (by decide) Bm5 B5;rw[akr]at hsm;refine cE hsm ?_;simp -implicitDefEqProofs[af];intro _;refine cE (Wo Bm5) ?_;simp -implicitDefEqProofs[af];intro _;refine cE (acq F5) ?_;simp -implicitDefEqProofs[af];intro _;exact B5.ext
end Go.Proofs.Ybk.K
namespace Go.Proofs.Ybk.K
open Go Go.Am
open V (au aR ai ao aZ ab bg aK aE cA cG a8 bL)
open F (cC)
def iE(h0 h:aa)(a a2:Nat)(b b2:aI):Prop:=∃vc ov o vc2 ov2 o2,bC h0 h a b vc ov o/\bC h0 h a2 b2 vc2 ov2 o2/\∀x∈a::o.toList,x∉a2::o2.toList
section
variable {h0 h h':aa} {a a2:Nat} {b b2:aI}
def iE.swap(T:iE h0 h a a2 b b2):iE h0 h a2 a b2 b:=by
 obtain⟨vc,ov,o,vc2,ov2,o2,B,B2,D⟩:=T;exact⟨vc2,ov2,o2,vc,ov,o,B2,B,λx hx z=>D x z hx⟩
def iE.fst(T:iE h0 h a a2 b b2):∃vc ov o,bC h0 h a b vc ov o:=by
 obtain⟨vc,ov,o,vc2,ov2,o2,B,B2,D⟩:=T;exact⟨vc,ov,o,B⟩
def iE.snd(T:iE h0 h a a2 b b2):∃vc ov o,bC h0 h a2 b2 vc ov o:=T.swap.fst
def iE.ext(T:iE h0 h a a2 b b2)(E:Ext h h'):iE h0 h' a a2 b b2:=by
 obtain⟨vc,ov,o,vc2,ov2,o2,B,B2,D⟩:=T;exact⟨vc,ov,o,vc2,ov2,o2,B.exts E,B2.exts E,D⟩
def iE.e(T:iE h0 h a a2 b b2):Ext h0 h:=by
 obtain⟨vc,ov,o,B⟩:=T.fst;exact B.ext
def ano{vc:List Value}{ov:Value}{o:Option Nat}(B:bC h0 h a b vc ov o){vc2:List Value}{ov2:Value}{o2:Option Nat}(B2:bC h h' a2 b2 vc2 ov2 o2):iE h0 h' a a2 b b2:=
 ⟨vc,ov,o,vc2,ov2,o2,B.exts B2.ext,B2.low B.ext,λx hx z=>by
  have h1:=(B.own x hx).2;have h2:=(B2.own x z).1;omega⟩
def RN{N:Nat}(OK:eF N b)(hN:N<=1047000)(steps:Nat)(hst:2*b.fuel.toNat<=steps)(c:CmdR)(hc:c.text.length<=1048576)(G0:cC h0)(T:iE h0 h a a2 b b2):
  al PP 15 [.pointer (some ⟨a,0,none⟩),cH c] h (λr h'=>iE h0 h' a a2 (bZ steps b c).1 b2/\xg h' (bZ steps b c).2 (j4 steps b c) r):=by
 obtain⟨vc,ov,o,vc2,ov2,o2,B,B2,D⟩:=T;refine(xK OK hN steps hst c hc G0 B).mono ?_;intro r h' H;obtain⟨⟨vc',ov',o',B',C,D'⟩,HR⟩:=H.r;refine⟨⟨vc',ov',o',vc2,ov2,o2,B',B2.other B C (λx hx z=>D x z hx),λx hx z=>?_⟩,HR⟩;rcases cJ.1 hx with e|hx
 .exact D a dU (e ▸ z)
 .rcases D' x (by simpa using hx)with q|q
  .exact D x (eI _ (by simpa using q)) z
  .have:=(B2.own x z).2;omega
def ann{N:Nat}(OK:eF N b2)(hN:N<=1047000)(steps:Nat)(hst:2*b2.fuel.toNat<=steps)(c:CmdR)(hc:c.text.length<=1048576)(G0:cC h0)(T:iE h0 h a a2 b b2):
  al PP 15 [.pointer (some ⟨a2,0,none⟩),cH c] h (λr h'=>iE h0 h' a a2 b (bZ steps b2 c).1/\xg h' (bZ steps b2 c).2 (j4 steps b2 c) r):=by
 refine(RN OK hN steps hst c hc G0 T.swap).mono ?_;rintro r h' ⟨T',HR⟩;exact⟨T'.swap,HR⟩
end
def aks(v:ai):V.vd v v=true:=by unfold V.vd;simp
def Rh(b:aI):wQ b b=true:=by unfold wQ;rw[aks];simp
def IF(n:Nat)(b:aI)(c:CmdR)(h:V.lz b.v):V.lz (bZ n b c).1.v:=by
 unfold bZ;split
 .exact h
 split
 .unfold kJ;split
  .exact h
  .split
   .exact h
   .rename_i hp;exact(jF (Bw hp)).small
 split
 .unfold iR;split<;>exact h
 split
 .exact h
 split
 .unfold kH;split
  .exact h
  .simp only;split<;>exact h
 split
 .exact h
 split
 .unfold lR;split
  .exact h
  .simp only;split<;>exact h
 split
 .unfold lQ;split
  .exact h
  .simp only;split<;>exact h
 split
 .unfold ma;simp only;split
  .exact h
  .split<;>exact h
 .exact h
def PM(f:Int):V.lz (eP f).v:=⟨Nat.zero_le _,Nat.zero_le _,Nat.zero_le _⟩
end Go.Proofs.Ybk.K
namespace Go.Proofs.Ybk.K
open Go Go.Am
set_option maxHeartbeats 4000000
open V (au aR ai ao aZ ab bg aK aE cA cG a8 bL)
open F (cC)
def zo(n:Int)(m:Nat)(hm:0<m)(hm2:m<=100):∃k:Nat,k<m/\(IntKind.wrap .u64 n).tmod m=(k:Int)/\IntKind.wrap .u64 ((k:Int))=k/\IntKind.wrap .i64 ((k:Int))=k/\IntKind.wrap .i64 (1+(k:Int))=1+(k:Int):=by
 have h0:0<=IntKind.wrap .u64 n:=by rw[RO];omega
 refine⟨((IntKind.wrap .u64 n) % m).toNat,?_,?_,?_,?_,?_⟩
 .have:=Int.emod_lt_of_pos (IntKind.wrap .u64 n) (show(0:Int)<m by omega);have:=Int.emod_nonneg (IntKind.wrap .u64 n) (show(m:Int)≠0 by omega);omega
 .rw[Int.tmod_eq_emod_of_nonneg h0];have:=Int.emod_nonneg (IntKind.wrap .u64 n) (show(m:Int)≠0 by omega);omega
 all_goals
  have h1:=Int.emod_lt_of_pos (IntKind.wrap .u64 n) (show(0:Int)<m by omega)
  have h2:=Int.emod_nonneg (IntKind.wrap .u64 n) (show(m:Int)≠0 by omega)
 .exact jL (by omega)
 .exact bB (by omega)
 .exact bB (by omega)
abbrev vo:=dt 31 cmdC
def oV(c:CmdR):(cmdC c).length=5:=rfl
def pa(cs:List CmdR)(k:Int):Bool:=(cs.all λc=>decide (c.text.length<=300))&&decide ((cs.length:Int)<=k)
def Te(s:Value)(l:List CmdR)(k:Int)(m:Nat)(h:aa)(n:Nat)(σ:St):Prop:=∃i:Nat,n=m-i/\i<=m/\σ.m.h=h/\σ.t.get 0=some s/\σ.t.get 1=some (.int .i64 k)/\σ.t.get 5=some (.int .i64 (i:Nat))/\(l.take i).all (λc=>decide (c.text.length<=300))=true
def Av(s:Value)(l:List CmdR)(k:Int)(hl:l.length<=9223372036854775807)(h:aa)(hs:vo h s l):al PP 10 [s,.int .i64 k] h (λv h'=>h'=h/\v= .bool (pa l k)):=by
 refine aC Tryz.func10 aeF ?_;simp only[aA,Tryz.f10];obtain⟨ad,c,rfl⟩:=hs.shape;obtain⟨m,hm⟩:=nm l.length;rw[<-hm]at hs ⊢;simp -implicitDefEqProofs;refine bG (Te (.slice ad m c) l k m h) _ ⟨0,rfl,by omega,rfl,by simp,by simp,by simp,rfl⟩ ?_;rintro n ⟨T,⟨x,H⟩⟩ ⟨i,rfl,hi,hH,g0,g1,g5,aJ⟩;simp at hH g0 g1 g5;subst hH;simp -implicitDefEqProofs[g0,g1,g5];refine bR (λhc=>?_) (λhc=>?_)
 .have hil:i<m:=by omega
  have hti:l[i]? =some l[i]:=aq (by omega);obtain⟨_,b,o,wb,cs,r,rfl,hb,hd,hlc,_⟩:=hs.at 5 oV hti;obtain⟨t,ht⟩:=nm l[i];rw[<-ht]at hd hti;have w1:=bO (i:=i) (by omega);have hlc':o+i*5+5<=cs.length:=by omega
  have hd4:List.drop (o+i*5+4) cs= .string (B t.text)::r:=by rw[<-eh,hd];simp[cmdC]
  simp -implicitDefEqProofs[g0,g1,g5,hil,hb,hd,hlc',hd4];refine jk (λh1=>?_) (λh1=>?_)<;>simp at h1
  .have hp:pa l k=false:=by
    unfold pa;rw[Bool.and_eq_false_iff];refine .inl ?_;rw[List.all_eq_false];exact⟨t,dE hti,by simp;omega⟩
   simp -implicitDefEqProofs[g0,g1,g5,hp]
  .simp -implicitDefEqProofs[g0,g1,g5,w1];refine⟨m-(i+1),by omega,i+1,rfl,by omega,rfl,by simp[g0],by simp[g1],by simp,?_⟩;rw[fL,hti,List.all_append,aJ];simp;omega
 .have:i=m:=by omega
  subst this;simp -implicitDefEqProofs[g0,g1,g5];unfold pa;rw[hm,jZ]at aJ;rw[aJ,qQ,<-hm]
def AA(c:CmdR)(hct:c.text.length<=300)(i:Int)(l:List Int)(hl:l.length<=4611686018427387904)(lv:Value)(h:aa)(hs:a8 h lv l):al PP 13 [cH c,.int .i64 i,lv] h (λr h'=>Ext h h'/\∃c',r=cH c'/\c'.text.length<=10000):=by
 refine aC Tryz.func13 aff ?_;simp only[aA,Tryz.f13];obtain⟨ad,cp,rfl⟩:=hs.shape;simp -implicitDefEqProofs[cH,cmdC];refine jk (λh1=>?_) (λh1=>?_)<;>simp at h1
 .simp -implicitDefEqProofs;refine(Pu l hl _ h hs).mono ?_;rintro r h' ⟨E,t,rfl,ht⟩;simp -implicitDefEqProofs;intro _;exact⟨E,⟨1,0,⟨0,0⟩,t⟩,⟨rfl,rfl,rfl,rfl,rfl⟩,ht⟩
 .simp -implicitDefEqProofs;refine jk (λh2=>?_) (λh2=>?_)<;>simp at h2
  .simp -implicitDefEqProofs;exact⟨Ext.bJ h,c,⟨rfl,rfl,rfl,rfl,rfl⟩,by omega⟩
  .have hr13:List.range 13=[0,1,2,3,4,5,6,7,8,9,10,11,12]:=rfl;obtain⟨u,hu,e1,e2,e3,e4⟩:=zo c.kind 13 (by decide) (by decide);replace e1:(IntKind.wrap .u64 c.kind).tmod 13=(u:Int):=e1;obtain⟨y,hy,y1,y2,y3,y4⟩:=zo c.a 7 (by decide) (by decide);replace y1:(IntKind.wrap .u64 c.a).tmod 7=(y:Int):=y1;obtain⟨p,hp,p1,p2,p3,p4⟩:=zo c.az.size 3 (by decide) (by decide);replace p1:(IntKind.wrap .u64 c.az.size).tmod 3=(p:Int):=p1;obtain⟨q,hq,q1,q2,q3,q4⟩:=zo c.az.cS 2 (by decide) (by decide);replace q1:(IntKind.wrap .u64 c.az.cS).tmod 2=(q:Int):=q1;obtain⟨x,rest,hx⟩:∃x rest,List.drop u [Value.int .i64 2,.int .i64 2,.int .i64 2,.int .i64 2,.int .i64 3,.int .i64 4,.int .i64 5,.int .i64 6,.int .i64 7,.int .i64 8,.int .i64 2,.int .i64 3,.int .i64 1]=Value.int .i64 x::rest:=by
    have:∀u,u<13->∃x rest,List.drop u [Value.int .i64 2,.int .i64 2,.int .i64 2,.int .i64 2,.int .i64 3,.int .i64 4,.int .i64 5,.int .i64 6,.int .i64 7,.int .i64 8,.int .i64 2,.int .i64 3,.int .i64 1]=Value.int .i64 x::rest:=by
     intro u hu;match u,hu with
     |0,_|1,_|2,_|3,_|4,_|5,_|6,_|7,_|8,_|9,_|10,_|11,_|12,_=>exact⟨_,_,rfl⟩
    exact this u hu
   have hu':(u:Int)<13:=(by omega);have hu2:u+1<=13:=(by omega);simp -implicitDefEqProofs[aM,hr13,e1,hu',hx,hu,hu2];have E0:Ext h (h.new (.row true 3 [Value.int .i64 2,.int .i64 2,.int .i64 2,.int .i64 2,.int .i64 3,.int .i64 4,.int .i64 5,.int .i64 6,.int .i64 7,.int .i64 8,.int .i64 2,.int .i64 3,.int .i64 1])):=Ext.new h _;refine jk (λh3=>?_) (λh3=>?_)<;>simp at h3
   .simp -implicitDefEqProofs;refine(Pu l hl _ _ (hs.ext E0)).mono ?_;rintro r h' ⟨E,t,rfl,ht⟩;replace E:=E0.trans E;clear hx E0;simp -implicitDefEqProofs[y1,y2,y3,y4,p1,p2,p3,p4,q1,q2,q3,q4];intro _;refine jk (λh4=>?_) (λh4=>?_)<;>simp at h4
    .simp -implicitDefEqProofs;exact⟨E,⟨1,1+y,⟨1+p,0⟩,t⟩,⟨by simp[h3],rfl,rfl,rfl,rfl⟩,ht⟩
    .simp -implicitDefEqProofs;exact⟨E,⟨1,1+y,⟨1+p,q⟩,t⟩,⟨by simp[h3],rfl,rfl,rfl,rfl⟩,ht⟩
   .simp -implicitDefEqProofs[y1,y2,y3,y4,p1,p2,p3,p4,q1,q2,q3,q4];refine jk (λh4=>?_) (λh4=>?_)<;>simp at h4
    .simp -implicitDefEqProofs;exact⟨E0,⟨x,1+y,⟨1+p,0⟩,c.text⟩,⟨rfl,rfl,rfl,rfl,rfl⟩,by show c.text.length<=10000;omega⟩
    .simp -implicitDefEqProofs;exact⟨E0,⟨x,1+y,⟨1+p,q⟩,c.text⟩,⟨rfl,rfl,rfl,rfl,rfl⟩,by show c.text.length<=10000;omega⟩
end Go.Proofs.Ybk.K
namespace Go.Proofs.Ybk.K
open Go Go.Am Go.RowKit Go.ChangeShapes Go.WideShapes Go.Deep
def XO(l:List CmdR):∀(i j:Nat)(c:CmdR),l[i]? =some c->j<5->(l.flatMap cmdC)[i*5+j]? =(cmdC c)[j]? :=by
 induction l with
 |nil=>intro i j c h;simp at h
 |cons a r ih=>
  intro i j c h hj;rw[ic];cases i with
  |zero=>
   simp only[List.getElem?_cons_zero,av]at h;subst h;rw[ji (by rw[oV];omega)];simp
  |succ i=>
   rw[iF (by rw[oV];omega),oV,show(i+1)*5+j-5=i*5+j from by omega];exact ih i j c (by simpa using h) hj
def Ae(l:List CmdR):(l.flatMap cmdC).length=l.length*5:=by
 induction l with
 |nil=>rfl
 |cons a r ih=>rw[ic,bH,ih,oV,eW];omega
def XQ(l:List CmdR):∀n,(l.flatMap cmdC).take (n*5)=(l.take n).flatMap cmdC:=by
 induction l with
 |nil=>intro n;simp
 |cons a r ih=>
  intro n;cases n with
  |zero=>simp
  |succ n=>
   rw[ic,List.take_succ_cons,ic,<-ih n,List.take_append,oV,show(n+1)*5-5=n*5 from by omega,b9 (by rw[oV];omega)]
def XP(l:List CmdR):(l.flatMap cmdC).all BC=true:=by
 induction l with
 |nil=>rfl
 |cons a r ih=>rw[ic,List.all_append,ih];rfl
def open_cmds{H:Type}{enc:TypeId×Value->H}{w:World}{base:Nat}{held:Bool}{fuel:Nat}{cs:List Value}{x:DataW H×List MemPlace}
  (h:DataW.trod enc Tryz.prog w base (λ_=>true) held fuel 23 cs=some x):∃(a:Option Addr)(len cap:Nat)(l:List CmdR),cs=[.slice a len cap]/\l.length=cap/\RowX w 5 a len cap (l.flatMap cmdC)/\len<=maxLen:=by
 have hce:Tryz.prog.cellsOf 31=5:=by kernel_rfl
 have c3:Tryz.prog.cellsOf 3=1:=by kernel_rfl
 have c9:Tryz.prog.cellsOf 9=1:=by kernel_rfl
 have c29:Tryz.prog.cellsOf 29=2:=by kernel_rfl
 rcases open_slice Tryz.underlying23 h with⟨rfl,_⟩|⟨a,len,cap,m,n,D,Pl,rfl,_,hl,hcap,hm,_,hel⟩
 .exact⟨none,0,0,[],rfl,rfl,.inl ⟨rfl,rfl,rfl,rfl⟩,Nat.zero_le _⟩
 .simp only[if_true]at hm;subst hm;have key:∀i,i<m->∃c:CmdR,∀j,j<5->w.cell? (a.add (i*5+j))=(cmdC c)[j]? :=by
   intro i hi;obtain⟨cs',h1,h2⟩:=hel i hi;rw[hce]at h1;obtain⟨_,hlen,hcell⟩:=World.cells?_some h1;obtain⟨xs,k,_,_,_,hxs,hf⟩:=DataW.trod_struct Tryz.underlying31 h2;match xs,hxs,cs',hlen with
   |[y0,y1,y2,y3],_,[v0,v1,v2,v3,v4],_=>
    have g0:=hf 0 _ rfl;have g1:=hf 1 _ rfl;have g2:=hf 2 _ rfl;have g3:=hf 3 _ rfl;simp[c3,c9,c29]at g0 g1 g2 g3;obtain⟨z0,e0,_,_⟩:=DataW.trod_int Tryz.underlying3 g0;obtain⟨z1,e1,_,_⟩:=DataW.trod_int Tryz.underlying3 g1;obtain⟨s,e3,_,_⟩:=DataW.trod_string Tryz.underlying9 g3;obtain⟨u0,u1,n2,_,_,k0,k1⟩:=trod_struct2 Tryz.underlying29 g2;simp[c3]at k0 k1;obtain⟨z2,e4,_,_⟩:=DataW.trod_int Tryz.underlying3 k0;obtain⟨z3,e5,_,_⟩:=DataW.trod_int Tryz.underlying3 k1;simp at e0 e1 e3 e4 e5;subst e0 e1 e3 e4 e5;refine⟨⟨z0,z1,⟨z2,z3⟩,s.data.toList⟩,λj hj=>?_⟩;have h4:=hcell j hj;rw[Go.Deep.add_add]at h4;rw[h4];have hs:Go.Am.B s.data.toList=s:=(by simp[Go.Am.B]);match j,hj with
    |0,_|1,_|2,_|3,_=>rfl
    |4,_=>simp[cmdC,hs]
  obtain⟨f,hf⟩:=choose_lt key;refine⟨_,_,_,(List.range m).map f,rfl,by simp,.inr ⟨a,rfl,hl,by rw[Ae];simp,λi hi=>?_,XP _,?_⟩,eY hl hcap⟩
  .rw[Ae]at hi;simp only[cf,pP]at hi;have fC:i / 5<m:=(by omega);have h5:=hf (i / 5) fC (i % 5) (Nat.mod_lt _ (by decide));rw[Nat.div_add_mod']at h5;have h6:=XO ((List.range m).map f) (i / 5) (i % 5) (f (i / 5)) (by simp[fC]) (Nat.mod_lt _ (by decide));rw[Nat.div_add_mod']at h6;rw[h5,<-h6,bu];have h7:i<(((List.range m).map f).flatMap cmdC).length:=(by rw[Ae];simpa using hi);rw[aq h7];rfl
  .cases m with
   |zero=>exact .inl rfl
   |succ m=>rw[List.range_succ_eq_map,fg,ic];exact .inr ⟨_,_,rfl⟩
def Af{h:aa}{v:Value}{len:Nat}{l:List CmdR}(H:qP 31 h v len ((l.flatMap cmdC).take (len*5)))(hl:len<=l.length):vo h v (l.take len):=by
 obtain⟨ad,c,rfl,hc,z⟩:=H;have e:(l.take len).length=len:=by rw[dh];omega
 refine⟨ad,c,by rw[e],hc,?_⟩;rcases z with z|⟨b,cs,rfl,h2,h3⟩
 .exact .inl (by rw[z];rfl)
 .exact .inr ⟨b,0,false,_,cs,rfl,h2,by rw[XQ];rfl,Nat.zero_le _,h3⟩
end Go.Proofs.Ybk.K

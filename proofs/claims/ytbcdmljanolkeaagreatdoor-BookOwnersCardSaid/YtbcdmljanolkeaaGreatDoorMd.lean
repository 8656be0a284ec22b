import Derived.Test.YtbcdmljanolkeaaGreatDoorMc
import Derived.Laws.RangeString
import Derived.Lib.ItoaNum
import Derived.Shelf.SlSortCmp.WholeK
import Derived.Shelf.Sort.Plain
import Derived.Test.YtbcdmljanolkeaaGreatDoorProg
set_option linter.unusedVariables false
set_option linter.unusedSimpArgs false
set_option linter.unusedSectionVars false
set_option linter.constructorNameAsVariable false
set_option linter.defProp false
set_option maxRecDepth 20000
namespace Go.Proofs.Ybk.K
open Go Go.Am
set_option maxHeartbeats 4000000
open V (au aR ai ao aZ ab bg aK aE cA cG a8 bL)
def aP(o:aB):List Value:=[.int .i64 o.id,.int .i64 o.state,.int .i64 o.az.size,.int .i64 o.az.cS,.int .i64 o.gX,.int .i64 o.first]
def iA(o:aB):(aP o).length=6:=rfl
def vO{α:Type}{enc:α->List Value}(he:∀x,(enc x).all cL=true)(xs:List α):(xs.flatMap enc).all cL=true:=by
 rw[cz];intro v hv;obtain⟨s,_,hs⟩:=List.mem_flatMap.1 hv;exact cz.1 (he s) v hs
def Ic(s:Value)(xs:List Int)(hl:xs.length<=1073741824)(h:aa)(hs:dt 3 ab h s xs):al PP 60 [s] h (λv h'=>Ext h h'/\cO 3 ab h h' v xs):=by
 refine aC Tryz.func60 ahu ?_;simp only[aA,Tryz.f60];obtain⟨ad,c,rfl,hn,hz⟩:=hs;cases ad with
 |none=>
  have:xs=[]:=by
   rcases hz with z|⟨b,off,w,cells,rest,z,_⟩
   .exact z
   .simp at z
  subst this;have:=hn rfl;subst this;simp -implicitDefEqProofs;exact⟨Ext.bJ h,cO.nil⟩
 |some ad=>
  by_cases h0:xs=[]
  .subst h0;simp -implicitDefEqProofs[aM,dC,dS,dH];exact⟨(Ext.new h _).dp (aX _) _ |>.bI _,_,rfl,.inr ⟨_,rfl,by simp⟩⟩
  .obtain⟨b,off,w,cells,rest,e,z2,z3,z4,z5⟩:∃b off w cells rest,some ad=some (⟨b,off,none⟩:Addr)/\h.f b= .row w 3 cells/\cells.drop off=xs.flatMap ab++rest/\off<=cells.length/\b<h.n:=by
    rcases hz with z|z
    .exact absurd z h0
    .exact z
   obtain rfl:=bU e
   obtain⟨m,hm⟩:=nm xs.length
   have hm0:¬m=0:=by rw[hm];simpa using h0
   obtain⟨F,hF⟩:=nm (xs.flatMap ab)
   have hFl:F.length=m:=by rw[hF,fr 1 V.dY,hm,Nat.mul_one]
   have hone:F.all cL=true:=by rw[hF];exact vO (λ_=>rfl) xs
   rw[<-hF]at z3
   have hlen:off+m<=cells.length:=by
    have:=congrArg List.length z3;rw[eX,bH,hFl]at this;omega
   have htk:(cells.drop off).take (m)=F:=by rw[z3,List.take_append_of_le_length (by omega),b9 (by omega)]
   have hbn:¬b=h.n:=by omega
   have hmx:m*8<=140737488355328:=by omega
   rw[<-hm]
   simp -implicitDefEqProofs[aM,dC,dS,dH,hm0,hbn,z2,hlen,htk,hone,hmx]
   exact⟨(Ext.new h _).dp (aX _) _ |>.bI _,_,by rw[hm],.inr ⟨_,rfl,by simp[hF]⟩⟩
def Ad(s:Value)(xs:List Int)(hl:xs.length<=1073741824)(h:aa)(hs:dt 3 ab h s xs):al PP 154 [s] h (λv h'=>Ext h h'/\cO 3 ab h h' v xs):=by
 refine aC Tryz.func154 afw ?_;simp only[aA,Tryz.f154];obtain⟨ad,c,rfl,hn,hz⟩:=hs;cases ad with
 |none=>
  have:xs=[]:=by
   rcases hz with z|⟨b,off,w,cells,rest,z,_⟩
   .exact z
   .simp at z
  subst this;have:=hn rfl;subst this;simp -implicitDefEqProofs;exact⟨Ext.bJ h,cO.nil⟩
 |some ad=>
  by_cases h0:xs=[]
  .subst h0;simp -implicitDefEqProofs[aM,dC,dS,dH];exact⟨(Ext.new h _).dp (aX _) _ |>.bI _,_,rfl,.inr ⟨_,rfl,by simp⟩⟩
  .obtain⟨b,off,w,cells,rest,e,z2,z3,z4,z5⟩:∃b off w cells rest,some ad=some (⟨b,off,none⟩:Addr)/\h.f b= .row w 3 cells/\cells.drop off=xs.flatMap ab++rest/\off<=cells.length/\b<h.n:=by
    rcases hz with z|z
    .exact absurd z h0
    .exact z
   obtain rfl:=bU e
   obtain⟨m,hm⟩:=nm xs.length
   have hm0:¬m=0:=by rw[hm];simpa using h0
   obtain⟨F,hF⟩:=nm (xs.flatMap ab)
   have hFl:F.length=m:=by rw[hF,fr 1 V.dY,hm,Nat.mul_one]
   have hone:F.all cL=true:=by rw[hF];exact vO (λ_=>rfl) xs
   rw[<-hF]at z3
   have hlen:off+m<=cells.length:=by
    have:=congrArg List.length z3;rw[eX,bH,hFl]at this;omega
   have htk:(cells.drop off).take (m)=F:=by rw[z3,List.take_append_of_le_length (by omega),b9 (by omega)]
   have hbn:¬b=h.n:=by omega
   have hmx:m*8<=140737488355328:=by omega
   rw[<-hm]
   simp -implicitDefEqProofs[aM,dC,dS,dH,hm0,hbn,z2,hlen,htk,hone,hmx]
   exact⟨(Ext.new h _).dp (aX _) _ |>.bI _,_,by rw[hm],.inr ⟨_,rfl,by simp[hF]⟩⟩
def XL(s:Value)(xs:List aQ)(hl:xs.length<=1073741824)(h:aa)(hs:dt 29 ah h s xs):al PP 203 [s] h (λv h'=>Ext h h'/\cO 29 ah h h' v xs):=by
 refine aC Tryz.func203 af6 ?_;simp only[aA,Tryz.f203];obtain⟨ad,c,rfl,hn,hz⟩:=hs;cases ad with
 |none=>
  have:xs=[]:=by
   rcases hz with z|⟨b,off,w,cells,rest,z,_⟩
   .exact z
   .simp at z
  subst this;have:=hn rfl;subst this;simp -implicitDefEqProofs;exact⟨Ext.bJ h,cO.nil⟩
 |some ad=>
  by_cases h0:xs=[]
  .subst h0;simp -implicitDefEqProofs[aM,dC,dS,dH];exact⟨(Ext.new h _).dp (aX _) _ |>.bI _,_,rfl,.inr ⟨_,rfl,by simp⟩⟩
  .obtain⟨b,off,w,cells,rest,e,z2,z3,z4,z5⟩:∃b off w cells rest,some ad=some (⟨b,off,none⟩:Addr)/\h.f b= .row w 29 cells/\cells.drop off=xs.flatMap ah++rest/\off<=cells.length/\b<h.n:=by
    rcases hz with z|z
    .exact absurd z h0
    .exact z
   obtain rfl:=bU e
   obtain⟨m,hm⟩:=nm xs.length
   have hm0:¬m=0:=by rw[hm];simpa using h0
   obtain⟨F,hF⟩:=nm (xs.flatMap ah)
   have hFl:F.length=m*2:=by rw[hF,fr 2 ko,hm]
   have hone:F.all cL=true:=by rw[hF];exact vO (λ_=>rfl) xs
   rw[<-hF]at z3
   have hlen:off+m*2<=cells.length:=by
    have:=congrArg List.length z3;rw[eX,bH,hFl]at this;omega
   have htk:(cells.drop off).take (m*2)=F:=by rw[z3,List.take_append_of_le_length (by omega),b9 (by omega)]
   have hbn:¬b=h.n:=by omega
   have hmx:m*16<=140737488355328:=by omega
   rw[<-hm]
   simp -implicitDefEqProofs[aM,dC,dS,dH,hm0,hbn,z2,hlen,htk,hone,hmx]
   exact⟨(Ext.new h _).dp (aX _) _ |>.bI _,_,by rw[hm],.inr ⟨_,rfl,by simp[hF]⟩⟩
def Ie(s:Value)(xs:List aB)(hl:xs.length<=1073741824)(h:aa)(hs:dt 43 aP h s xs):al PP 34 [s] h (λv h'=>Ext h h'/\cO 43 aP h h' v xs):=by
 refine aC Tryz.func34 ahd ?_;simp only[aA,Tryz.f34];obtain⟨ad,c,rfl,hn,hz⟩:=hs;cases ad with
 |none=>
  have:xs=[]:=by
   rcases hz with z|⟨b,off,w,cells,rest,z,_⟩
   .exact z
   .simp at z
  subst this;have:=hn rfl;subst this;simp -implicitDefEqProofs;exact⟨Ext.bJ h,cO.nil⟩
 |some ad=>
  by_cases h0:xs=[]
  .subst h0;simp -implicitDefEqProofs[aM,dC,dS,dH];exact⟨(Ext.new h _).dp (aX _) _ |>.bI _,_,rfl,.inr ⟨_,rfl,by simp⟩⟩
  .obtain⟨b,off,w,cells,rest,e,z2,z3,z4,z5⟩:∃b off w cells rest,some ad=some (⟨b,off,none⟩:Addr)/\h.f b= .row w 43 cells/\cells.drop off=xs.flatMap aP++rest/\off<=cells.length/\b<h.n:=by
    rcases hz with z|z
    .exact absurd z h0
    .exact z
   obtain rfl:=bU e
   obtain⟨m,hm⟩:=nm xs.length
   have hm0:¬m=0:=by rw[hm];simpa using h0
   obtain⟨F,hF⟩:=nm (xs.flatMap aP)
   have hFl:F.length=m*6:=by rw[hF,fr 6 iA,hm]
   have hone:F.all cL=true:=by rw[hF];exact vO (λ_=>rfl) xs
   rw[<-hF]at z3
   have hlen:off+m*6<=cells.length:=by
    have:=congrArg List.length z3;rw[eX,bH,hFl]at this;omega
   have htk:(cells.drop off).take (m*6)=F:=by rw[z3,List.take_append_of_le_length (by omega),b9 (by omega)]
   have hbn:¬b=h.n:=by omega
   have hmx:m*48<=140737488355328:=by omega
   rw[<-hm]
   simp -implicitDefEqProofs[aM,dC,dS,dH,hm0,hbn,z2,hlen,htk,hone,hmx]
   exact⟨(Ext.new h _).dp (aX _) _ |>.bI _,_,by rw[hm],.inr ⟨_,rfl,by simp[hF]⟩⟩
def lf:lN 113 3 1 8 ab:=⟨JV,RP,⟨_,Cz,rfl⟩,zZ,uh,by decide,by decide,V.dY,λ_=>rfl⟩
section
variable {α:Type} {t e sz by_:Nat} {enc:α->List Value} {h0 G:aa} {o:Option Nat} {xs:List α} {v:Value}
def fM(E:lN t e sz by_ enc)(W:Ow e enc h0 G o xs v)(a:α)(b:Nat){w:Bool}(hb:G.f b= .row w e (enc a))(hl:(xs.length+1)*by_<=140737488355328)(T:Fr)(x:b8)(s y:Nat)(hs:Fr.get T s=some v)(hy:Fr.get T y=some (.slice (some ⟨b,0,none⟩) 1 1)):
  dC PP ⟨T,⟨x,G⟩⟩ t t (.tmp s) (.tmp y)=some (.slice (some ⟨G.n,0,none⟩) (xs.length+1) (xs.length+1),⟨T,⟨x,bY G o (.row true e (xs.flatMap enc++enc a))⟩⟩):=by
 obtain⟨zl,hz,hzl⟩:=E.ze;have hlen:=E.len a;have htk:(enc a).take sz=enc a:=b9 (by omega);refine Qh (σ:=⟨T,⟨x,G⟩⟩) W E.el hz E.Aa E.co E.pos E.b0 hzl E.len (by simpa using hs) ?_ (E.one a) (by decide) hl;simp[dS,E.un,hy,hlen,htk,hb]
end
def CI(h:aa)(l:List aQ)(p:List Int)(q:aQ)(σ:St):Prop:=Ext h σ.m.h/\∃c d:Nat,σ.t.get 6=some (.slice (some ⟨c,0,none⟩) (l.length+1) (l.length+1))/\σ.t.get 7=some (.slice (some ⟨d,0,none⟩) (p.length+1) (p.length+1))/\
 σ.m.h.f c= .row true 29 (l.flatMap ah++ah q)/\σ.m.h.f d= .row true 3 (p.flatMap ab++ab (-1))/\h.n<=c/\h.n<=d/\c<σ.m.h.n/\d<σ.m.h.n
def pM{h G4 G5:aa}{l:List aQ}{p:List Int}{q:aQ}{c:Nat}{o2:Option Nat}(E4:Ext h G4)(E5:Ext G4 G5)(hlt:∀b,o2=some b->G4.n<=b/\b<G5.n)(hc:G4.f c= .row true 29 (l.flatMap ah++ah q))(hc0:h.n<=c)(hc1:c<G4.n):
  Ext h (bY G5 o2 (.row true 3 (p.flatMap ab++ab (-1))))/\(bY G5 o2 (.row true 3 (p.flatMap ab++ab (-1)))).f c= .row true 29 (l.flatMap ah++ah q)/\
  (bY G5 o2 (.row true 3 (p.flatMap ab++ab (-1)))).f G5.n= .row true 3 (p.flatMap ab++ab (-1))/\h.n<=c/\h.n<=G5.n/\c<G5.n+1:=by
 have n4:=E4.n;have n5:=E5.n;refine⟨(E4.trans E5).app (λb hb=>?_) _,?_,mr _ _ _,hc0,by omega,by omega⟩
 .have:=hlt b hb;omega
 .rw[qS _ _ _ (by omega) (λz=>by have:=(hlt c z).1;omega),E5.f _ hc1,hc]
def fN{G G':aa}{b:Nat}{c:aW}(F:G.f b=c/\b<G.n)(E:Ext G G'):G'.f b=c/\b<G'.n:=⟨by rw[E.f b F.2];exact F.1,cV F.2 E.n⟩
def fO(G:aa)(c:aW):(G.new c).f G.n=c/\G.n<(G.new c).n:=⟨by simp,by simp⟩
def lj{G:aa}{b:Nat}{c c':aW}{o:Option Nat}(F:G.f b=c'/\b<G.n)(ho:o≠some b):(bY G o c).f b=c'/\b<(bY G o c).n:=⟨by rw[qS _ _ _ F.2 ho];exact F.1,by rw[cW];omega⟩
def pN{h G:aa}{l:List aQ}{p:List Int}{q:aQ}{c d:Nat}(T:Fr)(x:b8)(H:Ext h G/\G.f c= .row true 29 (l.flatMap ah++ah q)/\G.f d= .row true 3 (p.flatMap ab++ab (-1))/\h.n<=c/\h.n<=d/\c<d+1)(hd:d<G.n)
  (h6:T.get 6=some (.slice (some ⟨c,0,none⟩) (l.length+1) (l.length+1))) (h7:T.get 7=some (.slice (some ⟨d,0,none⟩) (p.length+1) (p.length+1))):CI h l p q ⟨T,⟨x,G⟩⟩:=
 ⟨H.1,c,d,h6,h7,H.2.1,H.2.2.1,H.2.2.2.1,H.2.2.2.2.1,by have:=H.2.2.2.2.2;show c<G.n;omega,hd⟩
def aom(l:List aQ)(p:List Int)(q:aQ)(lv pv:Value)(hl:l.length<=1048576)(hp:p.length<=1048576)(h:aa)(Hl:mT h lv l)(Hp:a8 h pv p):
  al PP 150 [lv,pv,du q] h (λr h'=>Ext h h'/\∃a b,r= .tuple #[a,b]/\aL 29 ah h' a (l++[q])/\aL 3 ab h' b (p++[-1])):=by
 refine al.jM (post:=λr h'=>Ext h h'/\∃c d:Nat,r= .tuple #[.slice (some ⟨c,0,none⟩) (l.length+1) (l.length+1),.slice (some ⟨d,0,none⟩) (p.length+1) (p.length+1)]/\h'.f c= .row true 29 (l.flatMap ah++ah q)/\h'.f d= .row true 3 (p.flatMap ab++ab (-1))/\h.n<=c/\h.n<=d/\c<h'.n/\d<h'.n) ?_ (λv h' ⟨E,c,d,hv,h1,h2,n1,n2,m1,m2⟩=>by
  have hcd:¬d=c:=by intro e;rw[e,h1]at h2;cases h2
  refine⟨(h'.dG c).dG d,(h'.pX c).trans ((h'.dG c).pX d),(E.dG n1).dG n2,_,_,hv,?_,?_⟩
  .refine⟨_,l.length+1,by simp,λz=>(by cases z),.inr ⟨c,0,l.flatMap ah++ah q,[],rfl,?_,by simp,by simp,m1⟩⟩;unfold aa.dG;simp[hcd,show¬c=d from λe=>hcd e.symm,h1,aW.dG]
  .refine⟨_,p.length+1,by simp,λz=>(by cases z),.inr ⟨d,0,p.flatMap ab++ab (-1),[],rfl,?_,by simp,by simp,m2⟩⟩;unfold aa.dG;simp[hcd,h2,aW.dG])
 refine aC Tryz.func150 afr ?_;simp only[aA,Tryz.f150];have hc1:=λG(E:Ext h G)=>XL lv l (by omega) G (Hl.ext E);have hc2:=λG(E:Ext h G)=>Ad pv p (by omega) G (Hp.ext E);obtain⟨ad,c,rfl⟩:=Hp.shape;obtain⟨ad2,c2,rfl⟩:=Hl.shape;have hr1:List.range 1=[0]:=rfl;have hr2:List.range 2=[0,1]:=rfl;simp -implicitDefEqProofs[du,ah];refine vy (CI h l p q) ?_ ?_
 .rw[iU,iU,iU,iU,iU,iU,iU,iU,iU,iU,tY];refine⟨?_,?_,?_,?_,?_,?_,?_,?_,?_,?_,trivial⟩
  .simp -implicitDefEqProofs[aF,aM,hr1,hr2];refine(hc1 _ (Ext.bJ h)).mono ?_;rintro v1 H1 ⟨E1,W1⟩;obtain⟨o1,W1⟩:=Ow.iN W1;obtain⟨rfl,_⟩:=id W1;have F1:=(Ext.bJ h).trans E1;have D1:=W1.lt;have W1k2:=W1.ext (Ext.new H1 (.row true 29 (ah q)));have Ra:=fO H1 (.row true 29 (ah q));have ERa:=Ext.bI F1 (.row true 29 (ah q));have hA:=fM k9 W1k2 q _ Ra.1 (by omega);simp only[ah,V.ab]at hA;have W1e:=W1k2.lt;have E4:Ext h (bY (H1.new (.row true 29 (ah q))) o1 (.row true 29 (l.flatMap ah++ah q))):=Ext.app ERa (λb z=>⟨by have:=W1.lt b z;have:=(ERa).n;simp[eu]at * <;>omega,(W1e b z).2⟩) _;have c0:h.n<=(H1.new (.row true 29 (ah q))).n:=(ERa).n;have c1:(H1.new (.row true 29 (ah q))).n<(bY (H1.new (.row true 29 (ah q))) o1 (.row true 29 (l.flatMap ah++ah q))).n:=(by rw[cW];omega);have c2:=mr (H1.new (.row true 29 (ah q))) o1 (.row true 29 (l.flatMap ah++ah q));have E4o:=Ext.bJ (bY (H1.new (.row true 29 (ah q))) o1 (.row true 29 (l.flatMap ah++ah q)));simp -implicitDefEqProofs[aF,aM,hr1,hr2,hA];intro _;refine(hc2 _ E4).mono ?_;rintro v2 H2 ⟨E2,W2⟩;obtain⟨o2,W2⟩:=Ow.iN W2;obtain⟨rfl,_⟩:=id W2;have E4k3:=E4o.trans E2;have F2:=E4.trans E2;have D2:=W2.lt;have W2k4:=W2.ext (Ext.new H2 (.row true 3 (ab (-1))));have E4k4:=E4k3.trans (Ext.new H2 (.row true 3 (ab (-1))));have Rb:=fO H2 (.row true 3 (ab (-1)));have ERb:=Ext.bI F2 (.row true 3 (ab (-1)));have hB:=fM lf W2k4 (-1) _ Rb.1 (by omega);simp only[ah,V.ab]at hB;have W2e:=W2k4.lt;have T:=pM (o2:=o2) E4 E4k4 (λb z=>⟨by have:=W2.lt b z;simp[eu]at * <;>omega,(W2e b z).2⟩) c2 c0 c1 (p:=p);simp -implicitDefEqProofs[aF,aM,hr1,hr2,hB];intro _;exact pN _ _ T (by simp[cW]) (by simp[cW]) (by simp[cW])
  .simp -implicitDefEqProofs[aF,aM,hr1,hr2];refine(hc1 _ (Ext.bJ h)).mono ?_;rintro v1 H1 ⟨E1,W1⟩;obtain⟨o1,W1⟩:=Ow.iN W1;obtain⟨rfl,_⟩:=id W1;have F1:=(Ext.bJ h).trans E1;have D1:=W1.lt;have W1k2:=W1.ext (Ext.new H1 (.row true 29 (ah q)));have Ra:=fO H1 (.row true 29 (ah q));have ERa:=Ext.bI F1 (.row true 29 (ah q));have hA:=fM k9 W1k2 q _ Ra.1 (by omega);simp only[ah,V.ab]at hA;have W1e:=W1k2.lt;have E4:Ext h (bY (H1.new (.row true 29 (ah q))) o1 (.row true 29 (l.flatMap ah++ah q))):=Ext.app ERa (λb z=>⟨by have:=W1.lt b z;have:=(ERa).n;simp[eu]at * <;>omega,(W1e b z).2⟩) _;have c0:h.n<=(H1.new (.row true 29 (ah q))).n:=(ERa).n;have c1:(H1.new (.row true 29 (ah q))).n<(bY (H1.new (.row true 29 (ah q))) o1 (.row true 29 (l.flatMap ah++ah q))).n:=(by rw[cW];omega);have c2:=mr (H1.new (.row true 29 (ah q))) o1 (.row true 29 (l.flatMap ah++ah q));have E4o:=Ext.bJ (bY (H1.new (.row true 29 (ah q))) o1 (.row true 29 (l.flatMap ah++ah q)));have E4k3:=E4o.trans (Ext.new (bY (H1.new (.row true 29 (ah q))) o1 (.row true 29 (l.flatMap ah++ah q))) (.row true 3 (ab (-1))));have Rb:=fO (bY (H1.new (.row true 29 (ah q))) o1 (.row true 29 (l.flatMap ah++ah q))) (.row true 3 (ab (-1)));have ERb:=Ext.bI E4 (.row true 3 (ab (-1)));simp -implicitDefEqProofs[aF,aM,hr1,hr2,hA];intro _;refine(hc2 _ ERb).mono ?_;rintro v2 H2 ⟨E2,W2⟩;obtain⟨o2,W2⟩:=Ow.iN W2;obtain⟨rfl,_⟩:=id W2;have Rbk4:=fN Rb E2;have E4k4:=E4k3.trans E2;have F2:=ERb.trans E2;have D2:=W2.lt;have hB:=fM lf W2 (-1) _ Rbk4.1 (by omega);simp only[ah,V.ab]at hB;have W2e:=W2.lt;have T:=pM (o2:=o2) E4 E4k4 (λb z=>⟨by have:=W2.lt b z;simp[eu]at * <;>omega,(W2e b z).2⟩) c2 c0 c1 (p:=p);simp -implicitDefEqProofs[aF,aM,hr1,hr2,hB];intro _;exact pN _ _ T (by simp[cW]) (by simp[cW]) (by simp[cW])
  .simp -implicitDefEqProofs[aF,aM,hr1,hr2];refine(hc1 _ (Ext.bJ h)).mono ?_;rintro v1 H1 ⟨E1,W1⟩;obtain⟨o1,W1⟩:=Ow.iN W1;obtain⟨rfl,_⟩:=id W1;have F1:=(Ext.bJ h).trans E1;have D1:=W1.lt;have W1k2:=W1.ext (Ext.new H1 (.row true 29 (ah q)));have Ra:=fO H1 (.row true 29 (ah q));have ERa:=Ext.bI F1 (.row true 29 (ah q));have W1k3:=W1k2.ext (Ext.new (H1.new (.row true 29 (ah q))) (.row true 3 (ab (-1))));have Rak3:=fN Ra (Ext.new (H1.new (.row true 29 (ah q))) (.row true 3 (ab (-1))));have Rb:=fO (H1.new (.row true 29 (ah q))) (.row true 3 (ab (-1)));have ERb:=Ext.bI ERa (.row true 3 (ab (-1)));have hA:=fM k9 W1k3 q _ Rak3.1 (by omega);simp only[ah,V.ab]at hA;have W1e:=W1k3.lt;have Rb4:=lj (o:=o1) (c:=(.row true 29 (l.flatMap ah++ah q))) Rb (λz=>by have:=W1.lt _ z;have:=W1e _ z;have:=Rb.2;simp[eu]at * <;>omega);have E4:Ext h (bY ((H1.new (.row true 29 (ah q))).new (.row true 3 (ab (-1)))) o1 (.row true 29 (l.flatMap ah++ah q))):=Ext.app ERb (λb z=>⟨by have:=W1.lt b z;have:=(ERb).n;simp[eu]at * <;>omega,(W1e b z).2⟩) _;have c0:h.n<=((H1.new (.row true 29 (ah q))).new (.row true 3 (ab (-1)))).n:=(ERb).n;have c1:((H1.new (.row true 29 (ah q))).new (.row true 3 (ab (-1)))).n<(bY ((H1.new (.row true 29 (ah q))).new (.row true 3 (ab (-1)))) o1 (.row true 29 (l.flatMap ah++ah q))).n:=(by rw[cW];omega);have c2:=mr ((H1.new (.row true 29 (ah q))).new (.row true 3 (ab (-1)))) o1 (.row true 29 (l.flatMap ah++ah q));have E4o:=Ext.bJ (bY ((H1.new (.row true 29 (ah q))).new (.row true 3 (ab (-1)))) o1 (.row true 29 (l.flatMap ah++ah q)));simp -implicitDefEqProofs[aF,aM,hr1,hr2,hA];intro _;refine(hc2 _ E4).mono ?_;rintro v2 H2 ⟨E2,W2⟩;obtain⟨o2,W2⟩:=Ow.iN W2;obtain⟨rfl,_⟩:=id W2;have Rbk4:=fN Rb4 E2;have E4k4:=E4o.trans E2;have F2:=E4.trans E2;have D2:=W2.lt;have hB:=fM lf W2 (-1) _ Rbk4.1 (by omega);simp only[ah,V.ab]at hB;have W2e:=W2.lt;have T:=pM (o2:=o2) E4 E4k4 (λb z=>⟨by have:=W2.lt b z;simp[eu]at * <;>omega,(W2e b z).2⟩) c2 c0 c1 (p:=p);simp -implicitDefEqProofs[aF,aM,hr1,hr2,hB];intro _;exact pN _ _ T (by simp[cW]) (by simp[cW]) (by simp[cW])
  .simp -implicitDefEqProofs[aF,aM,hr1,hr2];refine(hc1 _ (Ext.bJ h)).mono ?_;rintro v1 H1 ⟨E1,W1⟩;obtain⟨o1,W1⟩:=Ow.iN W1;obtain⟨rfl,_⟩:=id W1;have F1:=(Ext.bJ h).trans E1;have D1:=W1.lt;have W1k2:=W1.ext (Ext.new H1 (.row true 3 (ab (-1))));have Rb:=fO H1 (.row true 3 (ab (-1)));have ERb:=Ext.bI F1 (.row true 3 (ab (-1)));have W1k3:=W1k2.ext (Ext.new (H1.new (.row true 3 (ab (-1)))) (.row true 29 (ah q)));have Rbk3:=fN Rb (Ext.new (H1.new (.row true 3 (ab (-1)))) (.row true 29 (ah q)));have Ra:=fO (H1.new (.row true 3 (ab (-1)))) (.row true 29 (ah q));have ERa:=Ext.bI ERb (.row true 29 (ah q));have hA:=fM k9 W1k3 q _ Ra.1 (by omega);simp only[ah,V.ab]at hA;have W1e:=W1k3.lt;have Rb4:=lj (o:=o1) (c:=(.row true 29 (l.flatMap ah++ah q))) Rbk3 (λz=>by have:=W1.lt _ z;have:=W1e _ z;have:=Rbk3.2;simp[eu]at * <;>omega);have E4:Ext h (bY ((H1.new (.row true 3 (ab (-1)))).new (.row true 29 (ah q))) o1 (.row true 29 (l.flatMap ah++ah q))):=Ext.app ERa (λb z=>⟨by have:=W1.lt b z;have:=(ERa).n;simp[eu]at * <;>omega,(W1e b z).2⟩) _;have c0:h.n<=((H1.new (.row true 3 (ab (-1)))).new (.row true 29 (ah q))).n:=(ERa).n;have c1:((H1.new (.row true 3 (ab (-1)))).new (.row true 29 (ah q))).n<(bY ((H1.new (.row true 3 (ab (-1)))).new (.row true 29 (ah q))) o1 (.row true 29 (l.flatMap ah++ah q))).n:=(by rw[cW];omega);have c2:=mr ((H1.new (.row true 3 (ab (-1)))).new (.row true 29 (ah q))) o1 (.row true 29 (l.flatMap ah++ah q));have E4o:=Ext.bJ (bY ((H1.new (.row true 3 (ab (-1)))).new (.row true 29 (ah q))) o1 (.row true 29 (l.flatMap ah++ah q)));simp -implicitDefEqProofs[aF,aM,hr1,hr2,hA];intro _;refine(hc2 _ E4).mono ?_;rintro v2 H2 ⟨E2,W2⟩;obtain⟨o2,W2⟩:=Ow.iN W2;obtain⟨rfl,_⟩:=id W2;have Rbk4:=fN Rb4 E2;have E4k4:=E4o.trans E2;have F2:=E4.trans E2;have D2:=W2.lt;have hB:=fM lf W2 (-1) _ Rbk4.1 (by omega);simp only[ah,V.ab]at hB;have W2e:=W2.lt;have T:=pM (o2:=o2) E4 E4k4 (λb z=>⟨by have:=W2.lt b z;simp[eu]at * <;>omega,(W2e b z).2⟩) c2 c0 c1 (p:=p);simp -implicitDefEqProofs[aF,aM,hr1,hr2,hB];intro _;exact pN _ _ T (by simp[cW]) (by simp[cW]) (by simp[cW])
  .have Ra:=fO h (.row true 29 (ah q));have ERa:=Ext.bI (Ext.bJ h) (.row true 29 (ah q));simp -implicitDefEqProofs[aF,aM,hr1,hr2];refine(hc1 _ ERa).mono ?_;rintro v1 H1 ⟨E1,W1⟩;obtain⟨o1,W1⟩:=Ow.iN W1;obtain⟨rfl,_⟩:=id W1;have Rak2:=fN Ra E1;have F1:=ERa.trans E1;have D1:=W1.lt;have hA:=fM k9 W1 q _ Rak2.1 (by omega);simp only[ah,V.ab]at hA;have W1e:=W1.lt;have E4:Ext h (bY H1 o1 (.row true 29 (l.flatMap ah++ah q))):=Ext.app F1 (λb z=>⟨by have:=W1.lt b z;have:=(F1).n;simp[eu]at * <;>omega,(W1e b z).2⟩) _;have c0:h.n<=H1.n:=(F1).n;have c1:H1.n<(bY H1 o1 (.row true 29 (l.flatMap ah++ah q))).n:=(by rw[cW];omega);have c2:=mr H1 o1 (.row true 29 (l.flatMap ah++ah q));have E4o:=Ext.bJ (bY H1 o1 (.row true 29 (l.flatMap ah++ah q)));simp -implicitDefEqProofs[aF,aM,hr1,hr2,hA];intro _;refine(hc2 _ E4).mono ?_;rintro v2 H2 ⟨E2,W2⟩;obtain⟨o2,W2⟩:=Ow.iN W2;obtain⟨rfl,_⟩:=id W2;have E4k3:=E4o.trans E2;have F2:=E4.trans E2;have D2:=W2.lt;have W2k4:=W2.ext (Ext.new H2 (.row true 3 (ab (-1))));have E4k4:=E4k3.trans (Ext.new H2 (.row true 3 (ab (-1))));have Rb:=fO H2 (.row true 3 (ab (-1)));have ERb:=Ext.bI F2 (.row true 3 (ab (-1)));have hB:=fM lf W2k4 (-1) _ Rb.1 (by omega);simp only[ah,V.ab]at hB;have W2e:=W2k4.lt;have T:=pM (o2:=o2) E4 E4k4 (λb z=>⟨by have:=W2.lt b z;simp[eu]at * <;>omega,(W2e b z).2⟩) c2 c0 c1 (p:=p);simp -implicitDefEqProofs[aF,aM,hr1,hr2,hB];intro _;exact pN _ _ T (by simp[cW]) (by simp[cW]) (by simp[cW])
  .have Ra:=fO h (.row true 29 (ah q));have ERa:=Ext.bI (Ext.bJ h) (.row true 29 (ah q));simp -implicitDefEqProofs[aF,aM,hr1,hr2];refine(hc1 _ ERa).mono ?_;rintro v1 H1 ⟨E1,W1⟩;obtain⟨o1,W1⟩:=Ow.iN W1;obtain⟨rfl,_⟩:=id W1;have Rak2:=fN Ra E1;have F1:=ERa.trans E1;have D1:=W1.lt;have hA:=fM k9 W1 q _ Rak2.1 (by omega);simp only[ah,V.ab]at hA;have W1e:=W1.lt;have E4:Ext h (bY H1 o1 (.row true 29 (l.flatMap ah++ah q))):=Ext.app F1 (λb z=>⟨by have:=W1.lt b z;have:=(F1).n;simp[eu]at * <;>omega,(W1e b z).2⟩) _;have c0:h.n<=H1.n:=(F1).n;have c1:H1.n<(bY H1 o1 (.row true 29 (l.flatMap ah++ah q))).n:=(by rw[cW];omega);have c2:=mr H1 o1 (.row true 29 (l.flatMap ah++ah q));have E4o:=Ext.bJ (bY H1 o1 (.row true 29 (l.flatMap ah++ah q)));have E4k3:=E4o.trans (Ext.new (bY H1 o1 (.row true 29 (l.flatMap ah++ah q))) (.row true 3 (ab (-1))));have Rb:=fO (bY H1 o1 (.row true 29 (l.flatMap ah++ah q))) (.row true 3 (ab (-1)));have ERb:=Ext.bI E4 (.row true 3 (ab (-1)));simp -implicitDefEqProofs[aF,aM,hr1,hr2,hA];intro _;refine(hc2 _ ERb).mono ?_;rintro v2 H2 ⟨E2,W2⟩;obtain⟨o2,W2⟩:=Ow.iN W2;obtain⟨rfl,_⟩:=id W2;have Rbk4:=fN Rb E2;have E4k4:=E4k3.trans E2;have F2:=ERb.trans E2;have D2:=W2.lt;have hB:=fM lf W2 (-1) _ Rbk4.1 (by omega);simp only[ah,V.ab]at hB;have W2e:=W2.lt;have T:=pM (o2:=o2) E4 E4k4 (λb z=>⟨by have:=W2.lt b z;simp[eu]at * <;>omega,(W2e b z).2⟩) c2 c0 c1 (p:=p);simp -implicitDefEqProofs[aF,aM,hr1,hr2,hB];intro _;exact pN _ _ T (by simp[cW]) (by simp[cW]) (by simp[cW])
  .have Ra:=fO h (.row true 29 (ah q));have ERa:=Ext.bI (Ext.bJ h) (.row true 29 (ah q));simp -implicitDefEqProofs[aF,aM,hr1,hr2];refine(hc1 _ ERa).mono ?_;rintro v1 H1 ⟨E1,W1⟩;obtain⟨o1,W1⟩:=Ow.iN W1;obtain⟨rfl,_⟩:=id W1;have Rak2:=fN Ra E1;have F1:=ERa.trans E1;have D1:=W1.lt;have W1k3:=W1.ext (Ext.new H1 (.row true 3 (ab (-1))));have Rak3:=fN Rak2 (Ext.new H1 (.row true 3 (ab (-1))));have Rb:=fO H1 (.row true 3 (ab (-1)));have ERb:=Ext.bI F1 (.row true 3 (ab (-1)));have hA:=fM k9 W1k3 q _ Rak3.1 (by omega);simp only[ah,V.ab]at hA;have W1e:=W1k3.lt;have Rb4:=lj (o:=o1) (c:=(.row true 29 (l.flatMap ah++ah q))) Rb (λz=>by have:=W1.lt _ z;have:=W1e _ z;have:=Rb.2;simp[eu]at * <;>omega);have E4:Ext h (bY (H1.new (.row true 3 (ab (-1)))) o1 (.row true 29 (l.flatMap ah++ah q))):=Ext.app ERb (λb z=>⟨by have:=W1.lt b z;have:=(ERb).n;simp[eu]at * <;>omega,(W1e b z).2⟩) _;have c0:h.n<=(H1.new (.row true 3 (ab (-1)))).n:=(ERb).n;have c1:(H1.new (.row true 3 (ab (-1)))).n<(bY (H1.new (.row true 3 (ab (-1)))) o1 (.row true 29 (l.flatMap ah++ah q))).n:=(by rw[cW];omega);have c2:=mr (H1.new (.row true 3 (ab (-1)))) o1 (.row true 29 (l.flatMap ah++ah q));have E4o:=Ext.bJ (bY (H1.new (.row true 3 (ab (-1)))) o1 (.row true 29 (l.flatMap ah++ah q)));simp -implicitDefEqProofs[aF,aM,hr1,hr2,hA];intro _;refine(hc2 _ E4).mono ?_;rintro v2 H2 ⟨E2,W2⟩;obtain⟨o2,W2⟩:=Ow.iN W2;obtain⟨rfl,_⟩:=id W2;have Rbk4:=fN Rb4 E2;have E4k4:=E4o.trans E2;have F2:=E4.trans E2;have D2:=W2.lt;have hB:=fM lf W2 (-1) _ Rbk4.1 (by omega);simp only[ah,V.ab]at hB;have W2e:=W2.lt;have T:=pM (o2:=o2) E4 E4k4 (λb z=>⟨by have:=W2.lt b z;simp[eu]at * <;>omega,(W2e b z).2⟩) c2 c0 c1 (p:=p);simp -implicitDefEqProofs[aF,aM,hr1,hr2,hB];intro _;exact pN _ _ T (by simp[cW]) (by simp[cW]) (by simp[cW])
  .have Ra:=fO h (.row true 29 (ah q));have ERa:=Ext.bI (Ext.bJ h) (.row true 29 (ah q));have Rak2:=fN Ra (Ext.new (h.new (.row true 29 (ah q))) (.row true 3 (ab (-1))));have Rb:=fO (h.new (.row true 29 (ah q))) (.row true 3 (ab (-1)));have ERb:=Ext.bI ERa (.row true 3 (ab (-1)));simp -implicitDefEqProofs[aF,aM,hr1,hr2];refine(hc1 _ ERb).mono ?_;rintro v1 H1 ⟨E1,W1⟩;obtain⟨o1,W1⟩:=Ow.iN W1;obtain⟨rfl,_⟩:=id W1;have Rak3:=fN Rak2 E1;have Rbk3:=fN Rb E1;have F1:=ERb.trans E1;have D1:=W1.lt;have hA:=fM k9 W1 q _ Rak3.1 (by omega);simp only[ah,V.ab]at hA;have W1e:=W1.lt;have Rb4:=lj (o:=o1) (c:=(.row true 29 (l.flatMap ah++ah q))) Rbk3 (λz=>by have:=W1.lt _ z;have:=W1e _ z;have:=Rbk3.2;simp[eu]at * <;>omega);have E4:Ext h (bY H1 o1 (.row true 29 (l.flatMap ah++ah q))):=Ext.app F1 (λb z=>⟨by have:=W1.lt b z;have:=(F1).n;simp[eu]at * <;>omega,(W1e b z).2⟩) _;have c0:h.n<=H1.n:=(F1).n;have c1:H1.n<(bY H1 o1 (.row true 29 (l.flatMap ah++ah q))).n:=(by rw[cW];omega);have c2:=mr H1 o1 (.row true 29 (l.flatMap ah++ah q));have E4o:=Ext.bJ (bY H1 o1 (.row true 29 (l.flatMap ah++ah q)));simp -implicitDefEqProofs[aF,aM,hr1,hr2,hA];intro _;refine(hc2 _ E4).mono ?_;rintro v2 H2 ⟨E2,W2⟩;obtain⟨o2,W2⟩:=Ow.iN W2;obtain⟨rfl,_⟩:=id W2;have Rbk4:=fN Rb4 E2;have E4k4:=E4o.trans E2;have F2:=E4.trans E2;have D2:=W2.lt;have hB:=fM lf W2 (-1) _ Rbk4.1 (by omega);simp only[ah,V.ab]at hB;have W2e:=W2.lt;have T:=pM (o2:=o2) E4 E4k4 (λb z=>⟨by have:=W2.lt b z;simp[eu]at * <;>omega,(W2e b z).2⟩) c2 c0 c1 (p:=p);simp -implicitDefEqProofs[aF,aM,hr1,hr2,hB];intro _;exact pN _ _ T (by simp[cW]) (by simp[cW]) (by simp[cW])
  .have Rb:=fO h (.row true 3 (ab (-1)));have ERb:=Ext.bI (Ext.bJ h) (.row true 3 (ab (-1)));simp -implicitDefEqProofs[aF,aM,hr1,hr2];refine(hc1 _ ERb).mono ?_;rintro v1 H1 ⟨E1,W1⟩;obtain⟨o1,W1⟩:=Ow.iN W1;obtain⟨rfl,_⟩:=id W1;have Rbk2:=fN Rb E1;have F1:=ERb.trans E1;have D1:=W1.lt;have W1k3:=W1.ext (Ext.new H1 (.row true 29 (ah q)));have Rbk3:=fN Rbk2 (Ext.new H1 (.row true 29 (ah q)));have Ra:=fO H1 (.row true 29 (ah q));have ERa:=Ext.bI F1 (.row true 29 (ah q));have hA:=fM k9 W1k3 q _ Ra.1 (by omega);simp only[ah,V.ab]at hA;have W1e:=W1k3.lt;have Rb4:=lj (o:=o1) (c:=(.row true 29 (l.flatMap ah++ah q))) Rbk3 (λz=>by have:=W1.lt _ z;have:=W1e _ z;have:=Rbk3.2;simp[eu]at * <;>omega);have E4:Ext h (bY (H1.new (.row true 29 (ah q))) o1 (.row true 29 (l.flatMap ah++ah q))):=Ext.app ERa (λb z=>⟨by have:=W1.lt b z;have:=(ERa).n;simp[eu]at * <;>omega,(W1e b z).2⟩) _;have c0:h.n<=(H1.new (.row true 29 (ah q))).n:=(ERa).n;have c1:(H1.new (.row true 29 (ah q))).n<(bY (H1.new (.row true 29 (ah q))) o1 (.row true 29 (l.flatMap ah++ah q))).n:=(by rw[cW];omega);have c2:=mr (H1.new (.row true 29 (ah q))) o1 (.row true 29 (l.flatMap ah++ah q));have E4o:=Ext.bJ (bY (H1.new (.row true 29 (ah q))) o1 (.row true 29 (l.flatMap ah++ah q)));simp -implicitDefEqProofs[aF,aM,hr1,hr2,hA];intro _;refine(hc2 _ E4).mono ?_;rintro v2 H2 ⟨E2,W2⟩;obtain⟨o2,W2⟩:=Ow.iN W2;obtain⟨rfl,_⟩:=id W2;have Rbk4:=fN Rb4 E2;have E4k4:=E4o.trans E2;have F2:=E4.trans E2;have D2:=W2.lt;have hB:=fM lf W2 (-1) _ Rbk4.1 (by omega);simp only[ah,V.ab]at hB;have W2e:=W2.lt;have T:=pM (o2:=o2) E4 E4k4 (λb z=>⟨by have:=W2.lt b z;simp[eu]at * <;>omega,(W2e b z).2⟩) c2 c0 c1 (p:=p);simp -implicitDefEqProofs[aF,aM,hr1,hr2,hB];intro _;exact pN _ _ T (by simp[cW]) (by simp[cW]) (by simp[cW])
  .have Rb:=fO h (.row true 3 (ab (-1)));have ERb:=Ext.bI (Ext.bJ h) (.row true 3 (ab (-1)));have Rbk2:=fN Rb (Ext.new (h.new (.row true 3 (ab (-1)))) (.row true 29 (ah q)));have Ra:=fO (h.new (.row true 3 (ab (-1)))) (.row true 29 (ah q));have ERa:=Ext.bI ERb (.row true 29 (ah q));simp -implicitDefEqProofs[aF,aM,hr1,hr2];refine(hc1 _ ERa).mono ?_;rintro v1 H1 ⟨E1,W1⟩;obtain⟨o1,W1⟩:=Ow.iN W1;obtain⟨rfl,_⟩:=id W1;have Rak3:=fN Ra E1;have Rbk3:=fN Rbk2 E1;have F1:=ERa.trans E1;have D1:=W1.lt;have hA:=fM k9 W1 q _ Rak3.1 (by omega);simp only[ah,V.ab]at hA;have W1e:=W1.lt;have Rb4:=lj (o:=o1) (c:=(.row true 29 (l.flatMap ah++ah q))) Rbk3 (λz=>by have:=W1.lt _ z;have:=W1e _ z;have:=Rbk3.2;simp[eu]at * <;>omega);have E4:Ext h (bY H1 o1 (.row true 29 (l.flatMap ah++ah q))):=Ext.app F1 (λb z=>⟨by have:=W1.lt b z;have:=(F1).n;simp[eu]at * <;>omega,(W1e b z).2⟩) _;have c0:h.n<=H1.n:=(F1).n;have c1:H1.n<(bY H1 o1 (.row true 29 (l.flatMap ah++ah q))).n:=(by rw[cW];omega);have c2:=mr H1 o1 (.row true 29 (l.flatMap ah++ah q));have E4o:=Ext.bJ (bY H1 o1 (.row true 29 (l.flatMap ah++ah q)));simp -implicitDefEqProofs[aF,aM,hr1,hr2,hA];intro _;refine(hc2 _ E4).mono ?_;rintro v2 H2 ⟨E2,W2⟩;obtain⟨o2,W2⟩:=Ow.iN W2;obtain⟨rfl,_⟩:=id W2;have Rbk4:=fN Rb4 E2;have E4k4:=E4o.trans E2;have F2:=E4.trans E2;have D2:=W2.lt;have hB:=fM lf W2 (-1) _ Rbk4.1 (by omega);simp only[ah,V.ab]at hB;have W2e:=W2.lt;have T:=pM (o2:=o2) E4 E4k4 (λb z=>⟨by have:=W2.lt b z;simp[eu]at * <;>omega,(W2e b z).2⟩) c2 c0 c1 (p:=p);simp -implicitDefEqProofs[aF,aM,hr1,hr2,hB];intro _;exact pN _ _ T (by simp[cW]) (by simp[cW]) (by simp[cW])
 .rintro⟨T,⟨x,G⟩⟩ ⟨E,c,d,g6,g7,r⟩;simp at E g6 g7 r;simp -implicitDefEqProofs[g6,g7];exact⟨E,c,d,⟨rfl,rfl⟩,r⟩
def uO(p q:List Int)(k:Nat):Bool:=decide (p.getD k 0≠q.getD k 0)
def nH(p q:List Int)(i:Nat):List Int:=((List.range i).filter (uO p q)).map λk:Nat=>(k:Int)
def acg(p q:List Int)(i:Nat):nH p q (i+1)=if uO p q i=true then nH p q i++[(i:Int)]else nH p q i:=by
 unfold nH;rw[nX,mo,kX];by_cases z:uO p q i=true
 .simp[z]
 .simp[z]
def ace(p q:List Int)(i:Nat):(nH p q i).length<=i:=by
 unfold nH;rw[cf];have:=List.length_filter_le (uO p q) (List.range i);rwa[pP]at this
def To(h:aa)(v1 v2:Value)(p q:List Int)(m n:Nat)(σ:St):Prop:=∃(i:Nat)(o:Option Nat)(w:Value),n=m-i/\i<=m/\Ext h σ.m.h/\Ow 3 ab h σ.m.h o (nH p q i) w/\
 σ.t.get 0=some v1/\σ.t.get 1=some v2/\σ.t.get 5=some w/\σ.t.get 11=some (.int .i64 (m:Nat))/\σ.t.get 12=some (.int .i64 (i:Nat))
def ach(p q:List Int)(v1 v2:Value)(hp:p.length<=1073741824)(hq:q.length<=1073741824)(h:aa)(H1:a8 h v1 p)(H2:a8 h v2 q):
  al PP 114 [v1,v2] h (λr h'=>Ext h h'/\aL 3 ab h' r (nH p q (min p.length q.length))):=by
 refine al.jM (post:=λv' h'=>Ext h h'/\cO 3 ab h h' v' (nH p q (min p.length q.length))) ?_ (λv h' ⟨E,W⟩=>by
  obtain⟨h'',w,E',S⟩:=W.dG E;exact⟨h'',w,E',S⟩)
 refine aC Tryz.func114 aeT ?_;simp only[aA,Tryz.f114];obtain⟨ad1,c1,rfl⟩:=H1.shape;obtain⟨ad2,c2,rfl⟩:=H2.shape;have hr1:List.range 1=[0]:=rfl;obtain⟨m,hm⟩:=nm (min p.length q.length);have hm1:m<=p.length:=by omega
 have hm2:m<=q.length:=by omega
 have hmi:min (p.length:Int) (q.length:Int)=(m:Nat):=by omega
 have hmi':(if q.length<p.length then(q.length:Int)else p.length)=(m:Nat):=by split<;>omega
 rw[<-hm];simp -implicitDefEqProofs[hmi'];refine bG (To h (.slice ad1 p.length c1) (.slice ad2 q.length c2) p q m) _ ⟨0,none,_,rfl,by omega,Ext.bJ h,Ow.nil,by simp⟩ ?_;rintro n ⟨T,⟨x,G⟩⟩ ⟨i,o,w,rfl,hi,E,W,g0,g1,g5,g11,g12⟩;simp at E W g0 g1 g5 g11 g12;have hwn:cn w=true:=by rw[W.1];rfl
 simp only[cn,iM,Option.isNone_iff_eq_none]at hwn;simp -implicitDefEqProofs[g0,g1,g5,g11,g12,hwn];refine bR (λhc=>?_) (λhc=>?_)
 .have him:i<m:=by omega
  have w1:=bO (i:=i) (by omega);have hti:p[i]? =some p[i]:=aq (by omega);have hui:q[i]? =some q[i]:=aq (by omega);obtain⟨_,b,o1,w0,cells,r,rfl,hb,hd,hlc,_⟩:=(dt.ext H1 E).at 1 V.dY hti;obtain⟨_,b',o1',w0',cells',r',rfl,hb',hd',hlc',_⟩:=(dt.ext H2 E).at 1 V.dY hui;rw[Nat.mul_one]at hd hd';have hl1:o1+i+1<=cells.length:=by omega
  have hl2:o1'+i+1<=cells'.length:=by omega
  have hip:i<p.length:=by omega
  have hiq:i<q.length:=by omega
  obtain⟨t,ht⟩:=nm p[i];obtain⟨u,hu⟩:=nm q[i];rw[<-ht]at hd hti;rw[<-hu]at hd' hui;have hnk:uO p q i=decide (t≠u):=by unfold uO;rw[bu,hti,bu,hui];rfl
  have hsu:=acg p q i;have hll:=ace p q i;rw[hnk]at hsu;obtain⟨acc,hacc⟩:=nm (nH p q i);rw[<-hacc]at W hsu hll;have hA:=iV ni W (i:Int) (by omega);simp only[ab]at hA;obtain⟨rfl,_⟩:=id W;by_cases z:t=u
  .subst z;simp at hsu;simp -implicitDefEqProofs[g0,g1,g5,g11,g12,him,hip,hiq,hb,hd,hl1,hb',hd',hl2,ab,w1];exact⟨m-(i+1),by omega,i+1,o,_,rfl,by omega,E,by rw[hsu];exact W,by simp⟩
  .simp only[ne_eq,z,not_false_eq_true,decide_true,if_true]at hsu;simp -implicitDefEqProofs[g0,g1,g5,g11,g12,him,hip,hiq,hb,hd,hl1,hb',hd',hl2,ab,w1,z,aM,hr1,hA];refine⟨m-(i+1),by omega,i+1,some (G.n+1),.slice (some ⟨G.n+1,0,none⟩) (acc.length+1) (acc.length+1),rfl,by omega,iZ E W _ _,?_,by simp⟩;rw[hsu];exact Ow.one W E.n _ (i:Int) rfl
 .have e:i=m:=by omega
  subst e;have hfin:=W.own;simp -implicitDefEqProofs[g0,g1,g5,g11,g12,hwn];exact⟨E,hfin⟩
def aji(v:ai)(M:aK v=true)(cs:List Value)(p:aQ)(a:Int)(ha: -4611686018427387904<=a/\a<=4611686018427387904)(h:aa)(H:eC h v cs):
  al PP 151 [.agg ⟨cs⟩,du p,.int .i64 a] h (sc h (cY v (bK v) p a)):=by
 refine aC Tryz.func151 afs ?_;simp only[aA,Tryz.f151];have hh:=KM v M cs h H;have hcl:=H.len;have hct:cs.take 5=cs:=b9 (by omega);have HM:tN v (bK v):=by
  have F:=jF M;have:=F.len;exact⟨F,by rw[zq M];omega⟩
 simp -implicitDefEqProofs[du,ah,hcl,hct];refine hh.mono ?_;rintro r G ⟨E,hc,HF,rfl⟩;have hlen:hc.length=6:=by
  obtain⟨vc,uv,rfl,hv,hu⟩:=HF;rw[bH,hv.len];rfl
 have hone:hc.all cL=true:=by
  obtain⟨vc,uv,rfl,hv,hu⟩:=HF;obtain⟨ad,c,rfl⟩:=hu.shape;rw[List.all_append,hv.one];rfl
 have htk:hc.take 6=hc:=b9 (by omega);have hs:=yd v (bK v) HM hc p a ha G HF;simp only[du,ah]at hs;simp -implicitDefEqProofs[aF,hlen,hone,htk];intro _;refine hs.mono ?_;unfold sc;obtain⟨R,hR⟩:=nm (cY v (bK v) p a);rw[<-hR];cases R with
 |none=>
  rintro r G2 ⟨E2,rfl⟩;simp -implicitDefEqProofs[aF];intro _;exact E.trans E2
 |some L=>
  rintro r G2 ⟨E2,sv,hsv,rfl⟩;obtain⟨ad,c,rfl⟩:=hsv.shape;simp -implicitDefEqProofs[aF];intro _;exact⟨E.trans E2,hsv⟩
end Go.Proofs.Ybk.K
namespace Go.Proofs.Ybk.T
open Go Go.Am
def cQ(b:Nat):Nat:=if b=32∨b=9∨b=13 then 1 else if b=35 then 2 else if b=10 then 3 else if b=45 then 6 else if 97<=b/\b<=122 then 4 else if 48<=b/\b<=57 then 5 else 0
def oy(b:UInt8)(h:aa):al PP 213 [.int .u8 b.toNat] h (λv h'=>h'=h/\v= .int .i64 (cQ b.toNat)):=by
 refine aC Tryz.func213 agi ?_;simp only[aA,Tryz.f213];generalize b.toNat=n;simp[vH,vY];repeat' first
  |(refine jk (λhc=>?_) (λhc=>?_)<;>simp only[de,lP]at hc<;>simp[vH,vY,hc])
  |(refine AK (λhc=>?_) (λhc=>?_)<;>simp only[de,lP]at hc<;>simp[vH,vY,hc])
 all_goals (simp only[cQ];(repeat' split)<;>omega)
def eU(k:Nat):List UInt8->Nat
 |[]=>0
 |c::r=>if cQ c.toNat=k then eU k r+1 else 0
def akc{k a:Nat}{l:List UInt8}{c:UInt8}(hc:l[a]? =some c):eU k (l.drop a)=if cQ c.toNat=k then eU k (l.drop (a+1))+1 else 0:=by
 rw[cP]at hc;obtain⟨ha,hc⟩:=hc;rw[gQ ha,hc,eU]
def akd{k a:Nat}{l:List UInt8}(h:¬a<l.length):eU k (l.drop a)=0:=by
 rw[List.drop_eq_nil_of_le (by omega),eU]
def TO(l:List UInt8)(a k:Nat)(h:aa)(n:Nat)(σ:St):Prop:=∃b,n=l.length-b/\σ.t.get 0=some (.string (B l))/\σ.t.get 1=some (.int .i64 (b:Nat))/\σ.t.get 2=some (.int .i64 k)/\σ.m.h=h/\b+eU k (l.drop b)=a+eU k (l.drop a)
def za(l:List UInt8)(a k:Nat)(hl:l.length<=1073741824)(h:aa):al PP 214 [.string (B l),.int .i64 a,.int .i64 k] h (λv h'=>h'=h/\v= .int .i64 ((a+eU k (l.drop a):Nat):Int)):=by
 refine aC Tryz.func214 agj ?_;simp only[aA,Tryz.f214];simp;refine bG (TO l a k h) _ ⟨a,rfl,by simp,by simp,by simp,rfl,rfl⟩ ?_;rintro n ⟨t,⟨x,h'⟩⟩ ⟨b,rfl,h0,h1,h2,rfl,hr⟩;simp at h0 h1 h2;simp[h0,h1,h2];refine AK (λhc=>?_) (λhc=>?_)<;>simp only[de,lP]at hc
 .have hb:b<l.length:=by omega
  have hc':l[b]? =some l[b]:=aq hb;simp[h0,h1,h2,hc,hc'];refine cE (oy _ _) ?_;simp[h0,h1,h2,hc,hc',af];intro _;have hr':=akc (k:=k) hc';refine bR (λhk=>?_) (λhk=>?_)
  .rw[if_pos (by omega)]at hr';have hw:=bO (i:=b) (by omega);simp[hw];exact⟨l.length-(b+1),by omega,b+1,by omega,by simp[h0],by simp,by simp[h2],rfl,by omega⟩
  .rw[if_neg (by omega)]at hr';simp;omega
 .have hr':=akd (k:=k) (a:=b) (l:=l) (by omega);simp[h0,h1,h2,hc];omega
def dL:Bool->List UInt8->Nat
 |_,[]=>0
 |true,c::r=>if c.toNat=10 then 0 else dL true r+1
 |false,c::r=>if cQ c.toNat=1 then dL false r+1 else if cQ c.toNat=2 then dL true r+1 else 0
def uo{a:Nat}{l:List UInt8}{c:UInt8}(hc:l[a]? =some c):l.drop a=c::l.drop (a+1):=by
 rw[cP]at hc;obtain⟨ha,hc⟩:=hc;rw[gQ ha,hc]
def xL{a:Nat}{l:List UInt8}(h:¬a<l.length):l.drop a=[]:=List.drop_eq_nil_of_le (by omega)
def aa5{b:Nat}:cQ b=2↔b=35:=by simp only[cQ];(repeat' split)<;>omega
def xj(l:List UInt8)(a:Nat)(h:aa)(n:Nat)(σ:St):Prop:=∃b,n=l.length-b/\σ.t.get 0=some (.string (B l))/\σ.t.get 1=some (.int .i64 (b:Nat))/\σ.m.h=h/\b+dL false (l.drop b)=a+dL false (l.drop a)
def TG(l:List UInt8)(a:Nat)(h:aa)(n:Nat)(σ:St):Prop:=∃b,n=l.length-b/\a<=b/\σ.t.get 0=some (.string (B l))/\σ.t.get 1=some (.int .i64 (b:Nat))/\σ.m.h=h/\b+dL true (l.drop b)=a+dL true (l.drop a)
def akY(l:List UInt8)(a:Nat)(hl:l.length<=1073741824)(h:aa):al PP 211 [.string (B l),.int .i64 a] h (λv h'=>h'=h/\v= .int .i64 ((a+dL false (l.drop a):Nat):Int)):=by
 refine aC Tryz.func211 agf ?_;simp only[aA,Tryz.f211];simp;refine bG (xj l a h) _ ⟨a,rfl,by simp,by simp,rfl,rfl⟩ ?_;rintro n ⟨t,⟨x,h'⟩⟩ ⟨b,rfl,h0,h1,rfl,hr⟩;simp at h0 h1;simp[h0,h1];refine bR (λhc=>?_) (λhc=>?_)
 .have hb:b<l.length:=by omega
  have hc':l[b]? =some l[b]:=aq hb;have hd:=uo hc';simp[h0,h1,hc'];refine(oy _ _).mono ?_;rintro v h'' ⟨rfl,rfl⟩;simp[h0,h1,hc',af];intro _;refine bR (λhk=>?_) (λhk=>?_)
  .have hw:=bO (i:=b) (by omega);simp[hw,h0];rw[hd,dL,if_pos (by omega)]at hr;exact⟨l.length-(b+1),by omega,b+1,by omega,by simp[h0],by simp,rfl,by omega⟩
  .simp[h0];refine bR (λhk2=>?_) (λhk2=>?_)
   .simp;have h35:=aa5.1 (show cQ l[b].toNat=2 by omega);refine bG (TG l b h'') _ ⟨b,rfl,aX _,by simp[h0],by simp,rfl,rfl⟩ ?_;rintro n ⟨t,⟨x,h'⟩⟩ ⟨c,rfl,hbc,h0,h1,rfl,hr2⟩;simp at h0 h1;rw[hd,dL,if_neg (by omega),if_pos (by omega)]at hr;have hr3:dL true (l.drop b)=dL true (l.drop (b+1))+1:=(by rw[hd,dL,if_neg (by omega)]);simp[h0,h1];refine AK (λhq=>?_) (λhq=>?_)<;>simp only[de,lP]at hq
    .have hb':c<l.length:=(by omega);have hc2:l[c]? =some l[c]:=aq hb';have hd2:=uo hc2;simp[h0,h1,hq,hc2];refine jk (λhk4=>?_) (λhk4=>?_)<;>simp at hk4
     .have hw:=bO (i:=c) (by omega);simp[hw];rw[hd2,dL,if_neg (by omega)]at hr2;exact⟨l.length-(c+1),by omega,c+1,by omega,by omega,by simp[h0],by simp,rfl,by omega⟩
     .simp;have hcb:b≠c:=by
       intro e;subst e;omega
      rw[hd2,dL,if_pos (by omega)]at hr2;refine⟨l.length-c,by omega,c,rfl,by simp[h0],by simp,rfl,?_⟩;have:cQ l[c].toNat=3:=(by rw[show l[c].toNat=10 by omega];rfl);rw[hd2,dL,if_neg (by omega),if_neg (by omega)];omega
    .have hr':=xL (a:=c) (l:=l) (by omega);simp[h0,h1,hq];rw[hr',dL]at hr2;refine⟨l.length-c,by omega,c,rfl,by simp[h0],by simp,rfl,?_⟩;rw[hr',dL];omega
   .simp[h0];rw[hd,dL,if_neg (by omega),if_neg (by omega)]at hr;omega
 .have hr':=xL (a:=b) (l:=l) (by omega);rw[hr',dL]at hr;simp[h0,h1];omega
end Go.Proofs.Ybk.T
namespace Go.Proofs.Ybk.T
open Go Go.Am
set_option maxHeartbeats 2000000
@[irreducible] def qU(n d:Nat):Nat:=if 2147483649<n*10+d then 2147483649 else n*10+d
def vF(n d:Nat):qU n d=if 2147483649<n*10+d then 2147483649 else n*10+d:=by unfold qU;rfl
def Ab(n d:Nat):qU n d<=2147483649:=by rw[vF];split<;>omega
def kM(n:Nat):List UInt8->Nat
 |[]=>n
 |c::r=>kM (qU n (c.toNat-48)) r
def uP(n:Nat)(c:UInt8)(r:List UInt8):kM n (c::r)=kM (qU n (c.toNat-48)) r:=by simp only[kM]
def wC(n:Nat):kM n []=n:=by simp only[kM]
def yi{b:Nat}:cQ b=5↔48<=b/\b<=57:=by simp only[cQ];(repeat' split)<;>omega
def acO:∀(l:List UInt8)(n:Nat),n<=2147483649->kM n l<=2147483649:=by
 intro l;induction l with
 |nil=>intro n h;exact h
 |cons c r ih=>intro n h;exact ih _ (Ab _ _)
structure CN where
 n:Int
 to:Nat
 ok:Bool
def j8(l:List UInt8)(k m t:Nat)(n:Int):CN:=
 if t=0∨n < -2147483648∨2147483647<n then⟨0,k,false⟩
 else⟨n,k+m+t,match l[k+m+t]? with
  |some c=>decide (cQ c.toNat≠4)&&decide (cQ c.toNat≠6)
  |none=>true⟩
def gq(l:List UInt8)(k:Nat):Nat:=if(l.getD k 0).toNat=45 then 1 else 0
def je(l:List UInt8)(k:Nat):Nat:=eU 5 (l.drop (k+gq l k))
def mC(l:List UInt8)(k:Nat):Int:=
 let n:Int:=kM 0 ((l.drop (k+gq l k)).take (je l k))
 if gq l k=1 then -n else n
def gx(l:List UInt8)(k:Nat):CN:=j8 l k (gq l k) (je l k) (mC l k)
def CD(l ds:List UInt8)(z f g:Int)(h:aa)(n:Nat)(σ:St):Prop:=∃p,n=ds.length-p/\p<=ds.length/\Ext h σ.m.h/\h.n<σ.m.h.n/\σ.m.h.f h.n= .obj (.stringIter (B ds) p)/\
 σ.t.get 0=some (.string (B l))/\σ.t.get 1=some (.int .i64 z)/\σ.t.get 7=some (.int .i64 f)/\σ.t.get 8=some (.int .i64 g)/\
 σ.t.get 26=some (.pointer (some ⟨h.n,0,none⟩))/\∃v:Nat,v<=2147483649/\σ.t.get 9=some (.int .i64 v)/\kM v (ds.drop p)=kM 0 ds
def IB{ds:List UInt8}{p:Nat}{c:UInt8}(hc:ds[p]? =some c)(h:c.toNat<128):Utf8.decode (B ds) p=(c.toNat,1):=by
 rw[cP]at hc;obtain⟨hp,hc⟩:=hc;have:=decode_ascii (B ds) p (by rw[xf];exact hp) (by show(ds[p]).toNat<128;rw[hc];exact h);rw[this];show((ds[p]).toNat,1)=_;rw[hc]
def KN{x:Int}(h: -2147483648<=x/\x<=2147483647):IntKind.wrap .i32 x=x:=by
 have e:IntKind.wrap .i32 x=if(x % 4294967296:Int)≥2147483648 then x % 4294967296-4294967296 else x % 4294967296:=by
  simp[IntKind.wrap,IntKind.bits,IntKind.signed]
 rw[e];split<;>omega
def u7(k:Nat):∀l:List UInt8,eU k l<=l.length:=by
 intro l;induction l with
 |nil=>simp[eU]
 |cons c r ih=>simp only[eU];split<;>simp<;>omega
def akb(k:Nat):∀l:List UInt8,∀c∈l.take (eU k l),cQ c.toNat=k:=by
 intro l;induction l with
 |nil=>simp[eU]
 |cons c r ih=>
  intro d hd;simp only[eU]at hd;split at hd
  .rename_i hk;rw[List.take_succ_cons,cJ]at hd;rcases hd with rfl|hd
   .exact hk
   .exact ih d hd
  .simp at hd
def acT(l:List UInt8)(k:Nat)(hk:k<l.length)(hl:l.length<=1073741824)(h:aa):al PP 215 [.string (B l),.int .i64 k] h (λv h'=>Ext h h'/\v= .tuple #[.int .i64 (gx l k).n,.int .i64 (gx l k).to,.bool (gx l k).ok]):=by
 refine aC Tryz.func215 agk ?_;simp only[aA,Tryz.f215];have hc':l[k]? =some l[k]:=aq hk;have hd:=uo hc';simp[hc'];obtain⟨m,hm⟩:=nm (if l[k].toNat=45 then 1 else 0);have hkm:k+m<=l.length:=by split at hm<;>omega
 obtain⟨t,ht⟩:=nm (eU 5 (l.drop (k+m)));have htl:k+m+t<=l.length:=by have:=u7 5 (l.drop (k+m));rw[eX]at this;omega
 obtain⟨ds,hds⟩:=nm ((l.drop (k+m)).take t);have hds':(l.take (k+m+t)).drop (k+m)=ds:=by rw[hds,List.drop_take];congr 1;omega
 have hdl:ds.length=t:=by rw[hds,dh,eX];omega
 have hdd:∀c∈ds,48<=c.toNat/\c.toNat<=57:=λc hc=>by rw[hds,ht]at hc;exact yi.1 (akb 5 _ c hc)
 have e1:=bO (i:=k) (by omega);obtain⟨f,hf⟩:=nm (((k+m:Nat):Int):Int);obtain⟨g,hg⟩:=nm (((k+m+t:Nat):Int):Int);have hrun:=za l (k+m) 5 hl h;rw[<-hf,<-ht,<-hg]at hrun;have i1:(0:Int)<=f:=by omega
 have i2:(0:Int)<=g:=by omega
 have i3:f.toNat=k+m:=by omega
 have i4:g.toNat=k+m+t:=by omega
 obtain⟨nn,hnn⟩:=nm (if m=1 then -(kM 0 ds:Int)else kM 0 ds:Int);have hM:gq l k=m:=by rw[hm];simp[gq,hk]
 have hT:je l k=t:=by rw[ht,je,hM]
 have hN:mC l k=nn:=by rw[hnn,mC,hM,hT,<-hds]
 have hV:gx l k=j8 l k m t nn:=by rw[gx,hM,hT,hN]
 have hnl:=acO ds 0 (by omega);rw[hV];refine jk (λhm'=>?_) (λhm'=>?_)<;>simp only[de,lP]at hm'
 .have hm1:m=1:=by rw[if_pos (by omega)]at hm;exact hm
  have e1:IntKind.wrap .i64 ((k:Int)+1)=f:=by rw[bB (by omega),hf,hm1];omega
  simp[e1];refine hrun.mono ?_;rintro v h'' ⟨rfl,rfl⟩;simp[af];intro _;simp[i1,i2,i3,i4,htl,hds',nM];refine bG (CD l ds _ f g h'') _ ⟨0,rfl,by omega,Ext.new _ _,by simp,by simp,by simp,rfl,by simp,by simp,by simp,0,by omega,by simp,rfl⟩ ?_;rintro n ⟨T,⟨x,H⟩⟩ ⟨p,rfl,hp,hE,hn,hit,h0,h1,h7,h8,h26,v,hv,h9,hr⟩;simp at hE hn hit h0 h1 h7 h8 h26 h9;simp[h26,hit,rD];by_cases hpl:p<ds.length
  .have hc2:ds[p]? =some ds[p]:=aq hpl;have hdig:=hdd ds[p] (fG hpl);have hdr:=uo hc2;rw[hdr,uP]at hr;obtain⟨d,hd2⟩:=nm (ds[p].toNat-48:Nat);obtain⟨q1,hq1⟩:∃q:Int,q=(v:Int)*10:=⟨_,rfl⟩;obtain⟨q2,hq2⟩:∃q:Int,q=(d:Int):=⟨_,rfl⟩;obtain⟨q3,hq3⟩:∃q:Int,q=q1+q2:=⟨_,rfl⟩;obtain⟨q4,hq4⟩:∃q:Int,q=if 2147483649<q3 then 2147483649 else q3:=⟨_,rfl⟩;have hq5:q4=(qU v d:Int):=(by rw[hq4,vF];split<;>split<;>omega);have w1:IntKind.wrap .i32 ((ds[p].toNat:Int)-48)=q2:=(by rw[KN (by omega)];omega);have w2:IntKind.wrap .i64 ((v:Int)*10)=q1:=(by rw[bB (by omega)];omega);have w3:IntKind.wrap .i64 q2=q2:=bB (by omega);have w4:IntKind.wrap .i64 (q1+q2)=q3:=(by rw[bB (by omega)];omega);simp only[hpl,if_true,IB hc2 (by omega)];rw[<-hd2]at hr;simp[h0,h1,h7,h8,h9,h26,w1,w2,w3,w4,<-hq4];refine⟨ds.length-(p+1),by omega,p+1,rfl,by omega,hE.dp (aX _) _,hn,by simp,by simp[h0],by simp[h1],by simp[h7],by simp[h8],by simp[h26],_,Ab _ _,by simp[<-hq5],hr⟩
  .have hr0:kM 0 ds=v:=(by rw[xL hpl,wC]at hr;exact hr.symm);simp[hpl,h0,h1,h7,h8,h9,h26];have e9:IntKind.wrap .i64 (-(v:Int))=nn:=(by rw[bB (by omega),hnn,if_pos hm1,hr0]);have e10:(k:Int)<f:=(by omega);simp[e9,e10];by_cases ht0:t=0
   .have hg0:g=f:=(by omega);simp[hg0,j8,ht0,hf];exact hE
   .have hg0:¬g=f:=(by omega);simp[hg0];by_cases hn1:nn < -2147483648
    .simp[hn1,j8,hf];exact hE
    .simp[hn1];by_cases hn2:2147483647<nn
     .simp[hn2,j8,hf];exact hE
     .simp[hn2];have hV2:j8 l k m t nn=⟨nn,k+m+t,match l[k+m+t]? with
        |some c=>decide (cQ c.toNat≠4)&&decide (cQ c.toNat≠6)
        |none=>true⟩:=by rw[j8,if_neg (by omega)]
      rw[hV2];by_cases hend:g=(l.length:Int)
      .have hnone:l[k+m+t]? =none:=iT (by omega);simp[hend,hnone];exact⟨hE,by omega⟩
      .have hlt:k+m+t<l.length:=(by omega);have hc3:l[k+m+t]? =some l[k+m+t]:=aq hlt;simp[hend,i2,i4,hc3];refine cE (oy _ _) ?_;simp[af];intro _;by_cases hk4:cQ l[k+m+t].toNat=4
       .have hk4':((cQ l[k+m+t].toNat:Nat):Int)=4:=(by omega);simp[hk4',hk4];exact⟨hE,by omega⟩
       .have hk4':¬((cQ l[k+m+t].toNat:Nat):Int)=4:=(by omega);simp[hk4',hk4,i2,i4,hc3];refine cE (oy _ _) ?_;simp[af];intro _;refine⟨hE,by omega,?_⟩;by_cases hk6:cQ l[k+m+t].toNat=6
        .simp[hk6]
        .have:¬((cQ l[k+m+t].toNat:Nat):Int)=6:=(by omega);simp[hk6,this]
 .have hm1:m=0:=by rw[if_neg (by omega)]at hm;exact hm
  have e1:(k:Int)=f:=by rw[hf,hm1];omega
  simp[e1];refine hrun.mono ?_;rintro v h'' ⟨rfl,rfl⟩;simp[af];intro _;simp[i1,i2,i3,i4,htl,hds',nM];refine bG (CD l ds _ f g h'') _ ⟨0,rfl,by omega,Ext.new _ _,by simp,by simp,by simp,rfl,by simp,by simp,by simp,0,by omega,by simp,rfl⟩ ?_;rintro n ⟨T,⟨x,H⟩⟩ ⟨p,rfl,hp,hE,hn,hit,h0,h1,h7,h8,h26,v,hv,h9,hr⟩;simp at hE hn hit h0 h1 h7 h8 h26 h9;simp[h26,hit,rD];by_cases hpl:p<ds.length
  .have hc2:ds[p]? =some ds[p]:=aq hpl;have hdig:=hdd ds[p] (fG hpl);have hdr:=uo hc2;rw[hdr,uP]at hr;obtain⟨d,hd2⟩:=nm (ds[p].toNat-48:Nat);obtain⟨q1,hq1⟩:∃q:Int,q=(v:Int)*10:=⟨_,rfl⟩;obtain⟨q2,hq2⟩:∃q:Int,q=(d:Int):=⟨_,rfl⟩;obtain⟨q3,hq3⟩:∃q:Int,q=q1+q2:=⟨_,rfl⟩;obtain⟨q4,hq4⟩:∃q:Int,q=if 2147483649<q3 then 2147483649 else q3:=⟨_,rfl⟩;have hq5:q4=(qU v d:Int):=(by rw[hq4,vF];split<;>split<;>omega);have w1:IntKind.wrap .i32 ((ds[p].toNat:Int)-48)=q2:=(by rw[KN (by omega)];omega);have w2:IntKind.wrap .i64 ((v:Int)*10)=q1:=(by rw[bB (by omega)];omega);have w3:IntKind.wrap .i64 q2=q2:=bB (by omega);have w4:IntKind.wrap .i64 (q1+q2)=q3:=(by rw[bB (by omega)];omega);simp only[hpl,if_true,IB hc2 (by omega)];rw[<-hd2]at hr;simp[h0,h1,h7,h8,h9,h26,w1,w2,w3,w4,<-hq4];refine⟨ds.length-(p+1),by omega,p+1,rfl,by omega,hE.dp (aX _) _,hn,by simp,by simp[h0],by simp[h1],by simp[h7],by simp[h8],by simp[h26],_,Ab _ _,by simp[<-hq5],hr⟩
  .have hr0:kM 0 ds=v:=(by rw[xL hpl,wC]at hr;exact hr.symm);simp[hpl,h0,h1,h7,h8,h9,h26];have e9:(v:Int)=nn:=(by rw[hnn,if_neg (by omega),hr0]);simp[e9];by_cases ht0:t=0
   .have hg0:g=f:=(by omega);simp[hg0,j8,ht0,<-e1];exact hE
   .have hg0:¬g=f:=(by omega);simp[hg0];by_cases hn1:nn < -2147483648
    .simp[hn1,j8,<-e1];exact hE
    .simp[hn1];by_cases hn2:2147483647<nn
     .simp[hn2,j8,<-e1];exact hE
     .simp[hn2];have hV2:j8 l k m t nn=⟨nn,k+m+t,match l[k+m+t]? with
        |some c=>decide (cQ c.toNat≠4)&&decide (cQ c.toNat≠6)
        |none=>true⟩:=by rw[j8,if_neg (by omega)]
      rw[hV2];by_cases hend:g=(l.length:Int)
      .have hnone:l[k+m+t]? =none:=iT (by omega);simp[hend,hnone];exact⟨hE,by omega⟩
      .have hlt:k+m+t<l.length:=(by omega);have hc3:l[k+m+t]? =some l[k+m+t]:=aq hlt;simp[hend,i2,i4,hc3];refine cE (oy _ _) ?_;simp[af];intro _;by_cases hk4:cQ l[k+m+t].toNat=4
       .have hk4':((cQ l[k+m+t].toNat:Nat):Int)=4:=(by omega);simp[hk4',hk4];exact⟨hE,by omega⟩
       .have hk4':¬((cQ l[k+m+t].toNat:Nat):Int)=4:=(by omega);simp[hk4',hk4,i2,i4,hc3];refine cE (oy _ _) ?_;simp[af];intro _;refine⟨hE,by omega,?_⟩;by_cases hk6:cQ l[k+m+t].toNat=6
        .simp[hk6]
        .have:¬((cQ l[k+m+t].toNat:Nat):Int)=6:=(by omega);simp[hk6,this]
structure bF where
 kind:Int
 n:Int
 line:Int
 aj:Int
 text:List UInt8
def dm(t:bF):List Value:=[.int .i64 t.kind,.int .i64 t.n,.int .i64 t.line,.int .i64 t.aj,.string (B t.text)]
def fq(t:bF):Value:=.agg ⟨dm t⟩
def dI(ln aj:Int):Value:=.agg #[.int .i64 ln,.int .i64 aj]
def aag(p bs ba:Nat)(ln aj:Int)(a:Nat)(h:aa){w1 w2:Bool}{e1 e2:TypeId}(hs:h.f bs= .row w1 e1 [.int .i64 ln,.int .i64 aj])(ha:h.f ba= .row w2 e2 [.int .i64 a])
  (hp:p<=1073741824) (hc:0<=aj/\aj<=4294967296) (ha':a<=1073741824):
  al PP 212 [.int .i64 p,.pointer (some ⟨bs,0,none⟩),.pointer (some ⟨ba,0,none⟩)] h (λv h'=>h'=h/\v=dI ln (aj+p-a)):=by
 refine aC Tryz.func212 agh ?_;simp only[aA,Tryz.f212];have e1:IntKind.wrap .i64 (aj+p)=aj+p:=bB (by omega);have e2:IntKind.wrap .i64 (aj+p-a)=aj+p-a:=bB (by omega);simp[hs,ha,e1,e2];rfl
structure NX where
 tok:bF
 to:Nat
 ln:Int
 aj:Int
 code:Int
def kC:bF:=⟨0,0,0,0,[]⟩
def mD(x:NX):Value:=.tuple #[fq x.tok,.int .i64 x.to,dI x.ln x.aj,.int .i64 x.code]
def jQ(l:List UInt8)(to:Nat):Bool:=match l[to]? with|some d=>decide (cQ d.toNat≠5)&&decide (cQ d.toNat≠6)|none=>true
def iy(l:List UInt8)(a k:Nat)(ln aj:Int):NX:=
 match l[k]? with
 |none=>⟨kC,k,ln,aj+k-a,4⟩
 |some c=>
  if cQ c.toNat=3 then⟨⟨3,0,ln,aj+k-a,[]⟩,k+1,ln+1,1,0⟩
  else if cQ c.toNat=4 then
   let to:=k+eU 4 (l.drop k)
   if jQ l to=true then⟨⟨1,0,ln,aj+k-a,(l.take to).drop k⟩,to,ln,aj+to-a,0⟩
   else⟨kC,a,ln,aj+to-a,2⟩
  else if cQ c.toNat=6∨cQ c.toNat=5 then
   let u:=gx l k
   if u.ok=true then⟨⟨2,u.n,ln,aj+k-a,(l.take u.to).drop k⟩,u.to,ln,aj+u.to-a,0⟩
   else⟨kC,a,ln,aj+u.to-a,2⟩
  else⟨kC,a,ln,aj+k-a,2⟩
def bE(l:List UInt8)(a:Nat)(ln aj:Int):NX:=iy l a (a+dL false (l.drop a)) ln aj
def Rv:∀(b:Bool)(l:List UInt8),dL b l<=l.length:=by
 intro b l;induction l generalizing b with
 |nil=>cases b<;>simp[dL]
 |cons c r ih=>cases b<;>simp only[dL,eW]<;>(repeat' split)<;>first|omega|(have:=ih true;have:=ih false;omega)
def Bi(l:List UInt8)(k:Nat)(hk:k<=l.length):(gx l k).to<=l.length:=by
 unfold gx j8;split
 .exact hk
 .rename_i h;have:=u7 5 (l.drop (k+gq l k));rw[eX]at this;have:je l k=eU 5 (l.drop (k+gq l k)):=rfl;show k+gq l k+je l k<=l.length;omega
def PV(l:List UInt8)(k:Nat):k<=(gx l k).to:=by
 unfold gx j8;split
 .exact aX _
 .show k<=k+gq l k+je l k;omega
def Bg(l:List UInt8)(a:Nat)(ln aj:Int)(hl:l.length<=1073741824)(ha:a<=l.length)(hln:0<=ln/\ln<=4294967296)(hcol:0<=aj/\aj<=2147483648)(h:aa):
  al PP 156 [.string (B l),.int .i64 a,dI ln aj] h (λv h'=>Ext h h'/\v=mD (bE l a ln aj)):=by
 refine aC Tryz.func156 afy ?_;simp only[aA,Tryz.f156];have c1:¬(a:Int)<0:=by omega
 have c2:¬(l.length:Int)<(a:Int):=by omega
 simp[dI,c1,c2];obtain⟨G,hG⟩:=nm ((h.new (aW.row true 3 [Value.int IntKind.i64 a])).new (aW.row true 36 [Value.int IntKind.i64 ln,Value.int IntKind.i64 aj]));have gE:Ext h G:=by rw[hG];exact(Ext.new _ _).bI _
 have gn:G.n=h.n+2:=by rw[hG];rfl
 have ga:G.f h.n= .row true 3 [.int .i64 a]:=by rw[hG];simp
 have gs:G.f (h.n+1)= .row true 36 [.int .i64 ln,.int .i64 aj]:=by rw[hG];simp
 rw[<-hG];clear hG;obtain⟨k,hk⟩:=nm (a+dL false (l.drop a));have hsk:=akY l a hl G;rw[<-hk]at hsk;have hkl:k<=l.length:=by have:=Rv false (l.drop a);rw[eX]at this;omega
 have hX:bE l a ln aj=iy l a k ln aj:=by rw[bE,<-hk]
 rw[hX];refine hsk.mono ?_;rintro v h'' ⟨rfl,rfl⟩;have hhere:∀(H:aa)(p:Nat),H.f h.n= .row true 3 [.int .i64 a]->H.f (h.n+1)= .row true 36 [.int .i64 ln,.int .i64 aj]->p<=l.length->
   al PP 212 [.int .i64 p,.pointer (some ⟨h.n+1,0,none⟩),.pointer (some ⟨h.n,0,none⟩)] H (λv h'=>h'=H/\v= .agg #[.int .i64 ln,.int .i64 (aj+p-a)]):=
  λH p h1 h2 hp=>aag p (h.n+1) h.n ln aj a H h2 h1 (by omega) (by omega) (by omega)
 simp[af];intro _;by_cases hend:k=l.length
 .subst hend;have hnone:l[l.length]? =none:=iT (by omega);simp;refine cE (hhere _ l.length ga gs (by omega)) ?_;simp[af];intro _;simp[iy,hnone,mD,fq,dm,kC,dI];exact gE
 .have hend':¬((k:Int)=(l.length:Int)):=by omega
  have hlt:k<l.length:=by omega
  have hc':l[k]? =some l[k]:=aq hlt;simp[hend',gs];refine(hhere _ k ga gs (by omega)).mono ?_;rintro v h'' ⟨rfl,rfl⟩;simp[aF,ga];intro _;simp[gs,hc'];refine(oy _ _).mono ?_;rintro v H ⟨rfl,rfl⟩;obtain⟨kk,hkk⟩:=nm (cQ l[k].toNat);rw[<-hkk];have w1:IntKind.wrap .i64 (ln+1)=ln+1:=bB (by omega);have w2:IntKind.wrap .i64 ((k:Int)+1)=(k:Int)+1:=bB (by omega);simp[af];intro _;by_cases h3:kk=3
  .simp[h3,gs,w1,w2];simp[iy,jQ,hc',<-hkk,h3,mD,fq,dm,kC,dI];exact gE
  .have h3':¬((kk:Int)=3):=(by omega);simp[h3'];by_cases h4:kk=4
   .simp[h4];obtain⟨to,hto⟩:=nm (k+eU 4 (l.drop k));have hru:=za l k 4 hl H;rw[<-hto]at hru;have htl:to<=l.length:=(by have:=u7 4 (l.drop k);rw[eX]at this;omega);refine cE hru ?_;simp[af];intro _;have hkto:k<=to:=(by omega);by_cases he:to=l.length
    .subst he;have hnone:l[l.length]? =none:=iT (by omega);simp;simp[hkl];refine cE (hhere _ l.length ga gs (aX _)) ?_;simp[aF,ga];intro _;simp[iy,jQ,hc',<-hkk,h4,<-hto,hnone,mD,fq,dm,kC,dI];exact gE
    .have he':¬((to:Int)=(l.length:Int)):=(by omega);have hlt2:to<l.length:=(by omega);have hc2:l[to]? =some l[to]:=aq hlt2;simp[he',hc2];refine cE (oy _ _) ?_;simp[af];intro _;by_cases g5:cQ l[to].toNat=5
     .simp[g5];simp[ga];refine cE (hhere _ to ga gs htl) ?_;simp[aF,ga];intro _;simp[iy,jQ,hc',<-hkk,h4,<-hto,hc2,g5,mD,fq,dm,kC,dI];exact gE
     .have g5':¬((cQ l[to].toNat:Nat):Int)=5:=(by omega);simp[g5',hc2];refine(oy _ _).mono ?_;rintro v H ⟨rfl,rfl⟩;simp[af];intro _;by_cases g6:cQ l[to].toNat=6
      .simp[g6];simp[ga];refine cE (hhere _ to ga gs htl) ?_;simp[aF,ga];intro _;simp[iy,jQ,hc',<-hkk,h4,<-hto,hc2,g5,g6,mD,fq,dm,kC,dI];exact gE
      .have g6':¬((cQ l[to].toNat:Nat):Int)=6:=(by omega);simp[g6'];simp[hkto,htl];refine(hhere _ to ga gs htl).mono ?_;rintro v H2 ⟨rfl,rfl⟩;simp[aF,ga];intro _;simp[iy,jQ,hc',<-hkk,h4,<-hto,hc2,g5,g6,mD,fq,dm,kC,dI];exact gE
   .have h4':¬((kk:Int)=4):=(by omega);simp[h4'];by_cases h56:kk=6∨kk=5
    .have hnum:=acT l k hlt hl H;obtain⟨to,hto⟩:=nm (gx l k).to;obtain⟨nn,hnn⟩:=nm (gx l k).n;obtain⟨gd,hgd⟩:=nm (gx l k).ok;rw[<-hto,<-hnn,<-hgd]at hnum;have htl:to<=l.length:=(by rw[hto];exact Bi l k hkl);have hkto:k<=to:=(by rw[hto];exact PV l k);have hgo:∀v H2,(Ext H H2/\v=Value.tuple #[.int .i64 nn,.int .i64 to,.bool gd])->Ext h H2/\H2.f h.n= .row true 3 [.int .i64 a]/\H2.f (h.n+1)= .row true 36 [.int .i64 ln,.int .i64 aj]:=λv H2 z=>⟨gE.trans z.1,by rw[z.1.f _ (by omega),ga],by rw[z.1.f _ (by omega),gs]⟩;rcases h56 with h6|h5
     .simp[h6];refine hnum.mono ?_;rintro v H2 hh;obtain⟨gE,ga,gs⟩:=hgo v H2 hh;obtain⟨_,rfl⟩:=hh;simp[af];intro _;cases gd with
      |true=>
       simp;simp[hkto,htl];refine cE (hhere _ to ga gs htl) ?_;simp[aF,ga];intro _;simp[iy,jQ,hc',<-hkk,h6,<-hto,<-hnn,<-hgd,mD,fq,dm,kC,dI];exact gE
      |false=>
       simp;simp[ga];refine cE (hhere _ to ga gs htl) ?_;simp[aF,ga];intro _;simp[iy,jQ,hc',<-hkk,h6,<-hto,<-hnn,<-hgd,mD,fq,dm,kC,dI];exact gE
     .simp[h5];refine hnum.mono ?_;rintro v H2 hh;obtain⟨gE,ga,gs⟩:=hgo v H2 hh;obtain⟨_,rfl⟩:=hh;simp[af];intro _;cases gd with
      |true=>
       simp;simp[hkto,htl];refine cE (hhere _ to ga gs htl) ?_;simp[aF,ga];intro _;simp[iy,jQ,hc',<-hkk,h5,<-hto,<-hnn,<-hgd,mD,fq,dm,kC,dI];exact gE
      |false=>
       simp;simp[ga];refine cE (hhere _ to ga gs htl) ?_;simp[aF,ga];intro _;simp[iy,jQ,hc',<-hkk,h5,<-hto,<-hnn,<-hgd,mD,fq,dm,kC,dI];exact gE
    .have h6:¬((kk:Int)=6):=(by omega);have h5:¬((kk:Int)=5):=(by omega);simp[h6,h5];simp[ga];refine cE (hhere _ k ga gs hkl) ?_;simp[aF,ga];intro _;simp[iy,jQ,hc',<-hkk,h3,h4,(show¬kk=6 by omega),(show¬kk=5 by omega),mD,fq,dm,kC,dI];exact gE
def Bb{l:List UInt8}{a:Nat}{ln aj:Int}(ha:a<=l.length)(hln:1<=ln/\ln<=1+a)(hcol:1<=aj/\aj<=1+a)(hc:(bE l a ln aj).code=0):
  a<(bE l a ln aj).to/\(bE l a ln aj).to<=l.length/\(1<=(bE l a ln aj).ln/\(bE l a ln aj).ln<=1+(bE l a ln aj).to)/\(1<=(bE l a ln aj).aj/\(bE l a ln aj).aj<=1+(bE l a ln aj).to):=by
 revert hc;unfold bE iy;generalize hk:a+dL false (l.drop a)=k;have hak:a<=k:=by omega
 cases hg:l[k]? with
 |none=>simp
 |some c=>
  have hd:=uo hg;have hkl:k<l.length:=by rw[cP]at hg;exact hg.1
  dsimp only;by_cases h3:cQ c.toNat=3
  .simp only[h3,if_true];intro _;omega
  .by_cases h4:cQ c.toNat=4
   .have hr:eU 4 (l.drop k)<=l.length-k:=(by have:=u7 4 (l.drop k);rw[eX]at this;exact this);have hr2:1<=eU 4 (l.drop k):=(by rw[hd,eU,if_pos h4];omega);cases he:jQ l (k+eU 4 (l.drop k))with
    |true=>simp only[h4,if_true,he];intro _;simp only[show¬(4=3) by omega,if_false];omega
    |false=>simp[h4]
   .by_cases h5:cQ c.toNat=6∨cQ c.toNat=5
    .cases hok:(gx l k).ok with
     |true=>
      have h1:=Bi l k (by omega);have h2:k<(gx l k).to:=by
       revert hok;unfold gx j8;split
       .simp
       .intro _;show k<k+gq l k+je l k;omega
      simp only[h3,h4,h5,if_false,if_true];intro _;omega
     |false=>simp[h3,h4,h5]
    .simp[h3,h4,h5]
def rX(h0 h:aa)(v:Value)(ts:List bF):Prop:=∃ad,v= .slice ad ts.length ts.length/\((ad=none/\ts=[])∨∃b,ad=some ⟨b,0,none⟩/\h.f b= .row true 193 (ts.flatMap dm)/\h0.n<=b/\b<h.n)
def rX.ext{h0 h h':aa}{v:Value}{ts:List bF}(H:rX h0 h v ts)(e:Ext h h'):rX h0 h' v ts:=by
 obtain⟨ad,q,z⟩:=H;refine⟨ad,q,?_⟩;rcases z with z|⟨b,z1,z2,z3,z4⟩
 .exact .inl z
 .exact .inr ⟨b,z1,by rw[e.f b z4,z2],z3,cV z4 e.n⟩
def zn(ts:List bF):(ts.flatMap dm).length=ts.length*5:=by
 induction ts with
 |nil=>rfl
 |cons t r ih=>simp[dm]at ih ⊢;omega
structure zx where
 ts:List bF
 ln:Int
 aj:Int
 code:Int
def eM(l:List UInt8):Nat->Nat->Int->Int->zx
 |0,_,ln,aj=>⟨[],ln,aj,0⟩
 |n+1,a,ln,aj=>
  let x:=bE l a ln aj
  if x.code=0 then let r:=eM l n x.to x.ln x.aj;⟨x.tok::r.ts,r.ln,r.aj,r.code⟩
  else if x.code=4 then⟨[],x.ln,x.aj,0⟩
  else⟨[],x.ln,x.aj,x.code⟩
def VJ(l:List UInt8):∀(n m a:Nat)(ln aj:Int),l.length<n+a->l.length<m+a->a<=l.length->(1<=ln/\ln<=1+a)->(1<=aj/\aj<=1+a)->eM l n a ln aj=eM l m a ln aj:=by
 intro n;induction n with
 |zero=>intro m a ln aj h1 h2 h3;omega
 |succ n ih=>
  intro m a ln aj h1 h2 h3 h4 h5;cases m with
  |zero=>omega
  |succ m=>
   rw[eM,eM];by_cases hc:(bE l a ln aj).code=0
   .have hgo:=Bb h3 h4 h5 hc;simp only[hc,if_true];rw[ih m _ _ _ (by omega) (by omega) hgo.2.1 hgo.2.2.1 hgo.2.2.2]
   .simp only[hc,if_false]
def bX(l:List UInt8):zx:=eM l (l.length+1) 0 1 1
def Tm(l:List UInt8)(h:aa)(n:Nat)(σ:St):Prop:=∃(a:Nat)(ln aj:Int)(ts:List bF)(s:Value),n=l.length-a/\a<=l.length/\(1<=ln/\ln<=1+a)/\(1<=aj/\aj<=1+a)/\ts.length<=a/\
 σ.t.get 0=some (.string (B l))/\σ.t.get 5=some s/\σ.t.get 6=some (.int .i64 a)/\σ.t.get 7=some (.pointer (some ⟨7,0,some 0⟩))/\σ.t.get 3=some (.pointer (some ⟨3,0,some 0⟩))/\
 σ.m.x.look 7=some (36,[.int .i64 ln,.int .i64 aj])/\(∃c1 c2,σ.m.x.look 3=some (36,[c1,c2]))/\Ext h σ.m.h/\rX h σ.m.h s ts/\
 bX l=⟨ts++(eM l (l.length-a+1) a ln aj).ts,(eM l (l.length-a+1) a ln aj).ln,(eM l (l.length-a+1) a ln aj).aj,(eM l (l.length-a+1) a ln aj).code⟩
def zS(l:List UInt8)(hl:l.length<=1048576)(h:aa):al PP 118 [.string (B l)] h (λv h'=>Ext h h'/\∃s,rX h h' s (bX l).ts/\v= .tuple #[s,dI (bX l).ln (bX l).aj,.int .i64 (bX l).code]):=by
 refine aC Tryz.func118 aeX ?_;simp only[aA,Tryz.f118];have c1:¬(1048576:Int)<(l.length:Int):=by omega
 simp[c1];refine bG (Tm l h) _ ⟨0,1,1,[],.slice none 0 0,rfl,by omega,by omega,by omega,by simp,by simp,by simp,by simp,by simp,by simp,by simp,⟨_,_,by simp;exact⟨rfl,rfl⟩⟩,Ext.bJ _,⟨none,rfl,.inl ⟨rfl,rfl⟩⟩,rfl⟩ ?_;rintro n ⟨T,⟨x,H⟩⟩ ⟨a,ln,aj,ts,s,rfl,ha,hln,hcol,hts,h0,h5,h6,h7,h3,hx7,⟨d1,d2,hx3⟩,hE,hO,hr⟩;simp at h0 h5 h6 h7 h3 hx7 hx3 hE hO;simp[h0,h5,h6,h7,h3,hx7,hx3];refine(Bg l a ln aj (by omega) ha (by omega) (by omega) H).mono ?_;rintro v H2 ⟨hE2,rfl⟩;have hgo:=Bb (l:=l) ha hln hcol;rw[show l.length-a+1=(l.length-a)+1 by rfl,eM]at hr;obtain⟨X,hX⟩:=nm (bE l a ln aj);rw[<-hX]at hgo hr ⊢;simp[af,mD,fq,dm,dI];intro _;obtain⟨ad,rfl,hO2⟩:=hO.ext hE2;have hE3:Ext h H2:=hE.trans hE2;simp[h0,h5,h6,h7,h3,hx7,hx3];by_cases hc0:X.code=0
 .rw[if_pos hc0]at hr;obtain⟨g1,g2,g3,g4⟩:=hgo hc0;have hr5:List.range 5=[0,1,2,3,4]:=rfl;have hfu:l.length-a=(l.length-X.to+1)+(X.to-a-1):=by omega
  have hr6:∀L,bX l=L->True:=λ_ _=>trivial;dsimp only at hr;rw[VJ l (l.length-a) (l.length-X.to+1) X.to X.ln X.aj (by omega) (by omega) g2 g3 g4]at hr;rcases hO2 with⟨rfl,rfl⟩|⟨b,rfl,bD,bN,hb3⟩
  .simp[hc0,dC,dS,aM,dH,hr5];refine⟨l.length-X.to,by omega,X.to,X.ln,X.aj,[X.tok],_,rfl,g2,g3,g4,by simp;omega,by simp,by simp;rfl,by simp,by simp,by simp,by simp,⟨_,_,by simp;exact⟨rfl,rfl⟩⟩,(hE3.bI _).bI _,⟨_,rfl,.inr ⟨_,rfl,?_,?_,?_⟩⟩,?_⟩
   .simp[dm]
   .have:=hE3.n;omega
   .simp
   .rw[hr];simp
  .have hb:¬b=H2.n:=(by omega);have hmx:(ts.length+1)*48<=140737488355328:=(by omega);obtain⟨cs,hcs⟩:=nm (ts.flatMap dm);have hcl:cs.length=ts.length*5:=(by rw[hcs,zn]);rw[<-hcs]at bD;simp[hc0,dC,dS,aM,dH,hb,bD,hcl,hmx,hr5];refine⟨l.length-X.to,by omega,X.to,X.ln,X.aj,ts++[X.tok],_,rfl,g2,g3,g4,by simp;omega,by simp,by simp;rfl,by simp,by simp,by simp,by simp,⟨_,_,by simp;exact⟨rfl,rfl⟩⟩,((hE3.bI _).dp bN _).bI _,⟨_,by simp;rfl,.inr ⟨_,rfl,?_,?_,?_⟩⟩,?_⟩
   .have:=b9 (l:=cs) (i:=ts.length*5) (by omega);simp[dm,this];rw[<-hcs]at *
   .have:=hE3.n;omega
   .simp
   .rw[hr];simp
 .simp[hc0];rw[if_neg hc0]at hr;by_cases hc4:X.code=4
  .simp[hc4];rw[if_pos hc4]at hr;rw[hr];exact⟨hE3,_,⟨ad,by simp,by simpa using hO2⟩,rfl,⟨rfl,rfl⟩,rfl⟩
  .simp[hc4];rw[if_neg hc4]at hr;rw[hr];exact⟨hE3,_,⟨ad,by simp,by simpa using hO2⟩,rfl,⟨rfl,rfl⟩,rfl⟩
def fU(h:aa)(v:Value)(ts:List bF):Prop:=∃ad c,v= .slice ad ts.length c/\((ad=none/\ts=[]/\c=0)∨∃b off w cells rest,ad=some ⟨b,off,none⟩/\h.f b= .row w 193 cells/\cells.drop off=ts.flatMap dm++rest/\off<=cells.length/\b<h.n)
def rX.anf{h0 h:aa}{v:Value}{ts:List bF}(H:rX h0 h v ts):fU h v ts:=by
 obtain⟨ad,rfl,z⟩:=H;refine⟨ad,_,rfl,?_⟩;rcases z with⟨z1,z2⟩|⟨b,z1,z2,z3,z4⟩
 .exact .inl ⟨z1,z2,by rw[z2];rfl⟩
 .exact .inr ⟨b,0,true,_,[],z1,z2,by simp,by simp,z4⟩
def fU.ext{h h':aa}{v:Value}{ts:List bF}(H:fU h v ts)(e:Ext h h'):fU h' v ts:=by
 obtain⟨ad,c,q,z⟩:=H;refine⟨ad,c,q,?_⟩;rcases z with z|⟨b,off,w,cells,rest,z1,z2,z3,z4,z5⟩
 .exact .inl z
 .exact .inr ⟨b,off,w,cells,rest,z1,by rw[e.f b z5,z2],z3,z4,cV z5 e.n⟩
def Kt(ts:List bF)(i:Nat):(ts.flatMap dm).drop (i*5)=(ts.drop i).flatMap dm:=by
 induction ts generalizing i with
 |nil=>simp
 |cons t r ih=>cases i with
  |zero=>simp
  |succ i=>
   rw[List.drop_succ_cons,<-ih i,ic,List.drop_append]
   rw[List.drop_eq_nil_of_le (by simp[dm];omega)]
   simp[dm]
   congr 1
   omega
def fU.at{h:aa}{ad:Option Addr}{n c:Nat}{ts:List bF}(H:fU h (.slice ad n c) ts){i:Nat}{t:bF}(hi:ts[i]? =some t):
  n=ts.length/\∃b off w cells rest,ad=some ⟨b,off,none⟩/\h.f b= .row w 193 cells/\cells.drop (off+i*5)=dm t++rest/\off+i*5+5<=cells.length/\b<h.n:=by
 obtain⟨ad',c',q,z⟩:=H;simp only[Value.slice.injEq]at q;obtain⟨rfl,rfl,rfl⟩:=q;have hlt:i<ts.length:=by rw[cP]at hi;exact hi.1
 refine⟨rfl,?_⟩;rcases z with⟨_,rfl,_⟩|⟨b,off,w,cells,rest,z1,z2,z3,z4,z5⟩
 .simp at hlt
 .have hd:ts.drop i=t::ts.drop (i+1):=by
   rw[cP]at hi;obtain⟨h1,h2⟩:=hi;rw[gQ h1,h2]
  have e:cells.drop (off+i*5)=dm t++((ts.drop (i+1)).flatMap dm++rest):=by
   rw[<-eh,z3,List.drop_append,Kt,hd,ic,zn,eG];rw[show i*5-ts.length*5=0 by omega];rfl
  refine⟨b,off,w,cells,_,z1,z2,e,?_,z5⟩
  have:=congrArg List.length e
  simp[dm]at this
  omega
def fU.sub{h:aa}{ad:Addr}{ts:List bF}{c i k c':Nat}(H:fU h (.slice (some ad) ts.length c) ts)(h1:i<=k)(h2:k<=ts.length):fU h (.slice (some ⟨ad.block,ad.off+i*5,ad.spot⟩) (k-i) c') ((ts.take k).drop i):=by
 obtain⟨ad',c',q,z⟩:=H;simp only[Value.slice.injEq]at q;obtain⟨rfl,_,rfl⟩:=q;rcases z with⟨z1,_⟩|⟨b,off,w,cells,rest,z1,z2,z3,z4,z5⟩
 .simp at z1
 .simp only[av]at z1;subst z1;have hcl:cells.length=off+(ts.length*5+rest.length):=by
   have:=congrArg List.length z3;rw[eX,bH,zn]at this;omega
  have e2:(ts.drop i).flatMap dm=((ts.take k).drop i).flatMap dm++(ts.drop k).flatMap dm:=by
   rw[<-List.flatMap_append,List.drop_take];congr 1;rw[show ts.drop k=(ts.drop i).drop (k-i) by rw[eh];congr 1;omega,se]
  refine⟨_,c',by rw[eX,dh];congr 1;omega,.inr ⟨b,off+i*5,w,cells,(ts.drop k).flatMap dm++rest,rfl,z2,?_,?_,z5⟩⟩
  .rw[<-eh,z3,List.drop_append,Kt,zn,show i*5-ts.length*5=0 by omega,e2,eG];rfl
  .omega
def jd(ts:List bF):Nat:=(ts.takeWhile (λt=>decide (t.kind≠3))).length
def zE(s:Value)(ts:List bF)(a:Nat)(h:aa)(n:Nat)(σ:St):Prop:=∃k:Nat,n=ts.length-k/\a<=k/\k<=ts.length/\σ.t.get 0=some s/\σ.t.get 1=some (.int .i64 a)/\σ.t.get 6=some (.int .i64 k)/\σ.m.h=h/\k+jd (ts.drop k)=a+jd (ts.drop a)
def UD(h:aa)(ts:List bF)(a:Nat)(v:Value):Prop:=∃s',fU h s' ((ts.take (a+jd (ts.drop a))).drop a)/\v= .tuple #[s',.int .i64 ((if a+jd (ts.drop a)<ts.length then a+jd (ts.drop a)+1 else ts.length:Nat):Int)]
def sJ(s:Value)(ts:List bF)(a:Nat)(ha:a<ts.length)(hl:ts.length<=1073741824)(h:aa)(hs:fU h s ts):
  al PP 158 [s,.int .i64 a] h (λv h'=>h'=h/\UD h ts a v):=by
 refine aC Tryz.func158 afA ?_;simp only[aA,Tryz.f158];obtain⟨s0,hs1⟩:=nm s;have hs0:=hs;obtain⟨ad,c,hse,hz⟩:=hs;obtain⟨ad,rfl⟩:∃x,ad=some x:=by
  rcases hz with⟨_,rfl,_⟩|⟨b,off,_,_,_,e,_⟩
  .simp at ha
  .exact⟨_,e⟩
 have hsz:∃w cells,h.f ad.block= .row w 193 cells/\ad.spot=none:=by
  rcases hz with⟨e,_⟩|⟨b,off,w,cells,rest,e,e2,_⟩
  .simp at e
  .simp only[av]at e;subst e;exact⟨w,cells,e2,rfl⟩
 obtain⟨w0,cells0,hrow,hspot⟩:=hsz;obtain⟨blk,off0,sp⟩:=ad;simp only at hspot hrow;subst hspot;subst hse;have c1:¬(a:Int)<0:=by omega
 have c2:¬(ts.length:Int)<(a:Int):=by omega
 simp[c1,c2];refine bG (zE (.slice (some ⟨blk,off0,none⟩) ts.length c) ts a h) _ ⟨a,rfl,by omega,by omega,by simp,by simp,by simp,rfl,rfl⟩ ?_;rintro n ⟨T,⟨x,H⟩⟩ ⟨k,rfl,hak,hk,g0,g1,g6,rfl,hr⟩;simp at g0 g1 g6 hrow hs0;simp[g0,g1,g6];refine bR (λhc=>?_) (λhc=>?_)
 .have hkl:k<ts.length:=by omega
  have ht:ts[k]? =some ts[k]:=aq hkl;obtain⟨_,b,off,w,cells,rest,e1,e2,e3,e4,e5⟩:=hs0.at ht;simp only[av,Addr.mk.injEq,and_true]at e1;obtain⟨rfl,rfl⟩:=e1;have hle:off0+k*5+1<=cells.length:=by omega
  have hdk:ts.drop k=ts[k]::ts.drop (k+1):=gQ hkl;simp[g0,g1,g6,hkl,e2,e3,hle,dm];refine bR (λhq=>?_) (λhq=>?_)
  .have hw:=bO (i:=k) (by omega);have hn0:jd (ts.drop k)=0:=(by rw[hdk,jd,List.takeWhile_cons];simp[hq]);have hr2:a+jd (ts.drop a)=k:=(by omega);simp[g0,g1,g6,hw,e2,hak,hk];refine⟨_,?_,by rw[hr2,if_pos hkl];simp;rfl⟩;rw[hr2];exact hs0.sub hak hk
  .have hw:=bO (i:=k) (by omega);have hn0:jd (ts.drop k)=jd (ts.drop (k+1))+1:=(by rw[hdk,jd,List.takeWhile_cons];simp[hq,jd]);simp[g0,g1,g6,hw];exact⟨ts.length-(k+1),by omega,k+1,rfl,by omega,by omega,by simp[g0],by simp[g1],by simp,rfl,by omega⟩
 .have hke:k=ts.length:=by omega
  have hn0:jd (ts.drop k)=0:=by rw[List.drop_eq_nil_of_le (by omega)];rfl
  have hr2:a+jd (ts.drop a)=ts.length:=by omega
  have hal:a<=ts.length:=by omega
  simp[g0,g1,g6,hrow,hal];refine⟨_,?_,by rw[hr2,if_neg (by omega)]⟩;rw[hr2];exact hs0.sub hal (aX _)
@[irreducible] def aoV(n d:Nat):Nat:=if 1099511627776<n*10+d then 1099511627776 else n*10+d
@[irreducible] def aoW(n d:Nat):Nat:=n*10+d
def xl(l:List UInt8)(a k:Nat)(z6 z8:List Value)(ln q:Int)(h:aa)(σ:St):Prop:=
 σ.m.h=h/\σ.t.get 0=some (.string (B l))/\σ.t.get 1=some (.int .i64 (a:Nat))/\σ.t.get 6=some (.pointer (some ⟨6,0,some 0⟩))/\σ.t.get 8=some (.pointer (some ⟨8,0,some 0⟩))/\σ.t.get 10=some (.int .i64 (k:Nat))/\
 σ.t.get 11=some (.pointer (some ⟨11,0,some 0⟩))/\σ.t.get 12=some (.pointer (some ⟨12,0,some 0⟩))/\σ.m.x.look 6=some (193,z6)/\σ.m.x.look 8=some (36,z8)/\σ.m.x.look 11=some (36,[.int .i64 ln,.int .i64 q])/\
 σ.m.x.look 12=some (193,[.int .i64 0,.int .i64 0,.int .i64 ln,.int .i64 q,.string (B [])])
def pieces:List (List UInt8):=[[115,101,97,116],[32],[53],[45,51],[10],[35,32,120,10],[119,104,101,101,108],[9],[50,49,52,55,52,56,51,54,52,55],[50,49,52,55,52,56,51,54,52,56],[45,50,49,52,55,52,56,51,54,52,56],[45,50,49,52,55,52,56,51,54,52,57],[45],[97,49],[49,97],[49,45],[59],[195,169],[103,97,112],[107,105,108,108],[112,111,108,101],[13],[35],[48],[99,111,109,112,97,110,105,111,110],[57,57,57,57,57,57,57,57,57,57,57,57,57,57,57,57,57,57,57,57],[65],[32,32],[49],[50]]
def aiX(x:Int):Nat:=((x % 18446744073709551616) % 30).toNat
def piece(x:Int):List UInt8:=pieces.getD (aiX x) []
attribute [local simp] sH
attribute [local simp ↓ high] an9
def acy(l:List UInt8)(a:Nat)(ln aj:Int):(bE l a ln aj).code=0∨(bE l a ln aj).code=2∨(bE l a ln aj).code=4:=by
 unfold bE iy;generalize a+dL false (l.drop a)=k;cases l[k]? with
 |none=>simp
 |some c=>
  dsimp only;(repeat' split)<;>simp
end Go.Proofs.Ybk.T
namespace Go.Proofs.Ybk.F
open Go Go.Am
set_option maxHeartbeats 2000000
def alZ{σ:St}(d:Option Nat)(x:Operand)(ty yt:TypeId)(pos:String)(aft:Array Edge)(g:Option (Nat×Bool))(hx:aN σ x=some .nilIface):
  dq PP σ ⟨d,.binOp .eql 110 x (.const .nilIface) yt,ty,pos,aft,g⟩=some (.bool true,σ):=by
 refine qF (by simp[Op.operands,kG hx rfl];rfl) rfl ?_ rfl;have e1:eqGuard .eql 110 x (.const .nilIface) .nilIface .nilIface=pure ():=by unfold eqGuard;simp
 have e2:binOp .eql 110 .nilIface .nilIface=(do pure (.bool (<-Op.equal 110 .nilIface .nilIface))):=rfl;have e3:(Op.equal 110 .nilIface .nilIface).aU PP=some true:=by
  have key:∀n,(Op.equalIn (n+1) 110 .nilIface .nilIface).aU PP=some true:=λn=>by simp[Op.equalIn,cM,pG Cu,th]
  exact key 9999
 have e4:lF σ (.const .nilIface)= .nilIface:=rfl;simp only[execOp,lV hx,e4,e1,e2,cM,th,ep,e3]
attribute [simp] alZ
def oD(a:Int):Int:=if a<0 then 0 else a
def tU(h:aa)(l:List FR)(v:Value)(h':aa):Prop:=Ext h h'/\fb h' h'.n v l
def sL(code line aj:Int)(h:aa):al PP 120 [.int .i64 code,.int .i64 line,.int .i64 aj] h (tU h (if code<=0 then[]else[⟨code,oD line,oD aj⟩])):=by
 refine aC Tryz.func120 aeZ ?_;simp only[aA,Tryz.f120];by_cases h1:code<=0
 .simp -implicitDefEqProofs[h1];exact⟨Ext.bJ h,.nil⟩
 .simp -implicitDefEqProofs[h1,qg];exact⟨Ext.new h _,.cons h.n ⟨code,oD line,oD aj⟩ .nilIface [] (by simp[oD]) (by simp) .nil⟩
def fb.shape{h:aa}{n:Nat}{E:Value}{l:List FR}(H:fb h n E l):(E= .nilIface/\l=[])∨∃b f E' r,E= .iface 207 (.pointer (some ⟨b,0,none⟩))/\l=f::r/\h.f b= .row true 223 [.int .i64 f.code,.int .i64 f.line,.int .i64 f.aj,E']/\b<n/\fb h n E' r:=by
 cases H with
 |nil=>exact .inl ⟨rfl,rfl⟩
 |cons b f E l h1 h2 h3=>exact .inr ⟨b,f,E,l,rfl,rfl,h1,h2,h3⟩
def aot(E:Value)(l:List FR)(code:Int)(h:aa)(H:fb h h.n E l):al PP 157 [E,.int .i64 code] h (tU h (if code<=0 then l else⟨code,0,0⟩::l)):=by
 refine aC Tryz.func157 afz ?_;simp only[aA,Tryz.f157];rcases H.shape with⟨rfl,rfl⟩|⟨b,f,E',r,rfl,rfl,h1,h2,h3⟩
 .by_cases hc:code<=0
  .simp -implicitDefEqProofs[hc];exact⟨Ext.bJ h,H⟩
  .simp -implicitDefEqProofs[hc];refine(sL code 0 0 h).mono ?_;rintro v h' ⟨E,hv⟩;rw[if_neg hc]at hv;rcases hv.shape with⟨_,q⟩|⟨b,f,E',r,rfl,q,k1,k2,k3⟩
   .cases q
   simp -implicitDefEqProofs[af];intro _;exact⟨E,hv⟩
 .by_cases hc:code<=0
  .simp -implicitDefEqProofs[hc];exact⟨Ext.bJ h,H⟩
  .simp -implicitDefEqProofs[hc,qg];exact⟨Ext.new h _,.cons h.n ⟨code,0,0⟩ _ _ (by simp) (by simp) (H.ext (Ext.new h _) |>.up (by simp) (λ_ _=>rfl))⟩
def pF(b:Nat):List Value:=[.pointer (some ⟨b,0,none⟩)]
def zy(h:aa)(bs:List Nat)(l:List FR):Prop:=bs.length=l.length/\∀(j b:Nat)(f:FR),bs[j]? =some b->l[j]? =some f->b<h.n/\∃E,h.f b= .row true 223 [.int .i64 f.code,.int .i64 f.line,.int .i64 f.aj,E]
def SU(h:aa)(l:List FR)(v:Value)(h':aa):Prop:=Ext h h'/\∃bs o,zy h bs l/\bP 207 pF h h' o bs v
def xj(h:aa)(l:List FR)(bf m:Nat)(σ:St):Prop:=∃(i:Nat)(E:Value)(bs:List Nat)(o:Option Nat)(v old:Value),m=l.length-i/\i<=l.length/\Ext h σ.m.h/\fb h h.n E (l.drop i)/\zy h bs (l.take i)/\bP 207 pF h σ.m.h o bs v/\o≠some bf/\bf<σ.m.h.n/\σ.m.h.f bf= .row true 207 [old]/\
 σ.t.get 0=some E/\σ.t.get 3=some v/\σ.t.get 4=some (.pointer (some ⟨bf,0,none⟩))
def zS(E:Value)(l:List FR)(hl:l.length<=1000)(h:aa)(G:cC h)(H:fb h h.n E l):al PP 202 [E] h (SU h l):=by
 refine aC Tryz.func202 af5 ?_;simp only[aA,Tryz.f202];have hloc:cn E=true:=by rcases H.shape with⟨rfl,_⟩|⟨b,f,E',r,rfl,_⟩<;>rfl
 simp -implicitDefEqProofs;refine bG (xj h l h.n) l.length ⟨0,E,[],none,.slice none 0 0,.pointer none,rfl,by omega,Ext.new h _,H,⟨by simp,λj b f hj=>by simp at hj⟩,bP.nil,by simp⟩ ?_;rintro m ⟨T,⟨x,H1⟩⟩ ⟨i,Ei,bs,o,v,old,rfl,hi,hE,hch,hB,hO,hob,hbf,hfb,g0,g3,g4⟩;simp at hE hO hbf hfb g0 g3 g4;obtain⟨rfl,ho⟩:=id hO;have hEi:cn Ei=true:=by rcases hch.shape with⟨rfl,_⟩|⟨b,f,E',r,rfl,_⟩<;>rfl
 have hG1:=G.ext hE;have hr1:List.range 1=[0]:=rfl;rcases hch.shape with⟨rfl,hd⟩|⟨b,f,E',r,rfl,hd,h1,h2,h3⟩
 .have hie:i=l.length:=by have:=congrArg List.length hd;rw[eX]at this;simp at this;omega
  simp -implicitDefEqProofs[g0,g3,g4];refine cE (Dc _ H1 hG1) ?_;simp -implicitDefEqProofs[af,g0,g3,g4];intro _;rw[hie,jZ]at hB;exact⟨hE,bs,o,hB,hO⟩
 .simp -implicitDefEqProofs[g0,g3,g4];refine(Db b h.n old H1 hG1 hfb).mono ?_;rintro r H2 ⟨rfl,e3⟩;have hbn:¬b=h.n:=by omega
  have bD:H1.f b= .row true 223 [.int .i64 f.code,.int .i64 f.line,.int .i64 f.aj,E']:=by rw[hE.f b h2];exact h1
  subst e3;have hil:i<l.length:=by
   rcases Nat.lt_or_ge i l.length with z|z
   .exact z
   .rw[List.drop_eq_nil_of_le z]at hd;cases hd
  have hti:l[i]? =some f:=by
   have:(l.drop i)[0]? =some f:=(by rw[hd];rfl);simpa using this
  have hdr:l.drop (i+1)=r:=by
   have:(l.drop i).drop 1=r:=(by rw[hd];rfl);rw[eh]at this;exact this
  have hBl:bs.length=i:=by have:=hB.1;rw[dh]at this;omega
  have hB':zy h (bs++[b]) (l.take (i+1)):=by
   rw[fL,hti];refine⟨by simp[hB.1],λj b' f' hj hf=>?_⟩;rcases Nat.lt_or_ge j i with z|z
   .rw[ji (by omega)]at hj;rw[ji (by rw[dh];omega)]at hf;exact hB.2 j b' f' hj hf
   .rw[iF (by omega)]at hj;rw[iF (by rw[dh];omega)]at hf;have e1:j-bs.length=0:=by
     rcases Nat.eq_zero_or_pos (j-bs.length)with q|q
     .exact q
     .rw[iT (by simp;omega)]at hj;cases hj
    rw[e1]at hj;have e2:j-(l.take i).length=0:=(by rw[dh];omega);rw[e2]at hf;simp at hj hf;subst hj;subst hf;exact⟨h2,E',h1⟩
  have hE2:∀c,Ext h (H1.set h.n c):=λc=>hE.dp (aX _) c;have hnH:=hE.n;have b1:¬b=H1.n:=by omega
  have b2:¬b=H1.n+1:=by omega
  have f1:¬h.n=H1.n:=by omega
  have f2:¬h.n=H1.n+1:=by omega
  have f3:¬H1.n+1=h.n:=by omega
  have hE'loc:cn E'=true:=by rcases h3.shape with⟨rfl,_⟩|⟨b,f,E',r,rfl,_⟩<;>rfl
  have nxt:∀σ2:St,Ext h σ2.m.h->∀o',bP 207 pF h σ2.m.h (some o') (bs++[b]) (.slice (some ⟨o',0,none⟩) (i+1) (i+1))->o'≠h.n->h.n<σ2.m.h.n->σ2.m.h.f h.n= .row true 207 [.pointer (some ⟨b,0,none⟩)]->
    σ2.t.get 0=some E'->σ2.t.get 3=some (.slice (some ⟨o',0,none⟩) (i+1) (i+1))->σ2.t.get 4=some (.pointer (some ⟨h.n,0,none⟩))->∃j,j<l.length-i/\xj h l h.n j σ2:=by
   intro σ2 x1 o' x2 x3 x4 x5 x6 x7 x8;exact⟨l.length-(i+1),by omega,i+1,E',bs++[b],some o',_,_,rfl,by omega,x1,by rw[hdr];exact h3,hB',x2,by simpa using x3,x4,x5,x6,x7,x8⟩
  cases o with
  |none=>
   simp only at ho;subst ho;have hi0:i=0:=(by simpa using hBl.symm);subst hi0;simp -implicitDefEqProofs[af,g0,g3,g4,aM,hr1,dC,dS,dH,hbn,bD,b1,b2,f1,f2,f3];intro _;refine nxt _ ?_ (H1.n+1) ⟨by simp,?_,?_,?_⟩ (by omega) ?_ ?_ (by simp) (by simp) (by simp)
   .exact((hE2 _).bI _).bI _
   .simp[pF]
   .omega
   .simp
   .simp;omega
   .simp[f1,f2]
  |some bo=>
   simp only at ho;obtain⟨ho1,ho2,ho3⟩:=ho;have hbo:¬bo=h.n:=λq=>hob (by rw[q]);have o1:¬bo=H1.n:=(by omega);have o2:¬h.n=bo:=λq=>hbo q.symm;have o3:¬b=bo:=(by omega);obtain⟨F,hF⟩:=nm (bs.flatMap pF);have hFl:F.length=i:=(by have:=fr 1 (enc:=pF) (λ_=>rfl) bs;rw[<-hF]at this;omega);rw[<-hF]at ho1;have e8:F.take i=F:=b9 (by omega);have hmx:(i+1)*8<=140737488355328:=(by omega);rw[hBl]at g3;simp -implicitDefEqProofs[af,g0,g3,g4,aM,hr1,dC,dS,dH,hbn,bD,b1,b2,f1,f2,f3,hbo,o1,o2,o3,ho1,hFl,e8,hmx];intro _;refine nxt _ ?_ (H1.n+1) ⟨by simp[hBl],?_,?_,?_⟩ (by omega) ?_ ?_ (by simp) (by simp) (by simp)
   .exact((((hE2 _).bI _).dp ho2 _).bI _)
   .simp[pF,hF]
   .omega
   .simp
   .simp;omega
   .simp[f1,f2,o2]
end Go.Proofs.Ybk.F
namespace Go.Proofs.Ybk.F
open Go Go.Am
set_option maxHeartbeats 4000000
def aoX:List FR->Int
 |[]=>0
 |f::_=>f.code
def xZ(f:FR):Bool:= !decide (f.line=0) || !decide (f.aj=0)
def oN:List FR->Int×Int
 |[]=>(0,0)
 |f::r=>if xZ f then(f.line,f.aj)else oN r
def zE(h H:aa)(sv:Value)(l:List FR)(m:Nat)(σ:St):Prop:=∃i:Nat,m=l.length-i/\i<=l.length/\σ.m.h=H/\oN l=oN (l.drop i)/\σ.t.get 2=some (.pointer (some ⟨2,0,some 0⟩))/\σ.t.get 6=some sv/\σ.t.get 7=some (.int .i64 (l.length:Nat))/\σ.t.get 8=some (.int .i64 (i:Nat))/\σ.m.x.look 2=some (36,[.int .i64 0,.int .i64 0])
def pI(E:Value)(l:List FR)(hl:l.length<=1000)(h:aa)(G:cC h)(H:fb h h.n E l):al PP 149 [E] h (λv h'=>Ext h h'/\v= .agg ⟨[.int .i64 (oN l).1,.int .i64 (oN l).2]⟩):=by
 refine aC Tryz.func149 afq ?_;simp only[aA,Tryz.f149];have hEi:cn E=true:=by rcases H.shape with⟨rfl,_⟩|⟨b,f,E',r,rfl,_⟩<;>rfl
 have hcall:=zS E l hl h G H;have hE2:=hEi;simp only[cn,iM,Option.isNone_iff_eq_none]at hE2;simp -implicitDefEqProofs[hE2];refine hcall.mono ?_;rintro v h' ⟨X,bs,o,hB,hO⟩;obtain⟨rfl,ho⟩:=id hO;have hbl:=hB.1;obtain⟨n,hn⟩:=nm l.length;rw[<-hn]at hbl hl;rw[hbl];simp -implicitDefEqProofs[af];intro _;refine bG (zE h h' (.slice (o.map λb=>⟨b,0,none⟩) n n) l) n ⟨0,by omega,by omega,rfl,rfl,by simp[hn]⟩ ?_;rintro m ⟨T,⟨x,H1⟩⟩ ⟨i,rfl,hi,rfl,hsp,g2,g6,g7,g8,x2⟩;simp at g2 g6 g7 g8 x2;rw[<-hn]at g7 hi;simp -implicitDefEqProofs[g2,g6,g7,g8,x2];refine bR (λhc=>?_) (λhc=>?_)
 .have hin:i<n:=by omega
  obtain⟨bo,rfl⟩:∃bo,o=some bo:=by
   cases o with
   |none=>simp only at ho;rw[ho]at hbl;simp at hbl;omega
   |some b=>exact⟨b,rfl⟩
  simp only at ho;obtain⟨ho1,ho2,ho3⟩:=ho;have hbi:bs[i]? =some bs[i]:=aq (by omega);have hli:l[i]? =some l[i]:=aq (by omega);obtain⟨hbn,E',hrow⟩:=hB.2 i _ _ hbi hli;obtain⟨b,hb⟩:=nm bs[i];obtain⟨f,hf⟩:=nm l[i];rw[<-hb]at hbn hrow hbi;rw[<-hf]at hrow hli;have hrow':H1.f b= .row true 223 [.int .i64 f.code,.int .i64 f.line,.int .i64 f.aj,E']:=by rw[X.f b hbn];exact hrow
  obtain⟨F,hF⟩:=nm (bs.flatMap pF);have hFl:F.length=n:=by have:=fr 1 (enc:=pF) (λ_=>rfl) bs;rw[<-hF]at this;omega
  have hFd:(F.drop i).take 1=[.pointer (some ⟨b,0,none⟩)]:=by
   have h1:=q7 1 (enc:=pF) (λ_=>rfl) bs i;rw[Nat.mul_one]at h1;rw[hF,h1,gQ (by omega),<-hb];rfl
  rw[<-hF]at ho1;have fC:i+1<=n:=by omega
  have w1:=bO (i:=i) (by omega);have hdl:l.drop i=f::l.drop (i+1):=by rw[gQ (by omega),<-hf]
  simp -implicitDefEqProofs[g2,g6,g7,g8,x2,hin,ho1,hFl,hFd,fC,hrow'];cases hs:xZ f with
  |true=>
   have hsv:oN l=(f.line,f.aj):=(by rw[hsp,hdl];simp[oN,hs]);have hs':(!decide (f.line=0) || !decide (f.aj=0))=true:=hs;rw[hs'];simp -implicitDefEqProofs[g2,g6,g7,g8,x2,hrow',hsv];exact X
  |false=>
   have hs':(!decide (f.line=0) || !decide (f.aj=0))=false:=hs;rw[hs'];simp -implicitDefEqProofs[g2,g6,g7,g8,x2,w1];exact⟨l.length-(i+1),by omega,i+1,rfl,by omega,rfl,by rw[hsp,hdl];simp[oN,hs],by simp[hn]⟩
 .have hie:i=n:=by omega
  have hs0:oN l=(0,0):=by rw[hsp,hie,hn,List.drop_length];rfl
  simp -implicitDefEqProofs[g2,g6,g7,g8,x2,hs0];exact X
def Ym:List UInt8:=[48,49,50,51,52,53,54,55,56,57]
def ID(r:Nat)(hr:r<10):(Ym.take (r+1)).drop r=[UInt8.ofNat (48+r)]:=by
 have:r=0∨r=1∨r=2∨r=3∨r=4∨r=5∨r=6∨r=7∨r=8∨r=9:=by omega
 rcases this with rfl|rfl|rfl|rfl|rfl|rfl|rfl|rfl|rfl|rfl<;>rfl
def vK{u:Nat}(h:u<10):Lib.decDigits u=[UInt8.ofNat (48+u)]:=by rw[Lib.decDigits,dif_pos h]
def vJ{u:Nat}(h:¬u<10):Lib.decDigits u=Lib.decDigits (u / 10)++[UInt8.ofNat (48+u % 10)]:=by rw[Lib.decDigits,dif_neg h]
def Yk:∀(k u:Nat),1<=k->u<10 ^ k->(Lib.decDigits u).length<=k:=by
 intro k;induction k with
 |zero=>intro u h;omega
 |succ k ih=>
  intro u _ hu;by_cases h:u<10
  .rw[vK h];simp
  .rw[vJ h,bH];have hk:1<=k:=by
    rcases Nat.eq_zero_or_pos k with z|z
    .subst z;simp at hu;omega
    .exact z
   have:=ih (u / 10) hk (by rw[Nat.pow_succ]at hu;omega);simp;omega
def uk{u:Nat}(h:u<=18446744073709551615):(Lib.decDigits u).length<=20:=Yk 20 u (by omega) (by omega)
def zF(n0:Nat)(h:aa)(n:Nat)(σ:St):Prop:=∃s:List UInt8,n<=18446744073709551615/\σ.m.h=h/\Lib.decDigits n0=Lib.decDigits n++s/\σ.t.get 0=some (.int .u64 (n:Nat))/\σ.t.get 3=some (.string (B s))
def IE(n:Nat)(hn:n<=18446744073709551615)(h:aa):al PP 131 [.int .u64 (n:Nat)] h (λv h'=>h'=h/\v= .string (B (Lib.decDigits n))):=by
 refine aC Tryz.func131 afh ?_;simp only[aA,Tryz.f131];simp -implicitDefEqProofs;refine bG (zF n h) n ⟨[],hn,rfl,by simp⟩ ?_;rintro m ⟨T,⟨x,H⟩⟩ ⟨s,hm,rfl,hd,g0,g3⟩;simp at g0 g3;simp -implicitDefEqProofs[g0,g3];refine bR (λhc=>?_) (λhc=>?_)
 .have hm9:¬m<10:=by omega
  obtain⟨r,hr⟩:=nm (m % 10);obtain⟨r1,hr1⟩:=nm (r+1);obtain⟨q,hq⟩:=nm (m / 10);have hr10:r<10:=by omega
  have e1:(m:Int).tmod 10=(r:Int):=by rw[Int.tmod_eq_emod_of_nonneg (by omega)];omega
  have e2:(m:Int).tdiv 10=(q:Int):=by rw[Int.tdiv_eq_ediv_of_nonneg (by omega)];omega
  have w0:IntKind.wrap .u64 (r:Int)=(r:Int):=jL (by omega);have w1:IntKind.wrap .u64 ((r:Int)+1)=(r1:Int):=by rw[jL (by omega)];omega
  have w2:IntKind.wrap .u64 (q:Int)=(q:Int):=jL (by omega);obtain⟨ch,hch⟩:=nm (UInt8.ofNat (48+r));have d1:(([48,49,50,51,52,53,54,55,56,57]:List UInt8).take r1).drop r=[ch]:=by rw[hr1,hch];exact ID r hr10
  have hsl:1+s.length<=9223372036854775807:=by have:=congrArg List.length hd;have h2:=uk hn;rw[bH]at this;omega
  have b1:r1<=10:=by omega
  have b2:r<=r1:=by omega
  simp -implicitDefEqProofs[g0,g3,e1,e2,w0,w1,w2,d1,b1,b2,hsl];refine⟨q,by omega,ch::s,by omega,rfl,?_,by simp⟩;rw[hd,vJ hm9,<-hq,<-hr,<-hch,eG];rfl
 .have hm10:m<10:=by omega
  obtain⟨r1,hr1⟩:=nm (m+1);have w1:IntKind.wrap .u64 ((m:Int)+1)=(r1:Int):=by rw[jL (by omega)];omega
  obtain⟨ch,hch⟩:=nm (UInt8.ofNat (48+m));have d1:(([48,49,50,51,52,53,54,55,56,57]:List UInt8).take r1).drop m=[ch]:=by rw[hr1,hch];exact ID m hm10
  have hsl:1+s.length<=9223372036854775807:=by have:=congrArg List.length hd;have h2:=uk hn;rw[bH]at this;omega
  have b1:r1<=10:=by omega
  have b2:m<=r1:=by omega
  have hres:Lib.decDigits n=ch::s:=by rw[hd,vK hm10,hch];rfl
  simp -implicitDefEqProofs[g0,g3,w1,d1,b1,b2,hres,hsl]
def oX(n:Int)(hn: -9223372036854775808<=n/\n<=9223372036854775807)(h:aa):al PP 89 [.int .i64 n] h (λv h'=>h'=h/\v= .string (B (Lib.itoa n))):=by
 refine aC Tryz.func89 ahU ?_;simp only[aA,Tryz.f89];by_cases h1:n<0
 .obtain⟨u,hu⟩:=nm (n.natAbs:Nat);have w1:IntKind.wrap .i64 (n+1)=n+1:=bB (by omega);have w2:IntKind.wrap .i64 (-(n+1))= -(n+1):=bB (by omega);have w2':IntKind.wrap .i64 (-1 + -n)= -1 + -n:=bB (by omega);have w3:IntKind.wrap .u64 (-(n+1))= -(n+1):=jL (by omega);have w3':IntKind.wrap .u64 (-1 + -n)= -1 + -n:=jL (by omega);have w4:IntKind.wrap .u64 (-(n+1)+1)=(u:Int):=by rw[jL (by omega)];omega
  have w4':IntKind.wrap .u64 (-1 + -n+1)=(u:Int):=by rw[jL (by omega)];omega
  have hres:Lib.itoa n=45::Lib.decDigits u:=by unfold Lib.itoa;rw[if_pos h1,hu]
  simp -implicitDefEqProofs[h1,w1,w2,w2',w3,w3',w4,w4'];have hlen:1+(Lib.decDigits u).length<=9223372036854775807:=by have:=uk (u:=u) (by omega);omega
  refine cE (IE u (by omega) h) ?_;simp -implicitDefEqProofs[af,hres,hlen]
 .obtain⟨u,hu⟩:∃u:Nat,n=u:=⟨n.toNat,by omega⟩;have w3:IntKind.wrap .u64 n=(u:Int):=by rw[hu,jL (by omega)]
  have hres:Lib.itoa n=Lib.decDigits u:=by unfold Lib.itoa;rw[if_neg h1];congr 1;omega
  simp -implicitDefEqProofs[h1,w3];refine cE (IE u (by omega) h) ?_;simp -implicitDefEqProofs[af,hres]
end Go.Proofs.Ybk.F
namespace Go.Proofs.Ybk
open Go Go.Am
set_option maxHeartbeats 2000000
open T (bF dm fq dI)
open V (au aR ai ao aZ ab aE)
open F (FR fb cC)
def mP:List UInt8:=[115,101,97,116]
def mh:List UInt8:=[119,104,101,101,108]
def mg:List UInt8:=[99,111,109,112,97,110,105,111,110]
def fE:List UInt8:=[103,97,112]
def gh:List UInt8:=[114,97,100,105,117,115]
def ft:List UInt8:=[107,105,108,108]
def gB:List UInt8:=[112,111,108,101]
def ig(w:List UInt8):Option (List Nat):=
 if w=mP∨w=mh∨w=mg then some [257,225,225]else if w=fE then some [173]else if w=gh then some [256]else if w=ft then some [257,225]else if w=gB then some [225,225,173]else none
def j5(f:Nat)(n:Int):Bool:=if f=257 then aE n 0 999 else if f=225 then aE n (-1048576) 1048576 else if f=173 then aE n 1 1048576 else decide (n=0) || aE n 1 1048576
def uC(f:Nat):List Value:=[.func (.func f) #[] #[]]
def mw(ln aj:Int):List FR:=[⟨2,0,0⟩,⟨2,F.oD ln,F.oD aj⟩]
def xh(h:aa)(l:List FR)(v:Value)(h':aa):Prop:=Ext h h'/\fb h' h'.n v l
def mR(ln aj:Int)(h:aa):al PP 119 [dI ln aj] h (xh h (mw ln aj)):=by
 refine aC Tryz.func119 aeY ?_;simp only[aA,Tryz.f119];simp -implicitDefEqProofs[dI];refine(F.sL 2 ln aj h).mono ?_;rintro v H1 ⟨E1,C1⟩;rw[if_neg (by decide)]at C1;rcases C1.shape with⟨_,q⟩|⟨b,f,E',r,rfl,q,k1,k2,k3⟩
 .cases q
 simp -implicitDefEqProofs[af];intro _;refine(F.aot _ _ 2 H1 C1).mono ?_;rintro v H2 ⟨E2,C2⟩;rw[if_neg (by decide)]at C2;rcases C2.shape with⟨_,q⟩|⟨b,f,E',r,rfl,q,k1,k2,k3⟩
 .cases q
 simp -implicitDefEqProofs[af];intro _;exact⟨E1.trans E2,C2⟩
def pI(t:bF)(h:aa):al PP 159 [fq t] h (λv h'=>h'=h/\v=dI t.line t.aj):=by
 refine aC Tryz.func159 afB ?_;simp only[aA,Tryz.f159];simp -implicitDefEqProofs[fq,dm,dI]
def Zs(b:Nat)(f:FR)(E:Value)(h:aa)(hb:h.f b= .row true 223 [.int .i64 f.code,.int .i64 f.line,.int .i64 f.aj,E]):al PP 148 [.pointer (some ⟨b,0,none⟩)] h (λv h'=>h'=h/\v= .int .i64 f.code):=by
 refine aC Tryz.func148 afp ?_;simp only[aA,Tryz.f148];simp -implicitDefEqProofs[hb]
def rn(w:List UInt8):Int:=if w=mh then 1 else if w=mg then 2 else 0
def oy(w:List UInt8)(h:aa):al PP 217 [.string (B w)] h (λv h'=>h'=h/\v= .int .i64 (rn w)):=by
 refine aC Tryz.func217 agm ?_;simp only[aA,Tryz.f217];unfold rn mh mg;by_cases h1:w=[119,104,101,101,108]
 .simp -implicitDefEqProofs[h1]
 .by_cases h2:w=[99,111,109,112,97,110,105,111,110]
  .simp -implicitDefEqProofs[h2]
  .simp -implicitDefEqProofs[h1,h2]
def ajv(n:Int)(h:aa):al PP 256 [.int .i64 n] h (λv h'=>h'=h/\v= .bool (j5 256 n)):=by
 refine aC Tryz.func256 agK ?_;simp only[aA,Tryz.f256];by_cases h1:n=0
 .simp -implicitDefEqProofs[h1,j5]
 .simp -implicitDefEqProofs[h1,j5];refine cE (V.yY n h) ?_;simp -implicitDefEqProofs[af]
def nG(f:Nat)(hf:f=256∨f=173∨f=257∨f=225)(n:Int)(h:aa):al PP f [.int .i64 n] h (λv h'=>h'=h/\v= .bool (j5 f n)):=by
 rcases hf with rfl|rfl|rfl|rfl
 .exact ajv n h
 .exact V.yY n h
 .exact V.Q8 n h
 .exact V.sx n h
def CA(h:aa)(w:List UInt8)(v:Value)(h':aa):Prop:=Ext h h'/\match ig w with
 |some bs=>∃b,v= .tuple #[.slice (some ⟨b,0,none⟩) bs.length bs.length,.bool true]/\h'.f b= .row true 247 (bs.flatMap uC)/\b<h'.n
 |none=>v= .tuple #[.slice none 0 0,.bool false]
def Wm(w:List UInt8)(h:aa):al PP 216 [.string (B w)] h (CA h w):=by
 refine aC Tryz.func216 agl ?_;simp only[aA,Tryz.f216];have hr3:List.range 3=[0,1,2]:=rfl;have hr2:List.range 2=[0,1]:=rfl;have hr1:List.range 1=[0]:=rfl;have out:∀(bs:List Nat),ig w=some bs->CA h w (.tuple #[.slice (some ⟨h.n,0,none⟩) bs.length bs.length,.bool true]) (h.new (.row true 247 (bs.flatMap uC))):=λbs e=>by
  refine⟨Ext.new h _,?_⟩;rw[e];exact⟨h.n,rfl,by simp⟩
 by_cases h1:w=[115,101,97,116]
 .subst h1;simp -implicitDefEqProofs[aM,hr3];exact out [257,225,225] (by decide)
 by_cases h2:w=[119,104,101,101,108]
 .subst h2;simp -implicitDefEqProofs[aM,hr3];exact out [257,225,225] (by decide)
 by_cases h3:w=[99,111,109,112,97,110,105,111,110]
 .subst h3;simp -implicitDefEqProofs[aM,hr3];exact out [257,225,225] (by decide)
 by_cases h4:w=[103,97,112]
 .subst h4;simp -implicitDefEqProofs[aM,hr1];exact out [173] (by decide)
 by_cases h5:w=[114,97,100,105,117,115]
 .subst h5;simp -implicitDefEqProofs[aM,hr1];exact out [256] (by decide)
 by_cases h6:w=[107,105,108,108]
 .subst h6;simp -implicitDefEqProofs[aM,hr2];exact out [257,225] (by decide)
 by_cases h7:w=[112,111,108,101]
 .subst h7;simp -implicitDefEqProofs[aM,hr3];exact out [225,225,173] (by decide)
 .simp -implicitDefEqProofs[h1,h2,h3,h4,h5,h6,h7];refine⟨Ext.bJ h,?_⟩;have e:ig w=none:=by simp only[ig,mP,mh,mg,fE,gh,ft,gB,h1,h2,h3,h4,h5,h6,h7,or_self,if_false]
  rw[e]
end Go.Proofs.Ybk
namespace Go.Proofs.Ybk
open Go Go.Am
set_option maxHeartbeats 4000000
open T (bF dm fq dI fU)
open V (au aR ai ao aZ ab aE)
open F (FR fb cC)
def jG(bl bc:Int):List Nat->List bF->Option (Int×Int)
 |[],_=>none
 |_::_,[]=>some (bl,bc)
 |_::bs,t::r=>if t.kind=2 then jG bl bc bs r else some (t.line,t.aj)
def km:List Nat->List bF->Option (Int×Int)
 |b::bs,t::r=>if j5 b t.n then km bs r else some (t.line,t.aj)
 |_,_=>none
def mB(bs:List Nat)(rest:List bF)(bl bc:Int):Option (Int×Int):=match jG bl bc bs rest with
 |some e=>some e
 |none=>match rest.drop bs.length with
  |t::_=>some (t.line,t.aj)
  |[]=>km bs rest
def kc(t:bF):Option (List Nat):=if t.kind=1 then ig t.text else none
def fc(ts:List bF)(bl bc:Int):Option (Int×Int):=match ts with
 |[]=>none
 |t0::rest=>match kc t0 with
  |none=>some (t0.line,t0.aj)
  |some bs=>mB bs rest bl bc
def rR{cells rest:List Value}{p:Nat}{t:bF}(h:cells.drop p=dm t++rest):cells.drop p= .int .i64 t.kind:: .int .i64 t.n:: .int .i64 t.line:: .int .i64 t.aj:: .string (B t.text)::rest/\
  cells.drop (p+1)= .int .i64 t.n:: .int .i64 t.line:: .int .i64 t.aj:: .string (B t.text)::rest/\cells.drop (p+4)= .string (B t.text)::rest:=by
 refine⟨h,?_,?_⟩
 .rw[<-eh,h];rfl
 .rw[<-eh,h];rfl
def Df{w:List UInt8}{bs:List Nat}(h:ig w=some bs):bs.length<=3/\1<=bs.length/\∀b∈bs,b=256∨b=173∨b=257∨b=225:=by
 unfold ig at h;repeat' split at h
 all_goals first
  |(simp only[av]at h;subst h;decide)
  |cases h
def lh{h h':aa}{a b:Int}{E:Value}(H:xh h (mw a b) E h'):∃b,E= .iface 207 (.pointer (some ⟨b,0,none⟩)):=by
 rcases H.2.shape with⟨_,q⟩|⟨b,f,E',r,rfl,q,_⟩
 .cases q
 .exact⟨b,rfl⟩
def CO(h:aa)(ts:List bF)(bl bc:Int)(v:Value)(h':aa):Prop:=Ext h h'/\match fc ts bl bc with
 |some e=>∃E,v= .tuple #[.slice none 0 0,E]/\fb h' h'.n E (mw e.1 e.2)
 |none=>∃s,v= .tuple #[s,.nilIface]/\cO 3 ab h h' s (ts.tail.map (·.n))
def CE(h:aa)(sv:Value)(bb:Nat)(bs:List Nat)(rest:List bF)(bl bc:Int)(m:Nat)(σ:St):Prop:=∃(k:Nat)(o:Option Nat)(v:Value),m=bs.length-k/\k<=bs.length/\k<=rest.length/\Ext h σ.m.h/\F.bP 3 ab h σ.m.h o ((rest.take k).map (·.n)) v/\
 jG bl bc bs rest=jG bl bc (bs.drop k) (rest.drop k)/\σ.t.get 0=some sv/\σ.t.get 3=some (.pointer (some ⟨3,0,some 0⟩))/\σ.t.get 6=some (.slice (some ⟨bb,0,none⟩) bs.length bs.length)/\σ.t.get 8=some v/\
 σ.t.get 35=some (.int .i64 (bs.length:Nat))/\σ.t.get 36=some (.int .i64 (k:Nat))/\σ.m.x.look 3=some (36,[.int .i64 bl,.int .i64 bc])
def Uo(H:aa)(sv ov bv:Value)(bs:List Nat)(rest:List bF)(n m:Nat)(σ:St):Prop:=∃j:Nat,m=n-j/\j<=n/\σ.m.h=H/\km bs rest=km (bs.drop j) (rest.drop j)/\
 σ.t.get 0=some sv/\σ.t.get 8=some ov/\σ.t.get 86=some bv/\σ.t.get 87=some (.int .i64 (n:Nat))/\σ.t.get 88=some (.int .i64 (j:Nat))
def acU(sv:Value)(t0:bF)(rest:List bF)(bl bc:Int)(hl:rest.length<=1073741824)(h:aa)(hs:fU h sv (t0::rest)):al PP 160 [sv,dI bl bc] h (CO h (t0::rest) bl bc):=by
 refine aC Tryz.func160 afD ?_;simp only[aA,Tryz.f160];obtain⟨ad,c,rfl,_⟩:=id hs;obtain⟨_,b,off,w,cells,r0,rfl,e2,e3,e4,e5⟩:=hs.at (i:=0) (t:=t0) rfl;simp only[Nat.zero_mul,ie]at e3 e4;obtain⟨d0,d1,d4⟩:=rR e3;have hl0:off+1<=cells.length:=by omega
 have hl4:off+4+1<=cells.length:=by omega
 have hl5:off+5<=cells.length:=by omega
 simp -implicitDefEqProofs[e2,d0,d4,hl0,hl4,dI];refine(Wm t0.text h).mono ?_;rintro v H1 ⟨E1,hB⟩;have e2':H1.f b= .row w 193 cells:=by rw[E1.f b e5,e2]
 have d5:(cells.drop off).take 5=dm t0:=by rw[d0];rfl
 have sp0:=pI t0 H1;simp only[fq,dm]at sp0;have fin:kc t0=none->∀E H2,xh H1 (mw t0.line t0.aj) E H2->CO h (t0::rest) bl bc (.tuple #[.slice none 0 0,E]) H2:=λhw E H2 ⟨q1,q2⟩=>by
  refine⟨E1.trans q1,?_⟩;have hle:fc (t0::rest) bl bc=some (t0.line,t0.aj):=by simp only[fc,hw]
  rw[hle];exact⟨E,rfl,q2⟩
 cases hbn:ig t0.text with
 |none=>
  have hw:kc t0=none:=by unfold kc;rw[hbn];split<;>rfl
  rw[hbn]at hB;subst hB;by_cases hk:t0.kind=1;all_goals
   try rw[hk]at sp0
   simp -implicitDefEqProofs[af,e2',d0,hl0,hl5,hk]
   intro _
   refine cE sp0 ?_
   simp -implicitDefEqProofs[af]
   intro _
   refine(mR t0.line t0.aj H1).mono ?_
   intro E H2 hE
   obtain⟨be,rfl⟩:=lh hE
   simp -implicitDefEqProofs[af]
   intro _
   exact fin hw _ H2 hE
 |some bs=>
  rw[hbn]at hB;obtain⟨bb,rfl,hbb,hbl⟩:=hB;by_cases hk:t0.kind=1;rotate_left
  .have hw:kc t0=none:=(by unfold kc;rw[if_neg hk]);simp -implicitDefEqProofs[af,e2',d0,hl0,hl5,hk];intro _;refine cE sp0 ?_;simp -implicitDefEqProofs[af];intro _;refine(mR t0.line t0.aj H1).mono ?_;intro E H2 hE;obtain⟨be,rfl⟩:=lh hE;simp -implicitDefEqProofs[af];intro _;exact fin hw _ H2 hE
  .have hw:kc t0=some bs:=(by unfold kc;rw[if_pos hk];exact hbn);simp -implicitDefEqProofs[af,e2',d0,hl0,hl5,hk];intro _;obtain⟨hb3,bD,hbf⟩:=Df hbn;obtain⟨nb,hnb⟩:=nm bs.length;rw[<-hnb]at hb3 bD;refine bG (CE H1 (.slice (some ⟨b,off,none⟩) (rest.length+1) c) bb bs rest bl bc) nb ⟨0,none,.slice none 0 0,by omega,by omega,by omega,Ext.bJ H1,F.bP.nil,rfl,by simp[hnb]⟩ ?_;rintro m ⟨T,⟨x,H⟩⟩ ⟨k,o,v,rfl,hk1,hk2,E2,hO,hch,g0,g3,g6,g8,g35,g36,x3⟩;simp at E2 g0 g3 g6 g8 g35 g36 x3;rw[<-hnb]at hk1 g6 g35;obtain⟨rfl,ho⟩:=id hO;have hol:((rest.take k).map (·.n)).length=k:=(by rw[cf,dh];omega);rw[hol]at g8 hO;have bN:H.f bb= .row true 247 (bs.flatMap uC):=(by rw[E2.f bb hbl];exact hbb);have hsH:=(hs.ext E1).ext E2;simp -implicitDefEqProofs[g0,g3,g6,g8,g35,g36,x3];refine bR (λhc=>?_) (λhc=>?_)
   .have w1:=bO (i:=k) (by omega);have hkb:k<bs.length:=(by omega);obtain⟨bx,br,hbd⟩:∃x r,bs.drop k=x::r:=⟨_,_,gQ hkb⟩;by_cases hend:rest.length<=k
    .have hke:k=rest.length:=(by omega);have hle:fc (t0::rest) bl bc=some (bl,bc):=by
      simp only[fc,hw,mB,hch];rw[hbd,hke,List.drop_length];rfl
     simp -implicitDefEqProofs[g0,g3,g6,g8,g35,g36,x3,w1,hend];refine(mR bl bc H).mono ?_;intro E H2 hE;obtain⟨be,rfl⟩:=lh hE;simp -implicitDefEqProofs[af];intro _;refine⟨(E1.trans E2).trans hE.1,?_⟩;rw[hle];exact⟨_,rfl,hE.2⟩
    .have hkr:k<rest.length:=(by omega);obtain⟨t,ht⟩:=nm rest[k];have hget:(t0::rest)[k+1]? =some t:=(by rw[List.getElem?_cons_succ,ht];exact aq hkr);have hrd:rest.drop k=t::rest.drop (k+1):=(by rw[ht];exact gQ hkr);obtain⟨_,b',off',w',cells',r',q1,q2,q3,q4,q5⟩:=hsH.at hget;simp only[av,Addr.mk.injEq,and_true]at q1;obtain⟨rfl,rfl⟩:=q1;obtain⟨p0,p1,p4⟩:=rR q3;have p5:(cells'.drop (off+(k+1)*5)).take 5=dm t:=(by rw[q3];rfl);have k0:(0:Int)<=(k:Int)+1:=(by omega);have n0:off+(k+1)*5+1<=cells'.length:=(by omega);have n1:off+(k+1)*5+1+1<=cells'.length:=(by omega);have n5:off+(k+1)*5+5<=cells'.length:=(by omega);by_cases ht2:t.kind=2
     .have hch2:jG bl bc bs rest=jG bl bc (bs.drop (k+1)) (rest.drop (k+1)):=by
       have hb1':bs.drop (k+1)=br:=(by rw[<-eh,hbd];rfl);rw[hch,hbd,hrd,jG,if_pos ht2,hb1']
      have htk:(rest.take (k+1)).map (·.n)=(rest.take k).map (·.n)++[t.n]:=by
       rw[fL,aq hkr,<-ht];simp
      have hr1:List.range 1=[0]:=rfl
      have nxt:∀σ2:St,Ext H1 σ2.m.h->∀o',F.bP 3 ab H1 σ2.m.h (some o') ((rest.take (k+1)).map (·.n)) (.slice (some ⟨o',0,none⟩) (k+1) (k+1))->σ2.t.get 0=some (.slice (some ⟨b,off,none⟩) (rest.length+1) c)->
        σ2.t.get 3=some (.pointer (some ⟨3,0,some 0⟩))->σ2.t.get 6=some (.slice (some ⟨bb,0,none⟩) nb nb)->σ2.t.get 8=some (.slice (some ⟨o',0,none⟩) (k+1) (k+1))->σ2.t.get 35=some (.int .i64 (nb:Nat))->σ2.t.get 36=some (.int .i64 ((k+1:Nat):Int))->σ2.m.x.look 3=some (36,[.int .i64 bl,.int .i64 bc])->
        ∃j,j<bs.length-k/\CE H1 (.slice (some ⟨b,off,none⟩) (rest.length+1) c) bb bs rest bl bc j σ2:=by
       intro σ2 x1 o' x2 y0 y3 y6 y8 y35 y36 yx;exact⟨bs.length-(k+1),by omega,k+1,some o',_,rfl,by omega,by omega,x1,x2,hch2,y0,y3,by rw[y6,hnb],y8,by rw[y35,hnb],y36,yx⟩
      cases o with
      |none=>
       simp only at ho
       have hk0:k=0:=by have:=congrArg List.length ho;rw[hol]at this;exact this
       subst hk0
       have hre:rest≠[]:=by intro q;rw[q]at hkr;simp at hkr
       have hw1:IntKind.wrap .i64 1=1:=rfl
       have hr1':¬((rest.length:Int)+1<=1):=by omega
       have hr2':0<rest.length:=hkr
       have hr3':(1:Int)<(rest.length:Int)+1:=by omega
       simp only[iG,Nat.one_mul,ie]at q3 p0 p1 n0 n1 n5
       simp -implicitDefEqProofs[hre,hw1,hr1',hr2',hr3',g0,g3,g6,g8,g35,g36,x3,w1,hend,hkr,k0,q2,p0,p1,n0,n1,ht2,aM,hr1,dC,dS,dH]
       refine nxt _ ?_ (H.n+1) ⟨by rw[htk];simp,?_,?_,?_⟩ (by simp) (by simp) (by simp) (by simp) (by simp) (by simp) (by simp)
       .exact(Ext.bI E2 _).bI _
       .rw[htk];simp[ab]
       .have:=E2.n;omega
       .simp
      |some bp=>
       simp only at ho
       obtain⟨hq1,hq2,hq3⟩:=ho
       obtain⟨K,hK⟩:=nm (((rest.take k).map (·.n)).flatMap ab)
       have hKl:K.length=k:=by have:=fr 1 (enc:=ab) (λ_=>rfl) ((rest.take k).map (·.n));rw[<-hK,hol]at this;omega
       rw[<-hK]at hq1
       have e8:K.take k=K:=b9 (by omega)
       have o1:¬bp=H.n:=by omega
       have hmx:(k+1)*8<=140737488355328:=by omega
       simp -implicitDefEqProofs[g0,g3,g6,g8,g35,g36,x3,w1,hend,hkr,k0,q2,p0,p1,n0,n1,ht2,aM,hr1,dC,dS,dH,hq1,hKl,e8,hmx,o1]
       refine nxt _ ?_ (H.n+1) ⟨by simp;omega,?_,?_,?_⟩ (by simp) (by simp) (by simp) (by simp) (by simp) (by simp) (by simp)
       .exact((Ext.bI E2 _).dp hq2 _).bI _
       .rw[htk,List.flatMap_append,<-hK];simp[ab]
       .have:=E2.n;omega
       .simp
     .have hle:fc (t0::rest) bl bc=some (t.line,t.aj):=by
       simp only[fc,hw,mB,hch];rw[hbd,hrd,jG,if_neg ht2]
      have spt:=pI t H
      simp only[fq,dm]at spt
      simp -implicitDefEqProofs[g0,g3,g6,g8,g35,g36,x3,w1,hend,hkr,k0,q2,p0,p1,n0,n1,n5,ht2]
      refine cE spt ?_
      simp -implicitDefEqProofs[af]
      intro _
      refine(mR t.line t.aj H).mono ?_
      intro E H2 hE
      obtain⟨be,rfl⟩:=lh hE
      simp -implicitDefEqProofs[af]
      intro _
      refine⟨(E1.trans E2).trans hE.1,?_⟩
      rw[hle]
      exact⟨_,rfl,hE.2⟩
   .have hkn:k=nb:=(by omega);subst hkn;have hch0:jG bl bc bs rest=none:=(by rw[hch,List.drop_of_length_le (by omega)];rfl);by_cases hmore:k<rest.length
    .obtain⟨t,ht⟩:=nm rest[k];have hget:(t0::rest)[k+1]? =some t:=(by rw[List.getElem?_cons_succ,ht];exact aq hmore);have hrd:rest.drop k=t::rest.drop (k+1):=(by rw[ht];exact gQ hmore);obtain⟨_,b',off',w',cells',r',q1,q2,q3,q4,q5⟩:=hsH.at hget;simp only[av,Addr.mk.injEq,and_true]at q1;obtain⟨rfl,rfl⟩:=q1;obtain⟨p0,p1,p4⟩:=rR q3;have w1:=bO (i:=k) (by omega);have k0:(0:Int)<=(k:Int)+1:=(by omega);have n5:off+(k+1)*5+5<=cells'.length:=(by omega);have hle:fc (t0::rest) bl bc=some (t.line,t.aj):=by
      simp only[fc,hw,mB,hch0];rw[<-hnb,hrd]
     have spt:=pI t H;simp only[fq,dm]at spt;simp -implicitDefEqProofs[g0,g3,g6,g8,g35,g36,x3,w1,k0,hmore,q2,p0,n5];refine cE spt ?_;simp -implicitDefEqProofs[af];intro _;refine(mR t.line t.aj H).mono ?_;intro E H2 hE;obtain⟨be,rfl⟩:=lh hE;simp -implicitDefEqProofs[af];intro _;refine⟨(E1.trans E2).trans hE.1,?_⟩;rw[hle];exact⟨_,rfl,hE.2⟩
    .have hkl:k=rest.length:=(by omega);have w1:IntKind.wrap .i64 ((rest.length:Int)+1)=((rest.length+1:Nat):Int):=(by rw[bB (by omega)];omega);have hle0:fc (t0::rest) bl bc=km bs rest:=by
      simp only[fc,hw,mB,hch0];rw[<-hnb,hkl,List.drop_length]
     obtain⟨bo,rfl⟩:∃bo,o=some bo:=by
      cases o with
      |none=>simp only at ho;rw[ho]at hol;simp at hol;omega
      |some b=>exact⟨b,rfl⟩
     simp only at ho;obtain⟨hq1,hq2,hq3⟩:=ho;rw[hkl,jZ]at hq1 hO;rw[<-hkl]at hO;simp -implicitDefEqProofs[g0,g3,g6,g8,g35,g36,x3,w1,hkl];refine bG (Uo H (.slice (some ⟨b,off,none⟩) (rest.length+1) c) (.slice (some ⟨bo,0,none⟩) rest.length rest.length) (.slice (some ⟨bb,0,none⟩) rest.length rest.length) bs rest rest.length) rest.length ⟨0,by omega,by omega,rfl,rfl,by simp⟩ ?_;clear g0 g3 g6 g8 g35 g36 x3;rintro m ⟨T,⟨x,H'⟩⟩ ⟨j,rfl,hj,rfl,hmay,g0,g8,g86,g87,g88⟩;simp at g0 g8 g86 g87 g88;simp -implicitDefEqProofs[g0,g8,g86,g87,g88];refine bR (λhc2=>?_) (λhc2=>?_)
     .have hjr:j<rest.length:=(by omega);have hjb:j<bs.length:=(by omega);obtain⟨t,ht⟩:=nm rest[j];obtain⟨f,hf⟩:=nm bs[j];have hbd:bs.drop j=f::bs.drop (j+1):=(by rw[hf];exact gQ hjb);have hrd:rest.drop j=t::rest.drop (j+1):=(by rw[ht];exact gQ hjr);have hff:=hbf f (by rw[hf];exact fG hjb);obtain⟨F,hF⟩:=nm (bs.flatMap uC);have hFl:F.length=bs.length:=(by have:=fr 1 (enc:=uC) (λ_=>rfl) bs;rw[<-hF]at this;omega);have hFd:(F.drop j).take 1=[.func (.func f) #[] #[]]:=by
       have h1:=q7 1 (enc:=uC) (λ_=>rfl) bs j;rw[Nat.mul_one]at h1;rw[hF,h1,hbd];rfl
      rw[<-hF]at bN;obtain⟨K,hK⟩:=nm ((rest.map (·.n)).flatMap ab);have hKl:K.length=rest.length:=(by have:=fr 1 (enc:=ab) (λ_=>rfl) (rest.map (·.n));rw[<-hK,cf]at this;omega);have hKd:(K.drop j).take 1=[.int .i64 t.n]:=by
       have h1:=q7 1 (enc:=ab) (λ_=>rfl) (rest.map (·.n)) j;rw[Nat.mul_one]at h1;rw[hK,h1,<-List.map_drop,hrd];rfl
      rw[<-hK]at hq1;have bN:H'.f bb= .row true 247 F:=bN;have hq1:H'.f bo= .row true 3 K:=hq1;have hsH':fU H' (.slice (some ⟨b,off,none⟩) (rest.length+1) c) (t0::rest):=hsH;have j1:j+1<=F.length:=(by omega);have j2:j+1<=K.length:=(by omega);simp -implicitDefEqProofs[g0,g8,g86,g87,g88,hjr,bN,hFd,j1,hq1,hKd,j2];refine cE (nG f hff t.n H') ?_;cases hmf:j5 f t.n with
      |true=>
       have e4:=bO (i:=j) (by omega);simp -implicitDefEqProofs[af,g0,g8,g86,g87,g88,e4];intro _;exact⟨rest.length-(j+1),by omega,j+1,rfl,by omega,rfl,by rw[hmay,hbd,hrd,km,if_pos hmf],by simp[g0,g8,g86,g87]⟩
      |false=>
       have hget:(t0::rest)[j+1]? =some t:=(by rw[List.getElem?_cons_succ,ht];exact aq hjr);obtain⟨_,b',off',w',cells',r',q1,q2,q3,q4,q5⟩:=hsH'.at hget;simp only[av,Addr.mk.injEq,and_true]at q1;obtain⟨rfl,rfl⟩:=q1;obtain⟨p0,p1,p4⟩:=rR q3;have wj:=bO (i:=j) (by omega);have k0:(0:Int)<=(j:Int)+1:=(by omega);have n5:off+(j+1)*5+5<=cells'.length:=(by omega);have hle:fc (t0::rest) bl bc=some (t.line,t.aj):=by
        rw[hle0,hmay,hbd,hrd,km,hmf];rfl
       have spt:=pI t H';simp only[fq,dm]at spt;simp -implicitDefEqProofs[af,g0,g8,g86,g87,g88,wj,k0,hjr,q2,p0,n5];intro _;refine cE spt ?_;simp -implicitDefEqProofs[af];intro _;refine(mR t.line t.aj H').mono ?_;intro E H2 hE;obtain⟨be,rfl⟩:=lh hE;simp -implicitDefEqProofs[af];intro _;refine⟨(E1.trans E2).trans hE.1,?_⟩;rw[hle];exact⟨_,rfl,hE.2⟩
     .have hje:j=rest.length:=(by omega);have hnone:km bs rest=none:=(by rw[hmay,hje,List.drop_length];cases bs.drop rest.length<;>rfl);simp -implicitDefEqProofs[g0,g8,g86,g87,g88];refine⟨E1.trans E2,?_⟩;rw[hle0,hnone];exact⟨_,rfl,_,by rw[List.tail_cons,cf],.inr ⟨bo,rfl,hq1,eY E1.n hq2,hq3⟩⟩
end Go.Proofs.Ybk
namespace Go.Proofs.Ybk
open Go Go.Am
set_option maxHeartbeats 2000000
open T (bF dm fq dI fU)
open V (au aR ai ao aZ ab aE)
open F (FR fb cC)
def im:PP=Tryz.prog:=by unfold PP;rfl
def nD(row x:Int):Value:=.agg ⟨[.int .i64 row,.int .i64 x]⟩
def xO(s:au)(i:Nat):MapEntry:=⟨nD s.row s.x,.int .i64 (i:Nat),i⟩
def qX:List au->Nat->List MapEntry
 |[],_=>[]
 |s::r,i=>xO s i::qX r (i+1)
def o0(l:List au):List MapEntry:=qX l 0
def mJ(row x:Int):List au->Nat->Option Nat
 |[],_=>none
 |s::r,i=>if s.row=row/\s.x=x then some i else mJ row x r (i+1)
def kr(l:List au)(row x:Int):Option Nat:=mJ row x l 0
def Ib(e:Bool)(a b:Int):(Instr.checkKey e 10000 228 (nD a b)).aU PP=some ():=by
 rw[im];cases e<;>kernel_rfl
def Ze(a b c d:Int):(Op.equal 228 (nD a b) (nD c d)).aU PP=some (decide (a=c)&&decide (b=d)):=by
 have h:sA PP 228 [.int .i64 a,.int .i64 b] [.int .i64 c,.int .i64 d]=some (decide (a=c)&&decide (b=d)):=by
  simp[sA,nq,dz]
 exact(Ar h).2.1
def ai6{a b:Int}{l:List au}{i k:Nat}(h:mJ a b l i=some k):i<=k:=by
 induction l generalizing i with
 |nil=>cases h
 |cons s r ih=>
  simp only[mJ]at h;split at h
  .simp only[av]at h;omega
  .have:=ih h;omega
def V6(a b:Int)(l:List au)(i j:Nat):(Instr.findAsking 228 (nD a b) (qX l i) j).aU PP=some ((mJ a b l i).map λk=>(k-i+j,.int .i64 (k:Nat))):=by
 induction l generalizing i j with
 |nil=>rfl
 |cons s r ih=>
  simp only[qX,Instr.findAsking,cM,xO,Ze,ep,mJ];by_cases h1:s.row=a/\s.x=b
  .have h2:(decide (a=s.row)&&decide (b=s.x))=true:=(by simp[h1.1,h1.2]);simp[h2,h1,th]
  .have h2:(decide (a=s.row)&&decide (b=s.x))=false:=by
    rw[<-mq];intro q;simp at q;exact h1 ⟨q.1.symm,q.2.symm⟩
   rw[h2,if_neg h1]
   simp only[fw,if_false,ih]
   cases hp:mJ a b r (i+1)with
   |none=>rfl
   |some k=>
    have:=ai6 hp
    simp only[fV,av,bM,and_true]
    omega
def Kl(a b:Int)(l:List au):(Instr.findKey 228 (nD a b) (o0 l)).aU PP=some ((kr l a b).map λk=>(k,.int .i64 (k:Nat))):=by
 simp only[Instr.findKey,cM,pG RU,ep];cases l with
 |nil=>rfl
 |cons s r=>
  have e:Instr.findNow (Go.TypeDesc.struct #[⟨ "row",3,0,false,"","parterre/parse",0⟩,⟨ "x",3,1,false,"","parterre/parse",8⟩]) (nD a b) (o0 (s::r)) 0=none:=rfl;rw[e];have:=V6 a b (s::r) 0 0;simp only[Nat.sub_zero,ie]at this;exact this
def Kn(a b:Int)(l:List au):(pV 228 3 (nD a b) (o0 l).toArray true).aU PP=some (.tuple #[.int .i64 (((kr l a b).getD 0:Nat):Int),.bool (kr l a b).isSome]):=by
 have hz:(zeroValue 3).aU PP=some (.int .i64 0):=by rw[im];kernel_rfl
 simp only[pV,cM,Ib,ep,Kl];cases hp:kr l a b with
 |none=>
  show(zeroValue 3 >>= λa=>pure (Value.tuple #[a,.bool false]):Sem Value).aU PP=_;rw[cM,hz];rfl
 |some k=>simp[cM,th]
def aok(a b:Int)(l:List au):(tK 228 (nD a b) (o0 l).toArray).aU PP=some ((kr l a b).map λk=>(k,.int .i64 (k:Nat))):=by
 simp only[tK,cM,Ib,ep,Kl]
def Y8(l:List au)(s:au)(i:Nat):qX (l++[s]) i=qX l i++[xO s (i+l.length)]:=by
 induction l generalizing i with
 |nil=>rfl
 |cons a r ih=>simp only[dB,qX,ih,eW];rw[show i+1+r.length=i+(r.length+1) by omega]
def Zc(l:List au)(s:au):o0 (l++[s])=o0 l++[xO s l.length]:=by
 have:=Y8 l s 0;rw[iG]at this;exact this
end Go.Proofs.Ybk
namespace Go.Proofs.Ybk
open Go Go.Am
set_option maxHeartbeats 4000000
open T (bF dm fq dI fU)
open V (au aR ai ao aZ ab aE)
open F (FR fb cC)
structure kU where
 row:Int
 x:Int
 line:Int
 aj:Int
 rL:Int
 rJ:Int
deriving DecidableEq
def l4(k:kU):List Value:=[.int .i64 k.row,.int .i64 k.x,.int .i64 k.line,.int .i64 k.aj,.int .i64 k.rL,.int .i64 k.rJ]
structure Rd where
 ag:List au
 aV:Int
 bA:Int
 aD:List kU
 aG:List aR
 eT:Bool
deriving DecidableEq
def gH:Rd:=⟨[],0,0,[],[],false⟩
def di(r:Rd)(t0:bF)(rest:List bF):Rd×Bool:=
 let n:=λi=>(rest.getD i T.kC).n
 if t0.text=fE then(if 0<r.aV then(r,false)else({r with aV:=n 0},true))
 else if t0.text=gh then(if r.eT then(r,false)else({r with eT:=true,bA:=n 0},true))
 else if t0.text=ft then
  let k:=r.aD++[⟨n 0,n 1,t0.line,t0.aj,(rest.getD 0 T.kC).line,(rest.getD 0 T.kC).aj⟩]
  ({r with aD:=k},decide (k.length<=200))
 else if t0.text=gB then
  let p:=r.aG++[⟨n 0,n 1,n 2⟩]
  ({r with aG:=p},decide (p.length<=200))
 else match kr r.ag (n 0) (n 1)with
  |some _=>(r,false)
  |none=>let s:=r.ag++[⟨n 0,n 1,n 2,rn t0.text⟩];({r with ag:=s},decide (s.length<=4096))
def mn(h0 h:aa)(r:Rd)(el ec:Int)(ks:Value)(br:Nat):Prop:=∃(os op ok:Option Nat)(ss sp sk:Value)(bm:Nat),
 h.f br= .row true 170 [ss,.int .i64 r.aV,.int .i64 r.bA,ks,sp,.int .i64 el,.int .i64 ec,.map (some bm),sk,.bool r.eT]/\h0.n<=br/\br<h.n/\
 F.bP 99 ao h0 h os r.ag ss/\F.bP 103 aZ h0 h op r.aG sp/\F.bP 230 l4 h0 h ok r.aD sk/\h.f bm= .obj (.map (o0 r.ag).toArray r.ag.length)/\h0.n<=bm/\bm<h.n
def QW(r:Rd):Prop:=r.ag.length<=1000000/\r.aD.length<=1000000/\r.aG.length<=1000000
def QZ{w:List UInt8}{bs:List Nat}(h:ig w=some bs){rest:List bF}(hl:rest.length=bs.length):
  ((w=fE∨w=gh)/\∃a,rest=[a])∨(w=ft/\∃a b,rest=[a,b])∨((w=gB∨w=mP∨w=mh∨w=mg)/\∃a b c,rest=[a,b,c]):=by
 have l1:rest.length=1->∃a,rest=[a]:=λq=>by
  match rest,q with
  |[a],_=>exact⟨a,rfl⟩
 have l2:rest.length=2->∃a b,rest=[a,b]:=λq=>by
  match rest,q with
  |[a,b],_=>exact⟨a,b,rfl⟩
 have l3:rest.length=3->∃a b c,rest=[a,b,c]:=λq=>by
  match rest,q with
  |[a,b,c],_=>exact⟨a,b,c,rfl⟩
 unfold ig at h;split at h
 .rename_i hw;simp only[av]at h;subst h;exact .inr (.inr ⟨.inr hw,l3 hl⟩)
 split at h
 .rename_i hw;simp only[av]at h;subst h;exact .inl ⟨.inl hw,l1 hl⟩
 split at h
 .rename_i hw;simp only[av]at h;subst h;exact .inl ⟨.inr hw,l1 hl⟩
 split at h
 .rename_i hw;simp only[av]at h;subst h;exact .inr (.inl ⟨hw,l2 hl⟩)
 split at h
 .rename_i hw;simp only[av]at h;subst h;exact .inr (.inr ⟨.inl hw,l3 hl⟩)
 .cases h
def l8{α:Type}{e:TypeId}{enc:α->List Value}{h0 h:aa}{o:Option Nat}{xs:List α}{v:Value}(H:F.bP e enc h0 h o xs v){b:Nat}{e':TypeId}{cs:List Value}(hb:h.f b= .row true e' cs)(he:e≠e'):o≠some b:=by
 rintro rfl;have h1:=H.2.1;rw[hb]at h1;simp only[aW.row.injEq]at h1;exact he h1.2.1.symm
def tc{α:Type}{e:TypeId}{enc:α->List Value}{h0 h:aa}{o:Option Nat}{xs:List α}{v:Value}(H:F.bP e enc h0 h o xs v){b:Nat}{ob:Obj}(hb:h.f b= .obj ob):o≠some b:=by
 rintro rfl;have h1:=H.2.1;rw[hb]at h1;cases h1
def mn.put{h0 h:aa}{r:Rd}{el ec:Int}{ks:Value}{br:Nat}(R:mn h0 h r el ec ks br)(aV bA:Int)(eT:Bool):∃(os op ok:Option Nat)(ss sp sk:Value)(bm:Nat),
  h.f br= .row true 170 [ss,.int .i64 r.aV,.int .i64 r.bA,ks,sp,.int .i64 el,.int .i64 ec,.map (some bm),sk,.bool r.eT]/\
  mn h0 (h.set br (.row true 170 [ss,.int .i64 aV,.int .i64 bA,ks,sp,.int .i64 el,.int .i64 ec,.map (some bm),sk,.bool eT])) {r with aV:=aV,bA:=bA,eT:=eT} el ec ks br:=by
 obtain⟨os,op,ok,ss,sp,sk,bm,hbr,hbr1,hbr2,hos,hop,hok,hbm,hbm1,hbm2⟩:=R;refine⟨os,op,ok,ss,sp,sk,bm,hbr,os,op,ok,ss,sp,sk,bm,by simp,hbr1,hbr2,hos.nR _ (l8 hos hbr (by decide)),hop.nR _ (l8 hop hbr (by decide)),hok.nR _ (l8 hok hbr (by decide)),?_,hbm1,hbm2⟩;rw[fI,if_neg]
 .exact hbm
 .rintro rfl;rw[hbr]at hbm;cases hbm
def akG(h:aa)(b:Nat)(x y:aW):(h.set b x).set b y=h.set b y:=by
 unfold aa.set;congr 1;funext i;by_cases hi:i=b<;>simp[hi]
def iK(h:aa)(o:Option Nat)(c0 c1:aW):aa:=match o with
 |none=>(h.new c0).new c1
 |some b=>((h.new c0).set b .dead).new c1
def pY(h:aa)(o:Option Nat)(c0 c1:aW):(iK h o c0 c1).n=h.n+1+1:=by cases o<;>simp[iK]
def AJ(h:aa)(o:Option Nat)(c0 c1:aW){b:Nat}(hb:b<h.n)(ho:o≠some b):(iK h o c0 c1).f b=h.f b:=by
 have n1:¬b=h.n:=by omega
 have n2:¬b=h.n+1:=by omega
 cases o with
 |none=>simp[iK,n1,n2]
 |some x=>
  have n3:¬b=x:=λq=>ho (by rw[q]);simp[iK,n1,n2,n3]
def aiJ{α:Type}{e:TypeId}{enc:α->List Value}{h0 h h':aa}{o:Option Nat}{xs:List α}{v:Value}(H:F.bP e enc h0 h o xs v)(hs:∀b,o=some b->h'.f b=h.f b)(hn:h.n<=h'.n):F.bP e enc h0 h' o xs v:=by
 obtain⟨rfl,z⟩:=H;refine⟨rfl,?_⟩;cases o with
 |none=>exact z
 |some b=>exact⟨by rw[hs b rfl];exact z.1,z.2.1,cV z.2.2 hn⟩
def yM{α:Type}{e:TypeId}{enc:α->List Value}{h0 h:aa}{o:Option Nat}{xs:List α}{v:Value}(H:F.bP e enc h0 h o xs v)(hn:h0.n<=h.n)(c0:aW)(x:α){cells:List Value}(hc:cells=xs.flatMap enc++enc x){br:Nat}(hbr:br<h.n)(X:aW):
  F.bP e enc h0 ((iK h o c0 (.row true e cells)).set br X) (some (h.n+1)) (xs++[x]) (.slice (some ⟨h.n+1,0,none⟩) (xs.length+1) (xs.length+1)):=by
 have key:F.bP e enc h0 (iK h o c0 (.row true e cells)) (some (h.n+1)) (xs++[x]) (.slice (some ⟨h.n+1,0,none⟩) (xs.length+1) (xs.length+1)):=by
  cases o with
  |none=>
   have hx:xs=[]:=H.2;subst hx;exact F.bP.yT hn c0 x (by rw[hc];rfl)
  |some b=>exact H.push c0 x (by rw[hc];simp)
 exact key.nR _ (by simp;omega)
def pC{α:Type}{e:TypeId}{enc:α->List Value}{h0 h:aa}{o o':Option Nat}{xs:List α}{v:Value}(H:F.bP e enc h0 h o xs v)(c0 c1:aW){br:Nat}(X:aW)(h1:∀b,o'=some b->o≠some b)(h2:o≠some br):F.bP e enc h0 ((iK h o' c0 c1).set br X) o xs v:=by
 refine aiJ H (λb hb=>?_) (by show h.n<=(iK h o' c0 c1).n;rw[pY];omega);rw[fI,if_neg (λq=>h2 (by rw[hb,q]))];refine AJ h o' c0 c1 ?_ (λq=>h1 b q hb);subst hb;exact H.2.2.2
def xP{h0 h:aa}(E:Ext h0 h){o:Option Nat}(ho:∀b,o=some b->h0.n<=b)(c0 c1:aW){br:Nat}(hbr:h0.n<=br)(X:aW):Ext h0 ((iK h o c0 c1).set br X):=by
 refine Ext.dp ?_ hbr _;cases o with
 |none=>exact(E.bI _).bI _
 |some b=>exact((E.bI _).dp (ho b rfl) _).bI _
def yL{α:Type}{e:TypeId}{enc:α->List Value}{h0 h:aa}{o:Option Nat}{xs:List α}{v:Value}(H:F.bP e enc h0 h o xs v):∀b,o=some b->h0.n<=b:=by
 rintro b rfl;exact H.2.2.1
def pD{α β:Type}{e e':TypeId}{enc:α->List Value}{enc':β->List Value}{h0 h:aa}{o o':Option Nat}{xs:List α}{ys:List β}{v v':Value}(H:F.bP e enc h0 h o xs v)(H':F.bP e' enc' h0 h o' ys v')(he:e≠e'):∀b,o'=some b->o≠some b:=by
 rintro b rfl;exact l8 H H'.2.1 he
def yC{h:aa}{o:Option Nat}(c0 c1:aW){br bm:Nat}(X:aW){ob:Obj}(hbm:h.f bm= .obj ob)(hlt:bm<h.n)(ho:o≠some bm)(hb:bm≠br):((iK h o c0 c1).set br X).f bm= .obj ob:=by
 rw[fI,if_neg hb,AJ h o c0 c1 hlt ho,hbm]
def rU(h h':aa):Prop:=∀(b:Nat)(w:Bool)(cells:List Value),b<h.n->h.f b= .row w 193 cells->h'.f b= .row w 193 cells
def xd(h0 h:aa)(r:Rd)(t0:bF)(rest:List bF)(el ec:Int)(ks:Value)(br:Nat)(v:Value)(h':aa):Prop:=
 v= .bool (di r t0 rest).2/\Ext h0 h'/\mn h0 h' (di r t0 rest).1 el ec ks br/\rU h h'
def uI{h h':aa}(K:rU h h'){b:Nat}(hb:∀w cells,h.f b≠.row w 193 cells)(x:aW):rU h (h'.set b x):=λi w cells hi hf=>by
 have hne:¬i=b:=by rintro rfl;exact hb _ _ hf
 rw[fI,if_neg hne];exact K i w cells hi hf
def rh(h:aa):rU h h:=λ_ _ _ _ hf=>hf
def AV{h h':aa}(K:rU h h')(hn:h.n<=h'.n){o:Option Nat}(c0 c1:aW)(ho:∀b,o=some b->∀w cells,h'.f b≠.row w 193 cells):rU h (iK h' o c0 c1):=λi w cells hi hf=>by
 have h1:=K i w cells hi hf;rw[AJ h' o c0 c1 (by omega) (λq=>ho i q w cells h1)];exact h1
def Bv{α:Type}{e:TypeId}{enc:α->List Value}{h0 h:aa}{o:Option Nat}{xs:List α}{v:Value}(H:F.bP e enc h0 h o xs v)(he:e≠193):∀b,o=some b->∀w cells,h.f b≠.row w 193 cells:=by
 rintro b rfl w cells q;have h1:=H.2.1;rw[q]at h1;simp only[aW.row.injEq]at h1;exact he h1.2.1.symm
def wO{h:aa}{b:Nat}{w:Bool}{e:TypeId}{cs:List Value}(hb:h.f b= .row w e cs)(he:e≠193):∀w cells,h.f b≠.row w 193 cells:=by
 intro w' cells q;rw[hb]at q;simp only[aW.row.injEq]at q;exact he q.2.1
def acZ{h:aa}{b:Nat}{o:Obj}(hb:h.f b= .obj o):∀w cells,h.f b≠.row w 193 cells:=by
 intro w' cells q;rw[hb]at q;cases q
def U0(h0 h:aa)(r:Rd)(t0:bF)(rest:List bF)(bs:List Nat)(hb:ig t0.text=some bs)(hl:rest.length=bs.length)(el ec:Int)(ks:Value)(hks:cn ks=true)(br:Nat)(tv nv:Value)
  (E0:Ext h0 h) (R:mn h0 h r el ec ks br) (hr:QW r) (ht:fU h tv (t0::rest)) (hn:cO 3 ab h0 h nv (rest.map (·.n))):al PP 161 [.pointer (some ⟨br,0,none⟩),tv,nv] h (xd h0 h r t0 rest el ec ks br):=by
 refine aC Tryz.func161 afE ?_;simp only[aA,Tryz.f161];obtain⟨os,op,ok,ss,sp,sk,bm,hbr,hbr1,hbr2,hos,hop,hok,hbm,hbm1,hbm2⟩:=id R;obtain⟨ad,c,rfl,_⟩:=id ht;obtain⟨_,bt,off,wt,cells,r0,rfl,e2,e3,e4,e5⟩:=ht.at (i:=0) (t:=t0) rfl;simp only[Nat.zero_mul,ie]at e3 e4;obtain⟨d0,d1,d4⟩:=rR e3;have hl4:off+4+1<=cells.length:=by omega
 have hl5:off+5<=cells.length:=by omega
 obtain⟨adn,rfl,hn'⟩:=id hn;rcases QZ hb hl with⟨hw,a,rfl⟩|⟨hw,a,b,rfl⟩|⟨hw,a,b,c',rfl⟩
 .obtain⟨bn,rfl,hbn,hbn1,hbn2⟩:∃bn,adn=some ⟨bn,0,none⟩/\h.f bn= .row true 3 [.int .i64 a.n]/\h0.n<=bn/\bn<h.n:=by
   rcases hn' with⟨_,q⟩|⟨bn,q1,q2,q3,q4⟩
   .cases q
   .exact⟨bn,q1,q2,q3,q4⟩
  rcases hw with hw|hw
  .rw[hw,fE]at d4
   by_cases hg:0<r.aV
   .have hres:di r t0 [a]=(r,false):=by simp[di,hw,hg]
    simp -implicitDefEqProofs[e2,d4,hl4,hbr,hg,fE]
    exact⟨by rw[hres],E0,by rw[hres];exact R,rh h⟩
   .have hres:di r t0 [a]=({r with aV:=a.n},true):=by simp[di,hw,hg]
    obtain⟨_,_,_,ss',sp',sk',bm',q1,q2⟩:=R.put a.n r.bA r.eT
    rw[hbr]at q1
    simp only[aW.row.injEq,List.cons.injEq,Value.map.injEq,av,true_and,and_true]at q1
    obtain⟨rfl,rfl,rfl,rfl⟩:=q1
    simp -implicitDefEqProofs[e2,d4,hl4,hbr,hg,fE,hbn]
    exact⟨by rw[hres],E0.dp hbr1 _,by rw[hres];exact q2,uI (rh h) (wO hbr (by decide)) _⟩
  .rw[hw,gh]at d4
   have hw2:¬gh=fE:=by decide
   cases hg:r.eT with
   |true=>
    have hres:di r t0 [a]=(r,false):=by simp[di,hw,hg,hw2]
    simp -implicitDefEqProofs[e2,d4,hl4,hbr,hg]
    exact⟨by rw[hres],E0,by rw[hres];exact R,rh h⟩
   |false=>
    have hres:di r t0 [a]=({r with eT:=true,bA:=a.n},true):=by simp[di,hw,hg,hw2]
    obtain⟨_,_,_,ss',sp',sk',bm',q1,q2⟩:=R.put r.aV a.n true
    rw[hbr]at q1
    simp only[aW.row.injEq,List.cons.injEq,Value.map.injEq,av,true_and,and_true]at q1
    obtain⟨rfl,rfl,rfl,rfl⟩:=q1
    simp -implicitDefEqProofs[e2,d4,hl4,hbr,hg,hbn]
    rw[akG]
    exact⟨by rw[hres],E0.dp hbr1 _,by rw[hres];exact q2,uI (rh h) (wO hbr (by decide)) _⟩
 .obtain⟨bn,rfl,hbn,hbn1,hbn2⟩:∃bn,adn=some ⟨bn,0,none⟩/\h.f bn= .row true 3 [.int .i64 a.n,.int .i64 b.n]/\h0.n<=bn/\bn<h.n:=by
   rcases hn' with⟨_,q⟩|⟨bn,q1,q2,q3,q4⟩
   .cases q
   .exact⟨bn,q1,q2,q3,q4⟩
  rw[hw,ft]at d4
  have hw1:¬ft=fE:=by decide
  have hw2:¬ft=gh:=by decide
  have hr1:List.range 1=[0]:=rfl
  have hr6:List.range 6=[0,1,2,3,4,5]:=rfl
  obtain⟨kq,hkq⟩:∃k:kU,k=⟨a.n,b.n,t0.line,t0.aj,a.line,a.aj⟩:=⟨_,rfl⟩
  have hres:di r t0 [a,b]=({r with aD:=r.aD++[kq]},decide ((r.aD++[kq]).length<=200)):=by simp[di,hw,hw1,hw2,hkq]
  obtain⟨_,b',off',w',cells',r',q1,q2,q3,q4,q5⟩:=ht.at (i:=1) (t:=a) rfl
  simp only[av,Addr.mk.injEq,and_true]at q1
  obtain⟨rfl,rfl⟩:=q1
  rw[e2]at q2
  simp only[aW.row.injEq,true_and]at q2
  obtain⟨rfl,rfl⟩:=q2
  rw[Nat.one_mul]at q3 q4
  obtain⟨p0,p1,p4⟩:=rR q3
  have hl10:off+5+5<=cells.length:=by omega
  have sp1:=pI t0 h
  have sp2:=pI a h
  simp only[fq,dm,hw,ft]at sp1 sp2
  obtain⟨rfl,hko⟩:=id hok
  simp -implicitDefEqProofs[e2,d0,d4,p0,hl4,hl5,hl10,hbr,hbn,hw,ft]
  refine cE sp1 ?_
  simp -implicitDefEqProofs[aF,dI,e2,d0,d4,p0,hl4,hl5,hl10,hbr,hbn,hw,ft]
  intro _
  refine cE sp2 ?_
  have mkK:∀cells,cells=r.aD.flatMap l4++l4 kq->xd h0 h r t0 [a,b] el ec ks br (.bool (decide ((r.aD.length:Int)+1<=200))) ((iK h ok (.row true 230 (l4 kq)) (.row true 230 cells)).set br
    (.row true 170 [ss,.int .i64 r.aV,.int .i64 r.bA,ks,sp,.int .i64 el,.int .i64 ec,.map (some bm),.slice (some ⟨h.n+1,0,none⟩) (r.aD.length+1) (r.aD.length+1),.bool r.eT])):=by
   intro cells hc;refine⟨?_,xP E0 (yL hok) _ _ hbr1 _,?_,uI (AV (rh h) (aX _) _ _ (Bv hok (by decide))) (wO hbr (by decide)) _⟩
   .rw[hres];congr 1;rw[decide_eq_decide,bH,jz];omega
   rw[hres];refine⟨os,op,some (h.n+1),_,_,_,bm,by rw[fI,if_pos rfl],hbr1,?_,pC hos _ _ _ (pD hos hok (by decide)) (l8 hos hbr (by decide)),pC hop _ _ _ (pD hop hok (by decide)) (l8 hop hbr (by decide)),yM hok E0.n _ kq hc hbr2 _,yC _ _ _ hbm hbm2 (tc hok hbm) (by rintro rfl;rw[hbr]at hbm;cases hbm),hbm1,?_⟩
   .show br<(iK h ok _ _).n;rw[pY];omega
   .show bm<(iK h ok _ _).n;rw[pY];omega
  cases ok with
  |none=>
   simp only at hko
   have o2:¬br=h.n:=by omega
   have o3:¬br=h.n+1:=by omega
   simp -implicitDefEqProofs[aF,dI,e2,d0,d4,p0,hl4,hl5,hl10,hbr,hbn,hw,ft,hko,aM,hr6,hr1,dC,dS,dH,o2,o3]
   intro _
   have hk0:r.aD.flatMap l4++l4 kq=l4 kq:=by rw[hko];rfl
   have key:=mkK (l4 kq) (hk0.symm)
   rw[hkq,hko]at key
   exact key
  |some bk=>
   simp only at hko
   obtain⟨hk1,hk2,hk3⟩:=hko
   obtain⟨K,hK⟩:=nm (r.aD.flatMap l4)
   have hKl:K.length=r.aD.length*6:=by have:=fr 6 (enc:=l4) (λ_=>rfl) r.aD;rw[<-hK]at this;omega
   rw[<-hK]at hk1
   have hmx:(r.aD.length+1)*48<=140737488355328:=by have:=hr.2.1;omega
   have o1:¬bk=h.n:=by omega
   have o2:¬br=h.n:=by omega
   have o3:¬br=h.n+1:=by omega
   have o4:¬br=bk:=by rintro rfl;rw[hbr]at hk1;simp at hk1
   have e8:K.take (r.aD.length*6)=K:=b9 (by omega)
   simp -implicitDefEqProofs[aF,dI,e2,d0,d4,p0,hl4,hl5,hl10,hbr,hbn,hw,ft,aM,hr6,hr1,dC,dS,dH,hk1,hKl,hmx,o1,o2,o3,o4,e8]
   intro _
   have key:=mkK (K++l4 kq) (by rw[hK])
   rw[hkq]at key
   exact key
 .obtain⟨bn,rfl,hbn,hbn1,hbn2⟩:∃bn,adn=some ⟨bn,0,none⟩/\h.f bn= .row true 3 [.int .i64 a.n,.int .i64 b.n,.int .i64 c'.n]/\h0.n<=bn/\bn<h.n:=by
   rcases hn' with⟨_,q⟩|⟨bn,q1,q2,q3,q4⟩
   .cases q
   .exact⟨bn,q1,q2,q3,q4⟩
  have hr1:List.range 1=[0]:=rfl
  have hr3:List.range 3=[0,1,2]:=rfl
  have hr4:List.range 4=[0,1,2,3]:=rfl
  by_cases hwp:t0.text=gB
  .rw[hwp,gB]at d4
   have hw1:¬gB=fE:=by decide
   have hw2:¬gB=gh:=by decide
   have hw3:¬gB=ft:=by decide
   obtain⟨pq,hpq⟩:∃k:aR,k=⟨a.n,b.n,c'.n⟩:=⟨_,rfl⟩
   have hres:di r t0 [a,b,c']=({r with aG:=r.aG++[pq]},decide ((r.aG++[pq]).length<=200)):=by simp[di,hwp,hw1,hw2,hw3,hpq]
   have mkK:∀cells,cells=r.aG.flatMap aZ++aZ pq->xd h0 h r t0 [a,b,c'] el ec ks br (.bool (decide ((r.aG.length:Int)+1<=200))) ((iK h op (.row true 103 (aZ pq)) (.row true 103 cells)).set br
     (.row true 170 [ss,.int .i64 r.aV,.int .i64 r.bA,ks,.slice (some ⟨h.n+1,0,none⟩) (r.aG.length+1) (r.aG.length+1),.int .i64 el,.int .i64 ec,.map (some bm),sk,.bool r.eT])):=by
    intro cells hc;refine⟨?_,xP E0 (yL hop) _ _ hbr1 _,?_,uI (AV (rh h) (aX _) _ _ (Bv hop (by decide))) (wO hbr (by decide)) _⟩
    .rw[hres];congr 1;rw[decide_eq_decide,bH,jz];omega
    rw[hres];refine⟨os,some (h.n+1),ok,_,_,_,bm,by rw[fI,if_pos rfl],hbr1,?_,pC hos _ _ _ (pD hos hop (by decide)) (l8 hos hbr (by decide)),yM hop E0.n _ pq hc hbr2 _,pC hok _ _ _ (pD hok hop (by decide)) (l8 hok hbr (by decide)),yC _ _ _ hbm hbm2 (tc hop hbm) (by rintro rfl;rw[hbr]at hbm;cases hbm),hbm1,?_⟩
    .show br<(iK h op _ _).n;rw[pY];omega
    .show bm<(iK h op _ _).n;rw[pY];omega
   obtain⟨rfl,hko⟩:=id hop
   have o2:¬br=h.n:=by omega
   have o3:¬br=h.n+1:=by omega
   cases op with
   |none=>
    simp only at hko
    simp -implicitDefEqProofs[e2,d0,d4,hl4,hl5,hbr,hbn,hko,aM,hr3,hr1,dC,dS,dH,o2,o3]
    have hk0:r.aG.flatMap aZ++aZ pq=aZ pq:=by rw[hko];rfl
    have key:=mkK (aZ pq) (hk0.symm)
    rw[hpq,hko]at key
    exact key
   |some bk=>
    simp only at hko
    obtain⟨hk1,hk2,hk3⟩:=hko
    obtain⟨K,hK⟩:=nm (r.aG.flatMap aZ)
    have hKl:K.length=r.aG.length*3:=by have:=fr 3 (enc:=aZ) (λ_=>rfl) r.aG;rw[<-hK]at this;omega
    rw[<-hK]at hk1
    have hmx:(r.aG.length+1)*24<=140737488355328:=by have:=hr.2.2;omega
    have o1:¬bk=h.n:=by omega
    have o4:¬br=bk:=by rintro rfl;rw[hbr]at hk1;simp at hk1
    have e8:K.take (r.aG.length*3)=K:=b9 (by omega)
    simp -implicitDefEqProofs[e2,d0,d4,hl4,hl5,hbr,hbn,aM,hr3,hr1,dC,dS,dH,hk1,hKl,hmx,o1,o2,o3,o4,e8]
    have key:=mkK (K++aZ pq) (by rw[hK])
    rw[hpq]at key
    exact key
  .have hws:t0.text=mP∨t0.text=mh∨t0.text=mg:=by
    rcases hw with q|q
    .exact absurd q hwp
    .exact q
   have z1:¬t0.text=fE:=by rcases hws with q|q|q<;>rw[q]<;>decide
   have z2:¬t0.text=gh:=by rcases hws with q|q|q<;>rw[q]<;>decide
   have z3:¬t0.text=ft:=by rcases hws with q|q|q<;>rw[q]<;>decide
   have y1:¬t0.text=[103,97,112]:=z1
   have y2:¬t0.text=[114,97,100,105,117,115]:=z2
   have y3:¬t0.text=[107,105,108,108]:=z3
   have y4:¬t0.text=[112,111,108,101]:=hwp
   have f1:=Kn a.n b.n r.ag
   simp only[nD]at f1
   cases hp:kr r.ag a.n b.n with
   |some q=>
    have hres:di r t0 [a,b,c']=(r,false):=by simp[di,z1,z2,z3,hwp,hp]
    rw[hp]at f1
    simp -implicitDefEqProofs[e2,d0,d4,hl4,hl5,hbr,hbn,y1,y2,y3,y4,pB,hbm,f1,cB,dz]
    exact⟨by rw[hres],E0,by rw[hres];exact R,rh h⟩
   |none=>
    have f2:=aok a.n b.n r.ag
    rw[hp]at f1 f2
    simp only[nD]at f2
    obtain⟨sq,hsq⟩:∃k:au,k=⟨a.n,b.n,c'.n,rn t0.text⟩:=⟨_,rfl⟩
    have hres:di r t0 [a,b,c']=({r with ag:=r.ag++[sq]},decide ((r.ag++[sq]).length<=4096)):=by simp[di,z1,z2,z3,hwp,hp,hsq]
    have nb1:¬br=bm:=by rintro rfl;rw[hbr]at hbm;cases hbm
    have nb2:¬bn=bm:=by rintro rfl;rw[hbn]at hbm;cases hbm
    have nb3:¬bt=bm:=by rintro rfl;rw[e2]at hbm;cases hbm
    obtain⟨Om,hOm⟩:∃o,o=Obj.map (o0 r.ag++[(⟨Value.agg ⟨[.int .i64 a.n,.int .i64 b.n]⟩,.int .i64 (r.ag.length:Nat),r.ag.length⟩:MapEntry)]).toArray (r.ag.length+1):=⟨_,rfl⟩
    have hOm2:Om= .map (o0 (r.ag++[sq])).toArray (r.ag++[sq]).length:=by
     rw[hOm,Zc,bH,hsq];rfl
    obtain⟨M,hM⟩:=nm (h.set bm (.obj Om))
    have Mn:M.n=h.n:=by rw[hM];rfl
    have Mbr:M.f br= .row true 170 [ss,.int .i64 r.aV,.int .i64 r.bA,ks,sp,.int .i64 el,.int .i64 ec,.map (some bm),sk,.bool r.eT]:=by rw[hM,fI,if_neg nb1,hbr]
    have Mbm:M.f bm= .obj Om:=by rw[hM,fI,if_pos rfl]
    have Mos:=hos.nR (.obj Om) (tc hos hbm)
    have Mop:=hop.nR (.obj Om) (tc hop hbm)
    have Mok:=hok.nR (.obj Om) (tc hok hbm)
    rw[<-hM]at Mos Mop Mok
    have ME:Ext h0 M:=by rw[hM];exact E0.dp hbm1 _
    have mkK:∀cells,cells=r.ag.flatMap ao++ao sq->xd h0 h r t0 [a,b,c'] el ec ks br (.bool (decide ((r.ag.length:Int)+1<=4096))) ((iK M os (.row true 99 (ao sq)) (.row true 99 cells)).set br
      (.row true 170 [.slice (some ⟨M.n+1,0,none⟩) (r.ag.length+1) (r.ag.length+1),.int .i64 r.aV,.int .i64 r.bA,ks,sp,.int .i64 el,.int .i64 ec,.map (some bm),sk,.bool r.eT])):=by
     intro cells hc;refine⟨?_,xP ME (yL Mos) _ _ hbr1 _,?_,uI (AV (by rw[hM];exact uI (rh h) (acZ hbm) _) (by rw[Mn];exact aX _) _ _ (Bv Mos (by decide))) (wO hbr (by decide)) _⟩
     .rw[hres];congr 1;rw[decide_eq_decide,bH,jz];omega
     rw[hres];refine⟨some (M.n+1),op,ok,_,_,_,bm,by rw[fI,if_pos rfl],hbr1,?_,yM Mos ME.n _ sq hc (by rw[Mn];exact hbr2) _,pC Mop _ _ _ (pD Mop Mos (by decide)) (l8 Mop Mbr (by decide)),pC Mok _ _ _ (pD Mok Mos (by decide)) (l8 Mok Mbr (by decide)),?_,hbm1,?_⟩
     .show br<(iK M os _ _).n;rw[pY];omega
     .rw[yC _ _ _ Mbm (by rw[Mn];exact hbm2) (tc Mos Mbm) (λq=>nb1 q.symm),hOm2]
     .show bm<(iK M os _ _).n;rw[pY];omega
    obtain⟨rfl,hko⟩:=id Mos
    have o2:¬br=M.n:=by omega
    have o3:¬br=M.n+1:=by omega
    have Mbn:M.f bn= .row true 3 [.int .i64 a.n,.int .i64 b.n,.int .i64 c'.n]:=by rw[hM,fI,if_neg nb2,hbn]
    have Mbt:M.f bt= .row wt 193 cells:=by rw[hM,fI,if_neg nb3,e2]
    have o5:¬bn=M.n:=by omega
    have o6:¬bn=M.n+1:=by omega
    have o7:¬bt=M.n:=by omega
    have o8:¬bt=M.n+1:=by omega
    have knd:=oy t0.text M
    rw[hOm]at hM
    simp -implicitDefEqProofs[e2,d0,d4,hl4,hl5,hbr,hbn,y1,y2,y3,y4,hbm,f1,f2,nb1,nb2,nb3]
    rw[<-hM]
    refine cE knd ?_
    cases os with
    |none=>
     simp only at hko
     simp -implicitDefEqProofs[aF,Mbt,d0,d4,hl4,hl5,Mbr,Mbn,hko,aM,hr4,hr1,dC,dS,dH,o2,o3,o5,o6,o7,o8]
     intro _
     have hk0:r.ag.flatMap ao++ao sq=ao sq:=by rw[hko];rfl
     have key:=mkK (ao sq) (hk0.symm)
     rw[hsq,hko]at key
     exact key
    |some bk=>
     simp only at hko
     obtain⟨hk1,hk2,hk3⟩:=hko
     obtain⟨K,hK⟩:=nm (r.ag.flatMap ao)
     have hKl:K.length=r.ag.length*4:=by have:=fr 4 (enc:=ao) (λ_=>rfl) r.ag;rw[<-hK]at this;omega
     rw[<-hK]at hk1
     have hmx:(r.ag.length+1)*32<=140737488355328:=by have:=hr.1;omega
     have o1:¬bk=M.n:=by omega
     have o4:¬br=bk:=by rintro rfl;rw[Mbr]at hk1;simp at hk1
     have o9:¬bn=bk:=by rintro rfl;rw[Mbn]at hk1;simp at hk1
     have o10:¬bt=bk:=by rintro rfl;rw[Mbt]at hk1;simp at hk1
     have e8:K.take (r.ag.length*4)=K:=b9 (by omega)
     simp -implicitDefEqProofs[aF,Mbt,d0,d4,hl4,hl5,Mbr,Mbn,aM,hr4,hr1,dC,dS,dH,hk1,hKl,hmx,o1,o2,o3,o4,o5,o6,o7,o8,o9,o10,e8]
     intro _
     have key:=mkK (K++ao sq) (by rw[hK])
     rw[hsq]at key
     exact key
def rowAt(ts:List bF)(a:Nat):List bF:=(ts.take (a+T.jd (ts.drop a))).drop a
def pj(ts:List bF)(a:Nat):Nat:=if a+T.jd (ts.drop a)<ts.length then a+T.jd (ts.drop a)+1 else ts.length
def jA(ts:List bF)(el ec:Int)(k:Nat):Int×Int:=match ts[k]? with
 |some t=>(t.line,t.aj)
 |none=>(el,ec)
def gU(ts:List bF)(el ec:Int):Nat->Nat->Rd->Rd×Option (Int×Int)
 |0,_,r=>(r,none)
 |f+1,a,r=>if a<ts.length then match rowAt ts a with
   |[]=>gU ts el ec f (pj ts a) r
   |t0::rest=>match fc (t0::rest) (jA ts el ec (a+(rest.length+1))).1 (jA ts el ec (a+(rest.length+1))).2 with
    |some e=>(r,some e)
    |none=>if(di r t0 rest).2 then gU ts el ec f (pj ts a) (di r t0 rest).1 else((di r t0 rest).1,some (t0.line,t0.aj))
  else(r,none)
def yr{ts:List bF}{el ec:Int}{f a:Nat}{r:Rd}(ha:a<ts.length)(hr:rowAt ts a=[]):gU ts el ec (f+1) a r=gU ts el ec f (pj ts a) r:=by
 rw[gU,if_pos ha,hr]
def yq{ts:List bF}{el ec:Int}{f a:Nat}{r:Rd}{t0:bF}{rest:List bF}(ha:a<ts.length)(hr:rowAt ts a=t0::rest):gU ts el ec (f+1) a r=
  match fc (t0::rest) (jA ts el ec (a+(rest.length+1))).1 (jA ts el ec (a+(rest.length+1))).2 with
    |some e=>(r,some e)
    |none=>if(di r t0 rest).2 then gU ts el ec f (pj ts a) (di r t0 rest).1 else((di r t0 rest).1,some (t0.line,t0.aj)):=by
 rw[gU,if_pos ha,hr]
def acs{ts:List bF}{a:Nat}(h:a<ts.length):a<pj ts a/\pj ts a<=ts.length:=by
 unfold pj;split<;>omega
def aj1{ts:List bF}{a:Nat}(h:a<ts.length):(rowAt ts a).length=T.jd (ts.drop a)/\a+T.jd (ts.drop a)<=ts.length:=by
 have h1:T.jd (ts.drop a)<=(ts.drop a).length:=by unfold T.jd;exact(List.takeWhile_sublist _).length_le
 rw[eX]at h1;refine⟨?_,by omega⟩;unfold rowAt;rw[eX,dh];omega
def mn.ext{h0 h h':aa}{r:Rd}{el ec:Int}{ks:Value}{br:Nat}(R:mn h0 h r el ec ks br)(E:Ext h h'):mn h0 h' r el ec ks br:=by
 obtain⟨os,op,ok,ss,sp,sk,bm,hbr,hbr1,hbr2,hos,hop,hok,hbm,hbm1,hbm2⟩:=R;exact⟨os,op,ok,ss,sp,sk,bm,by rw[E.f br hbr2];exact hbr,hbr1,cV hbr2 E.n,hos.ext E,hop.ext E,hok.ext E,by rw[E.f bm hbm2];exact hbm,hbm1,cV hbm2 E.n⟩
def aiI{α:Type}{e:TypeId}{enc:α->List Value}{h0 h1 h:aa}{v:Value}{xs:List α}(H:cO e enc h1 h v xs)(hn:h0.n<=h1.n):cO e enc h0 h v xs:=by
 obtain⟨ad,rfl,z⟩:=H;refine⟨ad,rfl,?_⟩;rcases z with z|⟨b,q1,q2,q3,q4⟩
 .exact .inl z
 .exact .inr ⟨b,q1,q2,eY hn q3,q4⟩
def qx(r:Rd):Prop:=r.ag.length<=4096/\r.aD.length<=200/\r.aG.length<=200
def qx.small{r:Rd}(H:qx r):QW r:=⟨by have:=H.1;omega,by have:=H.2.1;omega,by have:=H.2.2;omega⟩
def CW{r:Rd}{t0:bF}{rest:List bF}(H:qx r)(h:(di r t0 rest).2=true):qx (di r t0 rest).1:=by
 obtain⟨h1,h2,h3⟩:=H;unfold di at h ⊢;dsimp only at h ⊢;by_cases c1:t0.text=fE
 .rw[if_pos c1];split<;>exact⟨h1,h2,h3⟩
 rw[if_neg c1]at h ⊢;by_cases c2:t0.text=gh
 .rw[if_pos c2];split<;>exact⟨h1,h2,h3⟩
 rw[if_neg c2]at h ⊢;by_cases c3:t0.text=ft
 .rw[if_pos c3]at h ⊢;exact⟨h1,by simpa using h,h3⟩
 rw[if_neg c3]at h ⊢;by_cases c4:t0.text=gB
 .rw[if_pos c4]at h ⊢;exact⟨h1,h2,by simpa using h⟩
 rw[if_neg c4]at h ⊢;split
 .exact⟨h1,h2,h3⟩
 .rename_i hp;rw[hp]at h;exact⟨by simpa using h,h2,h3⟩
def Pb{t0:bF}{rest:List bF}{bl bc:Int}(h:fc (t0::rest) bl bc=none):∃bs,ig t0.text=some bs/\rest.length=bs.length:=by
 unfold fc at h;simp only at h;cases hw:kc t0 with
 |none=>rw[hw]at h;cases h
 |some bs=>
  rw[hw]at h;have hb:ig t0.text=some bs:=by unfold kc at hw;split at hw;exact hw;cases hw
  refine⟨bs,hb,?_⟩;simp only[mB]at h;cases hc:jG bl bc bs rest with
  |some e=>rw[hc]at h;cases h
  |none=>
   rw[hc]at h;simp only at h;have h1:bs.length<=rest.length:=by
    clear h hb hw;induction bs generalizing rest with
    |nil=>simp
    |cons b r ih=>cases rest with
     |nil=>cases hc
     |cons t q=>
      simp only[jG]at hc
      split at hc
      .have:=ih hc;simp;omega
      .cases hc
   cases hd:rest.drop bs.length with
   |nil=>have:=congrArg List.length hd;rw[eX]at this;simp at this;omega
   |cons t q=>rw[hd]at h;cases h
def ang{h h':aa}{v:Value}{t0:bF}{rest:List bF}(H:fU h v (t0::rest))(K:rU h h')(hn:h.n<=h'.n):fU h' v (t0::rest):=by
 obtain⟨ad,c,q,z⟩:=H;refine⟨ad,c,q,?_⟩;rcases z with⟨_,q2,_⟩|⟨b,off,w,cells,r,z1,z2,z3,z4,z5⟩
 .cases q2
 .exact .inr ⟨b,off,w,cells,r,z1,K b w cells z5 z2,z3,z4,cV z5 hn⟩
def al0{σ:St}(d:Option Nat)(x:Operand)(ty yt:TypeId)(pos:String)(aft:Array Edge)(g:Option (Nat×Bool))(hx:aN σ x=some .nilIface):
  dq PP σ ⟨d,.binOp .neq 110 x (.const .nilIface) yt,ty,pos,aft,g⟩=some (.bool false,σ):=by
 refine qF (by simp[Op.operands,kG hx rfl];rfl) rfl ?_ rfl;have e1:eqGuard .neq 110 x (.const .nilIface) .nilIface .nilIface=pure ():=by unfold eqGuard;simp
 have e2:binOp .neq 110 .nilIface .nilIface=(do pure (.bool (!(<-Op.equal 110 .nilIface .nilIface)))):=rfl;have e3:(Op.equal 110 .nilIface .nilIface).aU PP=some true:=by
  have key:∀n,(Op.equalIn (n+1) 110 .nilIface .nilIface).aU PP=some true:=λn=>by simp[Op.equalIn,cM,pG Cu,th]
  exact key 9999
 have e4:lF σ (.const .nilIface)= .nilIface:=rfl;simp only[execOp,lV hx,e4,e1,e2,cM,th,ep,e3];rfl
attribute [simp] al0
def UE(ts:List bF)(h0:aa)(el ec:Int)(ks:Value)(br:Nat)(r0:Rd)(v:Value)(h':aa):Prop:=
 Ext h0 h'/\mn h0 h' (gU ts el ec (ts.length+1) 0 r0).1 el ec ks br/\match(gU ts el ec (ts.length+1) 0 r0).2 with
  |some e=>fb h' h'.n v (mw e.1 e.2)
  |none=>v= .nilIface/\qx (gU ts el ec (ts.length+1) 0 r0).1
def T7(ts:List bF)(h0:aa)(el ec:Int)(ks:Value)(br:Nat)(tv:Value)(r0:Rd)(m:Nat)(σ:St):Prop:=∃(f a:Nat)(r:Rd),m=ts.length-a/\a<=ts.length/\ts.length<f+a/\gU ts el ec (ts.length+1) 0 r0=gU ts el ec f a r/\qx r/\
 Ext h0 σ.m.h/\mn h0 σ.m.h r el ec ks br/\σ.t.get 0=some (.pointer (some ⟨br,0,none⟩))/\σ.t.get 1=some tv/\σ.t.get 5=some (.int .i64 (a:Nat))
def UL(H:aa)(br:Nat)(tv rv:Value)(nx:Nat)(bl bc:Int)(σ:St):Prop:=σ.m.h=H/\σ.t.get 0=some (.pointer (some ⟨br,0,none⟩))/\σ.t.get 1=some tv/\σ.t.get 6=some rv/\σ.t.get 7=some (.int .i64 (nx:Nat))/\σ.t.get 8=some (.pointer (some ⟨8,0,some 0⟩))/\σ.m.x.look 8=some (36,[.int .i64 bl,.int .i64 bc])
def abt(ts:List bF)(hl:ts.length<=1048577)(h0 h:aa)(el ec:Int)(ks:Value)(hks:cn ks=true)(br:Nat)(r0:Rd)(hr0:qx r0)(tv:Value)(ht:fU h0 tv ts)(E0:Ext h0 h)(R:mn h0 h r0 el ec ks br):
  al PP 121 [.pointer (some ⟨br,0,none⟩),tv] h (UE ts h0 el ec ks br r0):=by
 refine aC Tryz.func121 afa ?_;simp only[aA,Tryz.f121];obtain⟨ad,c,rfl,_⟩:=id ht;obtain⟨n,hn⟩:=nm ts.length;simp -implicitDefEqProofs[<-hn];rw[hn];refine bG (T7 ts h0 el ec ks br (.slice ad ts.length c) r0) n ⟨ts.length+1,0,r0,by omega,by omega,by omega,rfl,hr0,E0,R,by simp⟩ ?_;rintro m ⟨Tf,⟨x,H⟩⟩ ⟨f,a,r,rfl,ha,hf,hlr,hok,E1,R1,g0,g1,g5⟩;simp at E1 R1 g0 g1 g5;have htH:=ht.ext E1;simp -implicitDefEqProofs[g0,g1,g5];refine bR (λhc=>?_) (λhc=>?_)
 .have hal:a<ts.length:=by omega
  obtain⟨hrl,hkl⟩:=aj1 hal;obtain⟨k,hk⟩:=nm (T.jd (ts.drop a));obtain⟨row,hrow⟩:=nm (rowAt ts a);obtain⟨nx,hnx⟩:=nm (pj ts a);have hng:=acs hal;have hrow2:(ts.take (a+k)).drop a=row:=by rw[hrow,hk];rfl
  have hnx2:(if a+k<ts.length then a+k+1 else ts.length)=nx:=by rw[hnx,hk];rfl
  rw[<-hk,<-hrow]at hrl;rw[<-hk]at hkl;rw[<-hnx]at hng;obtain⟨os,op,ok,ss,sp,sk,bm,hbr,_⟩:=id R1;simp -implicitDefEqProofs[g0,g1,g5,hc,hal];refine(T.sJ _ ts a hal (by omega) H htH).mono ?_;rintro v H2 ⟨e,s',hs',rfl⟩;replace e:=e.symm;subst e;rw[<-hk,hrow2]at hs';rw[<-hk,hnx2];obtain⟨ad',c',rfl,_⟩:=id hs';rw[hrl];have w1:IntKind.wrap .i64 ((a:Int)+(k:Int))=((a+k:Nat):Int):=by rw[bB (by omega)];omega
  simp -implicitDefEqProofs[af,g0,g1,g5,hbr];intro _;obtain⟨bh,hbh⟩:=nm (jA ts el ec (a+k));refine xE (UL H br (.slice ad ts.length c) (.slice ad' k c') nx bh.1 bh.2) ?_ ?_
  .by_cases hak:a+k<ts.length
   .obtain⟨t,htt⟩:=nm ts[a+k];have hget:ts[a+k]? =some t:=(by rw[htt];exact aq hak);have hbh2:bh=(t.line,t.aj):=(by rw[hbh,jA,hget]);obtain⟨_,b',off',w',cells',r',q1,q2,q3,q4,q5⟩:=htH.at hget;obtain⟨p0,p1,p4⟩:=rR q3;have spt:=pI t H;simp only[fq,dm]at spt;subst q1;have k0:(0:Int)<=(a:Int)+(k:Int):=(by omega);have hak':(a:Int)+(k:Int)<(ts.length:Int):=(by omega);have tn:((a:Int)+(k:Int)).toNat=a+k:=(by omega);simp -implicitDefEqProofs[w1,hak,hak',q2,p0,q4,k0,tn];refine cE spt ?_;simp -implicitDefEqProofs[af,dI];intro _;exact⟨rfl,by simp[hbh2]⟩
   .have hbh2:bh=(el,ec):=(by rw[hbh,jA,iT (by omega)]);have hak':¬(a:Int)+(k:Int)<(ts.length:Int):=(by omega);simp -implicitDefEqProofs[w1,hak,hak'];exact⟨rfl,by simp[hbh2]⟩
  .clear g0 g1 g5;rintro⟨Tg,⟨y,H2⟩⟩ ⟨e,g0,g1,g6,g7,g8,x8⟩;replace e:H=H2:=e.symm;subst e;simp at g0 g1 g6 g7 g8 x8;obtain⟨f',rfl⟩:∃f',f=f'+1:=⟨f-1,by omega⟩;cases row with
   |nil=>
    have hk0:k=0:=(by simpa using hrl.symm);subst hk0;have hstep:=hlr.trans (yr hal hrow.symm);rw[<-hnx]at hstep;simp -implicitDefEqProofs[g0,g1,g6,g7,g8,x8];exact⟨ts.length-nx,by omega,f',nx,r,rfl,hng.2,by omega,hstep,hok,E1,R1,by simp⟩
   |cons t0 rest=>
    have hk1:k=rest.length+1:=(by simpa using hrl.symm);have hkne:¬(k:Int)=0:=(by omega);have hstep:=hlr.trans (yq hal hrow.symm);rw[<-hnx]at hstep;simp only[<-hk1,<-hbh]at hstep;have hkne':¬k=0:=(by omega);have hs2:=hs';rw[hrl]at hs2;have gD:=acU (.slice ad' k c') t0 rest bh.1 bh.2 (by omega) H hs2;simp only[dI]at gD;simp -implicitDefEqProofs[g0,g1,g6,g7,g8,x8,hkne,hkne'];refine gD.mono ?_;rintro v H3 ⟨E3,hN⟩;have R3:=R1.ext E3;have E13:=E1.trans E3;cases hle:fc (t0::rest) bh.1 bh.2 with
    |some e=>
     rw[hle]at hN hstep;obtain⟨E,rfl,hE⟩:=hN;obtain⟨be,rfl⟩:=lh (h:=H) (a:=e.1) (b:=e.2) ⟨E3,hE⟩;simp -implicitDefEqProofs[af,g0,g1,g6,g7,g8,x8];intro _;refine⟨E13,by rw[hstep];exact R3,?_⟩;rw[hstep];exact hE
    |none=>
     rw[hle]at hN hstep;obtain⟨s3,rfl,hO3⟩:=hN;obtain⟨bs,bD,bN⟩:=Pb hle;have hO4:=aiI (h0:=h0) hO3 E1.n;obtain⟨ad3,rfl,_⟩:=id hO3;have hadd:=U0 h0 H3 r t0 rest bs bD bN el ec ks hks br _ _ E13 R3 hok.small (hs2.ext E3) hO4;simp -implicitDefEqProofs[af,g0,g1,g6,g7,g8,x8];intro _;simp only[List.tail_cons,cf]at hadd;refine hadd.mono ?_;rintro v H4 ⟨rfl,E4,R4,K4⟩;cases hok2:(di r t0 rest).2 with
     |true=>
      rw[hok2,if_pos rfl]at hstep;simp -implicitDefEqProofs[af,g0,g1,g6,g7,g8,x8];intro _;exact⟨ts.length-nx,by omega,f',nx,(di r t0 rest).1,rfl,hng.2,by omega,hstep,CW hok hok2,E4,R4,by simp⟩
     |false=>
      rw[hok2,if_neg (by decide)]at hstep;simp -implicitDefEqProofs[af,g0,g1,g6,g7,g8,x8];intro hN4;have hs4:fU H4 (.slice ad' k c') (t0::rest):=ang (hs2.ext E3) K4 hN4.2.2;have spt:=pI t0 H4;simp only[fq,dm]at spt;obtain⟨_,b',off',w',cells',r',q1,q2,q3,q4,q5⟩:=hs4.at (i:=0) (t:=t0) rfl;simp only[Nat.zero_mul,ie]at q3 q4;obtain⟨p0,p1,p4⟩:=rR q3;subst q1;have hk0:0<k:=(by omega);simp -implicitDefEqProofs[g0,g1,g6,g7,g8,x8,q2,p0,q4,hk0];refine cE spt ?_;simp -implicitDefEqProofs[af];intro _;refine(mR t0.line t0.aj H4).mono ?_;intro E H5 hE;obtain⟨be,rfl⟩:=lh hE;simp -implicitDefEqProofs[af];intro _;refine⟨E4.trans hE.1,by rw[hstep];exact R4.ext hE.1,?_⟩;rw[hstep];exact hE.2
 .have hal:a=ts.length:=by omega
  have hstep:gU ts el ec f a r=(r,none):=by
   cases f with
   |zero=>rfl
   |succ f=>rw[gU,if_neg (by omega)]
  rw[hstep]at hlr;simp -implicitDefEqProofs[g0,g1,g5];refine⟨E1,by rw[hlr];exact R1,?_⟩;rw[hlr];exact⟨rfl,hok⟩
end Go.Proofs.Ybk
namespace Go.Proofs.Ybk
open Go Go.Am
set_option maxHeartbeats 4000000
open T (bF dm fq dI fU)
open V (au aR ai ao aZ ab aE a8)
open F (FR fb cC)
def lY(x:Int):List Int->Nat->Int
 |[],_=>-1
 |a::r,i=>if x=a then(i:Int)else lY x r (i+1)
def Uy(s:Value)(l:List Int)(x:Int)(h:aa)(m n:Nat)(σ:St):Prop:=∃i:Nat,n=m-i/\i<=m/\σ.m.h=h/\σ.t.get 0=some s/\σ.t.get 1=some (.int .i64 x)/\σ.t.get 7=some (.int .i64 (m:Nat))/\σ.t.get 8=some (.int .i64 (i:Nat))/\lY x l 0=lY x (l.drop i) i
def aaA(s:Value)(l:List Int)(x:Int)(hl:l.length<=1073741824)(h:aa)(hs:a8 h s l):al PP 218 [s,.int .i64 x] h (λv h'=>h'=h/\v= .int .i64 (lY x l 0)):=by
 refine aC Tryz.func218 P9 ?_;simp only[aA,Tryz.f218];obtain⟨ad,c,rfl⟩:=hs.shape;obtain⟨m,hm⟩:=nm l.length;rw[<-hm]at hs ⊢;simp -implicitDefEqProofs;refine bG (Uy (.slice ad m c) l x h m) _ ⟨0,rfl,by omega,rfl,by simp,by simp,by simp,by simp,rfl⟩ ?_;rintro n ⟨T,⟨y,H⟩⟩ ⟨i,rfl,hi,hH,g0,g1,g7,g8,hq⟩;simp at hH g0 g1 g7 g8;subst hH;simp -implicitDefEqProofs[g0,g1,g7,g8];refine bR (λhc=>?_) (λhc=>?_)
 .have hil:i<m:=by omega
  have hti:l[i]? =some l[i]:=aq (by omega);obtain⟨_,b,o,wb,cs,r,rfl,hb,hd,hlc,_⟩:=hs.at 1 V.dY hti;obtain⟨t,ht⟩:=nm l[i];rw[<-ht]at hd hti;have w1:=bO (i:=i) (by omega);have hlc':o+i+1<=cs.length:=by omega
  have hdr:l.drop i=t::l.drop (i+1):=by rw[ht];exact gQ (by omega)
  rw[Nat.mul_one]at hd;by_cases h1:x=t
  .have hp:lY x l 0=(i:Int):=(by rw[hq,hdr,lY,if_pos h1]);simp -implicitDefEqProofs[g0,g1,g7,g8,hil,hb,hd,hlc',ab,h1];rw[<-h1,hp]
  .have hp:lY x l 0=lY x (l.drop (i+1)) (i+1):=(by rw[hq,hdr,lY,if_neg h1]);simp -implicitDefEqProofs[g0,g1,g7,g8,hil,hb,hd,hlc',ab,h1,w1];exact⟨m-(i+1),by omega,i+1,rfl,by omega,rfl,by simp[g0],by simp[g1],by simp[g7],by simp,hp⟩
 .have hp:lY x l 0= -1:=by rw[hq,List.drop_of_length_le (by omega)];rfl
  simp -implicitDefEqProofs[g0,g1,g7,g8,hp]
def aaq(x:Int)(l:List Int)(i:Nat):0<=lY x l i↔x∈l:=by
 induction l generalizing i with
 |nil=>simp[lY]
 |cons a r ih=>
  rw[lY];split
  .rename_i h;simp[h]
  .rename_i h;rw[ih,cJ];simp[h]
def Ye(s:Value)(l:List Int)(x:Int)(hl:l.length<=1073741824)(h:aa)(hs:a8 h s l):al PP 162 [s,.int .i64 x] h (λv h'=>h'=h/\v= .bool (decide (x∈l))):=by
 refine aC Tryz.func162 P6 ?_;simp only[aA,Tryz.f162];obtain⟨ad,c,rfl⟩:=hs.shape;simp -implicitDefEqProofs;refine cE (aaA _ l x hl h hs) ?_;have e:decide (x∈l)=decide (0<=lY x l 0):=by rw[decide_eq_decide,aaq]
 simp -implicitDefEqProofs[af,e]
def kl(ag:List au):List kU->List Int->List Int×Option (Int×Int)
 |[],acc=>(acc,none)
 |k::r,acc=>match kr ag k.row k.x with
  |none=>(acc,some (k.rL,k.rJ))
  |some n=>if(n:Int)∈acc then(acc,some (k.line,k.aj))else kl ag r (acc++[(n:Int)])
def iC(r:Rd)(el ec:Int):List Int×Option (Int×Int):=if r.ag=[]∨r.aV=0 then([],some (el,ec))else kl r.ag r.aD []
def aaW{ag:List au}{acc:List Int}:kl ag [] acc=(acc,none):=rfl
def AW{ag:List au}{k:kU}{r:List kU}{acc:List Int}(h:kr ag k.row k.x=none):kl ag (k::r) acc=(acc,some (k.rL,k.rJ)):=by rw[kl,h]
def AX{ag:List au}{k:kU}{r:List kU}{acc:List Int}{n:Nat}(h:kr ag k.row k.x=some n)(hm:(n:Int)∈acc):kl ag (k::r) acc=(acc,some (k.line,k.aj)):=by rw[kl,h];simp only;rw[if_pos hm]
def yg{ag:List au}{k:kU}{r:List kU}{acc:List Int}{n:Nat}(h:kr ag k.row k.x=some n)(hm:(n:Int)∉acc):kl ag (k::r) acc=kl ag r (acc++[(n:Int)]):=by rw[kl,h];simp only;rw[if_neg hm]
def xn(h0 h:aa)(r:Rd)(el ec:Int)(ks:List Int)(br:Nat):Prop:=∃(o:Option Nat)(kv:Value),F.bP 3 ab h0 h o ks kv/\mn h0 h r el ec kv br
def CV(h0:aa)(r:Rd)(el ec:Int)(br:Nat)(v:Value)(h':aa):Prop:=Ext h0 h'/\match(iC r el ec).2 with
 |some e=>fb h' h'.n v (mw e.1 e.2)
 |none=>v= .nilIface/\xn h0 h' r el ec (iC r el ec).1 br
def T9(h0:aa)(r:Rd)(el ec:Int)(br:Nat)(sk:Value)(n m:Nat)(σ:St):Prop:=∃(i:Nat)(ks:List Int),m=n-i/\i<=n/\ks.length<=i/\Ext h0 σ.m.h/\xn h0 σ.m.h r el ec ks br/\iC r el ec=kl r.ag (r.aD.drop i) ks/\
 σ.t.get 0=some (.pointer (some ⟨br,0,none⟩))/\σ.t.get 30=some sk/\σ.t.get 31=some (.int .i64 (n:Nat))/\σ.t.get 32=some (.int .i64 (i:Nat))/\(∃ok,F.bP 230 l4 h0 σ.m.h ok r.aD sk)
def aol(h0 h:aa)(r:Rd)(el ec:Int)(br:Nat)(E0:Ext h0 h)(R:xn h0 h r el ec [] br)(hok:qx r):al PP 122 [.pointer (some ⟨br,0,none⟩)] h (CV h0 r el ec br):=by
 refine aC Tryz.func122 afb ?_;simp only[aA,Tryz.f122];obtain⟨o3,kv,hk3,os,op,ok,ss,sp,sk,bm,hbr,hbr1,hbr2,hos,hop,hokk,hbm,hbm1,hbm2⟩:=id R;obtain⟨rfl,_⟩:=id hos;obtain⟨rfl,_⟩:=id hokk;obtain⟨rfl,_⟩:=id hk3;obtain⟨n,hn⟩:=nm r.aD.length;have bad:(r.ag=[]∨r.aV=0)->∀E H2,xh h (mw el ec) E H2->CV h0 r el ec br E H2:=λhb E H2 ⟨q1,q2⟩=>by
  have hw:iC r el ec=([],some (el,ec)):=by rw[iC,if_pos hb]
  refine⟨E0.trans q1,?_⟩;rw[hw];exact q2
 by_cases hb:r.ag=[]∨r.aV=0
 .have wr:=mR el ec h;simp only[dI]at wr;by_cases h1:r.ag=[]
  .have hsl:r.ag.length=0:=(by rw[h1];rfl);simp -implicitDefEqProofs[hbr,hsl,h1];refine wr.mono ?_;intro E H2 hE;obtain⟨be,rfl⟩:=lh hE;simp -implicitDefEqProofs[af];intro _;exact bad hb _ H2 hE
  .have h2:r.aV=0:=hb.resolve_left h1;simp -implicitDefEqProofs[hbr,h1,h2];refine wr.mono ?_;intro E H2 hE;obtain⟨be,rfl⟩:=lh hE;simp -implicitDefEqProofs[af];intro _;exact bad hb _ H2 hE
 .have bD:¬r.ag=[]:=λq=>hb (.inl q);have bN:¬r.aV=0:=λq=>hb (.inr q);have hw:iC r el ec=kl r.ag (r.aD.drop 0) []:=by rw[iC,if_neg hb];rfl
  obtain⟨adk,hadk⟩:∃a:Option Addr,a=ok.map λb=>⟨b,0,none⟩:=⟨_,rfl⟩;rw[<-hadk]at hbr hokk;simp -implicitDefEqProofs[hbr,bD,bN,<-hn];refine bG (T9 h0 r el ec br (.slice adk n n) n) n ⟨0,[],by omega,by omega,by simp,E0,R,hw,by simp,by simp,by simp,by simp,ok,by rw[hn];exact hokk⟩ ?_;clear hbr hbr2 hos hop hokk hbm hbm2 hk3 R;rintro m ⟨T,⟨x,H⟩⟩ ⟨i,ks,rfl,hi,hkl,E1,R1,hw1,g0,g30,g31,g32,ok',hok'⟩;simp at E1 R1 g0 g30 g31 g32 hok';have R1':=R1;obtain⟨o3,kv,hk3,os,op,ok,ss,sp,sk,bm,hbr,hbr1,hbr2,hos,hop,hokk,hbm,hbm1,hbm2⟩:=R1;simp -implicitDefEqProofs[g0,g30,g31,g32];refine bR (λhc=>?_) (λhc=>?_)
  .have hin:i<n:=(by omega);have hti:r.aD[i]? =some r.aD[i]:=aq (by omega);obtain⟨k,hk⟩:=nm r.aD[i];rw[<-hk]at hti;have hdr:r.aD.drop i=k::r.aD.drop (i+1):=(by rw[hk];exact gQ (by omega));obtain⟨_,bk,off,wk,cells,r',rfl,hbk,hdk,hlk,_⟩:=hok'.own.sl.at 6 (λ_=>rfl) hti;simp only[l4,dB,dJ]at hdk;have w1:IntKind.wrap .i64 ((i:Int)+1)=((i+1:Nat):Int):=(by have:=hok.2.1;rw[bB (by omega)];omega);have f1:=Kn k.row k.x r.ag;simp only[nD]at f1;have hkl2:ks.length<=200:=(by have:=hok.2.1;omega);cases hp:kr r.ag k.row k.x with
   |none=>
    have hw2:iC r el ec=(ks,some (k.rL,k.rJ)):=(by rw[hw1,hdr,AW hp]);rw[hp]at f1;simp -implicitDefEqProofs[g0,g30,g31,g32,hin,hbk,hdk,hlk,hbr,pB,hbm,f1,cB,dz];have wr:=mR k.rL k.rJ H;simp only[dI]at wr;refine wr.mono ?_;intro E H2 hE;obtain⟨be,rfl⟩:=lh hE;simp -implicitDefEqProofs[af];intro _;refine⟨E1.trans hE.1,?_⟩;rw[hw2];exact hE.2
   |some q=>
    rw[hp]at f1;have hcon:=Ye kv ks (q:Nat) (by omega) H hk3.own.sl;obtain⟨rfl,hko⟩:=id hk3;simp -implicitDefEqProofs[g0,g30,g31,g32,hin,hbk,hdk,hlk,hbr,pB,hbm,f1,cB,dz];refine cE hcon ?_;by_cases hm:((q:Nat):Int)∈ks
    .have hw2:iC r el ec=(ks,some (k.line,k.aj)):=(by rw[hw1,hdr,AX hp hm]);have wr:=mR k.line k.aj H;simp only[dI]at wr;simp -implicitDefEqProofs[af,hm];intro _;refine wr.mono ?_;intro E H2 hE;obtain⟨be,rfl⟩:=lh hE;simp -implicitDefEqProofs[af];intro _;refine⟨E1.trans hE.1,?_⟩;rw[hw2];exact hE.2
    .have hw2:iC r el ec=kl r.ag (r.aD.drop (i+1)) (ks++[(q:Int)]):=(by rw[hw1,hdr,yg hp hm]);have hr1:List.range 1=[0]:=rfl;have mkK:∀cells,cells=ks.flatMap ab++ab (q:Int)->(λG=>Ext h0 G/\xn h0 G r el ec (ks++[(q:Int)]) br/\∃ok,F.bP 230 l4 h0 G ok r.aD (.slice (some ⟨bk,off,none⟩) n n)) ((iK H o3 (.row true 3 (ab (q:Int))) (.row true 3 cells)).set br
       (.row true 170 [ss,.int .i64 r.aV,.int .i64 r.bA,.slice (some ⟨H.n+1,0,none⟩) (ks.length+1) (ks.length+1),sp,.int .i64 el,.int .i64 ec,.map (some bm),sk,.bool r.eT])):=by
      intro cells hc;refine⟨xP E1 (yL hk3) _ _ hbr1 _,⟨some (H.n+1),_,yM hk3 E1.n _ _ hc hbr2 _,os,op,ok,ss,sp,sk,bm,by rw[fI,if_pos rfl],hbr1,?_,pC hos _ _ _ (pD hos hk3 (by decide)) (l8 hos hbr (by decide)),pC hop _ _ _ (pD hop hk3 (by decide)) (l8 hop hbr (by decide)),pC hokk _ _ _ (pD hokk hk3 (by decide)) (l8 hokk hbr (by decide)),yC _ _ _ hbm hbm2 (tc hk3 hbm) (by rintro rfl;rw[hbr]at hbm;cases hbm),hbm1,?_⟩,ok',pC hok' _ _ _ (pD hok' hk3 (by decide)) (l8 hok' hbr (by decide))⟩
      .show br<(iK H o3 _ _).n;rw[pY];omega
      .show bm<(iK H o3 _ _).n;rw[pY];omega
     have o2:¬br=H.n:=(by omega);have o3':¬br=H.n+1:=(by omega);cases o3 with
     |none=>
      simp only at hko;subst hko;obtain⟨k1,k2,k3⟩:=mkK (ab (q:Int)) rfl;simp -implicitDefEqProofs[af,g0,g30,g31,g32,hbr,aM,hr1,dC,dS,dH,o2,o3',w1];intro _;exact⟨n-(i+1),by omega,i+1,[(q:Int)],rfl,by omega,by simp,k1,k2,hw2,by simp,by simp,by simp,by simp,k3⟩
     |some b3=>
      simp only at hko;obtain⟨hk1,hk2,hk3'⟩:=hko;obtain⟨K,hK⟩:=nm (ks.flatMap ab);have hKl:K.length=ks.length:=(by have:=fr 1 (enc:=ab) (λ_=>rfl) ks;rw[<-hK]at this;omega);rw[<-hK]at hk1;have hmx:(ks.length+1)*8<=140737488355328:=(by omega);have o1:¬b3=H.n:=(by omega);have o4:¬br=b3:=(by rintro rfl;rw[hbr]at hk1;simp at hk1);have e8:K.take ks.length=K:=b9 (by omega);obtain⟨k1,k2,k3⟩:=mkK (K++ab (q:Int)) (by rw[hK]);simp -implicitDefEqProofs[af,hm,g0,g30,g31,g32,hbr,aM,hr1,dC,dS,dH,hk1,hKl,hmx,o1,o2,o3',o4,e8,w1];intro _;exact⟨n-(i+1),by omega,i+1,ks++[(q:Int)],rfl,by omega,by simp;omega,k1,k2,hw2,by simp,by simp,by simp,by simp,k3⟩
  .have hin:i=n:=(by omega);have hw2:iC r el ec=(ks,none):=(by rw[hw1,List.drop_of_length_le (by omega)];rfl);simp -implicitDefEqProofs[g0,g30,g31,g32];refine⟨E1,?_⟩;rw[hw2];exact⟨rfl,R1'⟩
def qB(n lo hi:Int)(h:aa):al PP 181 [.int .i64 n,.int .i64 lo,.int .i64 hi] h (λv h'=>h'=h/\v= .bool (aE n lo hi)):=by
 refine aC Tryz.func181 P8 ?_;simp only[aA,Tryz.f181];unfold aE;by_cases h1:lo<=n
 .simp -implicitDefEqProofs[h1]
 .simp -implicitDefEqProofs[h1]
def tj(n:Int)(h:aa):al PP 229 [.int .i64 n] h (λv h'=>h'=h/\v= .bool (aE n (-1048576) 1048576)):=by
 refine aC Tryz.func229 Qa ?_;simp only[aA,Tryz.f229];simp -implicitDefEqProofs;refine cE (qB n (-1048576) 1048576 h) ?_;simp -implicitDefEqProofs[af]
def Rx(p:Int×Int):List Value:=[.int .i64 p.1,.int .i64 p.2]
def Ap(a b:Option Nat):Prop:=∀n,a=some n->b≠some n
def gN(g:Int):Int:=if 0<g then 1 else 0
def rN(b:Bool):Int:=if b then 1 else 0
structure aoS(h0 h:aa)(r:Rd)(ks:List Int)(br:Nat)(os op ok o1 o2 o3 o4:Option Nat)(ss sp sk s1 s2 s3 s4:Value):Prop where
 row:h.f br= .row true 188 [ss,.int .i64 r.aV,.int .i64 r.bA,sk,sp,.int .i64 (gN r.aV),.int .i64 (rN r.eT),s1,s2,s3,s4]
 lo:h0.n<=br
 hi:br<h.n
 ag:F.bP 99 ao h0 h os r.ag ss
 aG:F.bP 103 aZ h0 h op r.aG sp
 aD:F.bP 3 ab h0 h ok ks sk
 rows:F.bP 3 ab h0 h o1 (r.aD.map (·.row)) s1
 xs:F.bP 3 ab h0 h o2 (r.aD.map (·.x)) s2
 words:F.bP 36 Rx h0 h o3 (r.aD.map λk=>(k.line,k.aj)) s3
 aoY:F.bP 36 Rx h0 h o4 (r.aD.map λk=>(k.rL,k.rJ)) s4
 aoU:Ap ok o1
 VG:Ap ok o2
 a12:Ap o1 o2
 aoT:Ap o3 o4
 nil:r.aD=[]->o1=none/\o2=none/\o3=none/\o4=none
structure iE(h G:aa)(br:Nat)(p1 p2:Option Nat)(e:TypeId)(X1 X2:List Value)(y1 y2:Nat):Prop where
 yv:h.n<=y1
 v8:h.n<=y2
 ne:y1≠y2
 fC:y1<G.n
 uH:y2<G.n
 n:h.n<=G.n
 g:G.g=h.g
 same:∀x,x<h.n->x≠br->p1≠some x->p2≠some x->G.f x=h.f x
 r1:G.f y1= .row true e X1
 r2:G.f y2= .row true e X2
def iE.ext{h0 h G:aa}{br:Nat}{p1 p2:Option Nat}{e:TypeId}{X1 X2:List Value}{y1 y2:Nat}(T:iE h G br p1 p2 e X1 X2 y1 y2)(E:Ext h0 h)(hb:h0.n<=br)(h1:∀b,p1=some b->h0.n<=b)(h2:∀b,p2=some b->h0.n<=b):Ext h0 G:=
 ⟨T.g.trans E.g,eY E.n T.n,λb hlt=>by
  rw[T.same b (cV hlt E.n) (by omega) (λq=>by have:=h1 b q;omega) (λq=>by have:=h2 b q;omega),E.f b hlt]⟩
end Go.Proofs.Ybk
namespace Go.Proofs
open Go.Shelf Go.RowKit Go.Lib Go.Sort
def Tryz.alc:Go.Shelf.Ren:=⟨fun|6=>163|15=>220|14=>219|28=>266|29=>267|20=>258|21=>259|22=>260|23=>261|24=>262|25=>263|26=>264|27=>265|46=>297|47=>298|48=>299|49=>300|50=>301|57=>313|n=>n,fun|22=>60|24=>99|25=>234|3=>3|39=>50|0=>0|53=>348|55=>184|4=>4|46=>342|45=>341|50=>205|5=>5|9=>9|66=>368|70=>372|76=>381|77=>382|n=>n,fun|n=>n⟩
def Tryz.alb:SlLaysF0.n6 Tryz.prog Tryz.alc:={
 mixed:=by kernel_rfl,
 f6:=⟨Tryz.f163.name,by decide,Tryz.func163.trans (congrArg some (by kernel_rfl))⟩,
 f14:=⟨Tryz.f219.name,by decide,Tryz.func219.trans (congrArg some (by kernel_rfl))⟩,
 f15:=Tryz.func220.trans (congrArg some (by kernel_rfl)),
 f20:=⟨Tryz.f258.name,by decide,Tryz.func258.trans (congrArg some (by kernel_rfl))⟩,
 f21:=⟨Tryz.f259.name,by decide,Tryz.func259.trans (congrArg some (by kernel_rfl))⟩,
 f22:=⟨Tryz.f260.name,by decide,Tryz.func260.trans (congrArg some (by kernel_rfl))⟩,
 f23:=⟨Tryz.f261.name,by decide,Tryz.func261.trans (congrArg some (by kernel_rfl))⟩,
 f24:=⟨Tryz.f262.name,by decide,Tryz.func262.trans (congrArg some (by kernel_rfl))⟩,
 f25:=⟨Tryz.f263.name,by decide,Tryz.func263.trans (congrArg some (by kernel_rfl))⟩,
 f26:=⟨Tryz.f264.name,by decide,Tryz.func264.trans (congrArg some (by kernel_rfl))⟩,
 f27:=⟨Tryz.f265.name,by decide,Tryz.func265.trans (congrArg some (by kernel_rfl))⟩,
 f28:=Tryz.func266.trans (congrArg some (by kernel_rfl)),
 f29:=Tryz.func267.trans (congrArg some (by kernel_rfl)),
 f46:=⟨Tryz.f297.name,by decide,Tryz.func297.trans (congrArg some (by kernel_rfl))⟩,
 f47:=Tryz.func298.trans (congrArg some (by kernel_rfl)),
 f48:=Tryz.func299.trans (congrArg some (by kernel_rfl)),
 f49:=⟨Tryz.f300.name,by decide,Tryz.func300.trans (congrArg some (by kernel_rfl))⟩,
 f50:=⟨Tryz.f301.name,by decide,Tryz.func301.trans (congrArg some (by kernel_rfl))⟩,
 f57:=⟨Tryz.f313.name,by decide,Tryz.func313.trans (congrArg some (by kernel_rfl))⟩,
 t0:=Tryz.underlying0,
 a0:=Tryz.isAgg0,
 z0:=Tryz.sizeOf0,
 v0:=Tryz.zeroValue0,
 t3:=Tryz.underlying3,
 a3:=Tryz.isAgg3,
 z3:=Tryz.sizeOf3,
 v3:=Tryz.zeroValue3,
 t4:=Tryz.underlying4,
 a4:=Tryz.isAgg4,
 z4:=Tryz.sizeOf4,
 v4:=Tryz.zeroValue4,
 t5:=Tryz.underlying5,
 a5:=Tryz.isAgg5,
 z5:=Tryz.sizeOf5,
 v5:=Tryz.zeroValue5,
 t9:=Tryz.underlying9,
 a9:=Tryz.isAgg9,
 z9:=Tryz.sizeOf9,
 v9:=Tryz.zeroValue9,
 t22:=Tryz.underlying60,
 a22:=Tryz.isAgg60,
 z22:=Tryz.sizeOf60,
 v22:=Tryz.zeroValue60,
 t25:=Tryz.underlying234,
 a25:=Tryz.isAgg234,
 z25:=Tryz.sizeOf234,
 v25:=Tryz.zeroValue234,
 t39:=Tryz.underlying50,
 a39:=Tryz.isAgg50,
 z39:=Tryz.sizeOf50,
 v39:=Tryz.zeroValue50,
 t45:=Tryz.underlying341,
 a45:=Tryz.isAgg341,
 z45:=Tryz.sizeOf341,
 v45:=Tryz.zeroValue341,
 t46:=Tryz.underlying342,
 a46:=Tryz.isAgg342,
 z46:=Tryz.sizeOf342,
 v46:=Tryz.zeroValue342,
 t50:=Tryz.underlying205,
 a50:=Tryz.isAgg205,
 z50:=Tryz.sizeOf205,
 v50:=Tryz.zeroValue205,
 t53:=Tryz.underlying348,
 a53:=Tryz.isAgg348,
 z53:=Tryz.sizeOf348,
 v53:=Tryz.zeroValue348,
 t55:=Tryz.underlying184,
 a55:=Tryz.isAgg184,
 z55:=Tryz.sizeOf184,
 v55:=Tryz.zeroValue184,
 t66:=Tryz.underlying368,
 a66:=Tryz.isAgg368,
 z66:=Tryz.sizeOf368,
 v66:=Tryz.zeroValue368,
 t70:=Tryz.underlying372,
 a70:=Tryz.isAgg372,
 z70:=Tryz.sizeOf372,
 v70:=Tryz.zeroValue372,
 t76:=Tryz.underlying381,
 a76:=Tryz.isAgg381,
 z76:=Tryz.sizeOf381,
 v76:=Tryz.zeroValue381,
 t77:=Tryz.underlying382,
 a77:=Tryz.isAgg382,
 z77:=Tryz.sizeOf382,
 v77:=Tryz.zeroValue382}
def Tryz.ala:Go.Shelf.Ren:=⟨fun|189=>168|125=>220|257=>221|128=>266|129=>267|294=>268|295=>269|296=>270|297=>271|298=>272|299=>273|216=>274|300=>275|301=>276|328=>302|329=>298|330=>299|331=>303|332=>304|215=>305|343=>314|n=>n,fun|28=>22|3=>3|46=>50|0=>0|51=>348|53=>184|4=>4|183=>342|182=>341|131=>205|5=>5|9=>9|218=>368|222=>372|228=>381|229=>382|n=>n,fun|n=>n⟩
def Tryz.ak9:Lays.n189 Tryz.prog Tryz.ala:={
 mixed:=by kernel_rfl,
 f125:=Tryz.func220.trans (congrArg some (by kernel_rfl)),
 f128:=Tryz.func266.trans (congrArg some (by kernel_rfl)),
 f129:=Tryz.func267.trans (congrArg some (by kernel_rfl)),
 f189:=Tryz.func168.trans (congrArg some (by kernel_rfl)),
 f215:=Tryz.func305.trans (congrArg some (by kernel_rfl)),
 f216:=Tryz.func274.trans (congrArg some (by kernel_rfl)),
 f257:=Tryz.func221.trans (congrArg some (by kernel_rfl)),
 f294:=Tryz.func268.trans (congrArg some (by kernel_rfl)),
 f295:=Tryz.func269.trans (congrArg some (by kernel_rfl)),
 f296:=Tryz.func270.trans (congrArg some (by kernel_rfl)),
 f297:=Tryz.func271.trans (congrArg some (by kernel_rfl)),
 f298:=Tryz.func272.trans (congrArg some (by kernel_rfl)),
 f299:=Tryz.func273.trans (congrArg some (by kernel_rfl)),
 f300:=Tryz.func275.trans (congrArg some (by kernel_rfl)),
 f301:=Tryz.func276.trans (congrArg some (by kernel_rfl)),
 f328:=Tryz.func302.trans (congrArg some (by kernel_rfl)),
 f329:=Tryz.func298.trans (congrArg some (by kernel_rfl)),
 f330:=Tryz.func299.trans (congrArg some (by kernel_rfl)),
 f331:=Tryz.func303.trans (congrArg some (by kernel_rfl)),
 f332:=Tryz.func304.trans (congrArg some (by kernel_rfl)),
 f343:=Tryz.func314.trans (congrArg some (by kernel_rfl)),
 t0:=Tryz.underlying0,
 a0:=Tryz.isAgg0,
 z0:=Tryz.sizeOf0,
 v0:=Tryz.zeroValue0,
 t3:=Tryz.underlying3,
 a3:=Tryz.isAgg3,
 z3:=Tryz.sizeOf3,
 v3:=Tryz.zeroValue3,
 t4:=Tryz.underlying4,
 a4:=Tryz.isAgg4,
 z4:=Tryz.sizeOf4,
 v4:=Tryz.zeroValue4,
 t5:=Tryz.underlying5,
 a5:=Tryz.isAgg5,
 z5:=Tryz.sizeOf5,
 v5:=Tryz.zeroValue5,
 t9:=Tryz.underlying9,
 a9:=Tryz.isAgg9,
 z9:=Tryz.sizeOf9,
 v9:=Tryz.zeroValue9,
 t28:=Tryz.underlying22,
 a28:=Tryz.isAgg22,
 z28:=Tryz.sizeOf22,
 v28:=Tryz.zeroValue22,
 t46:=Tryz.underlying50,
 a46:=Tryz.isAgg50,
 z46:=Tryz.sizeOf50,
 v46:=Tryz.zeroValue50,
 t51:=Tryz.underlying348,
 a51:=Tryz.isAgg348,
 z51:=Tryz.sizeOf348,
 v51:=Tryz.zeroValue348,
 t53:=Tryz.underlying184,
 a53:=Tryz.isAgg184,
 z53:=Tryz.sizeOf184,
 v53:=Tryz.zeroValue184,
 t131:=Tryz.underlying205,
 a131:=Tryz.isAgg205,
 z131:=Tryz.sizeOf205,
 v131:=Tryz.zeroValue205,
 t182:=Tryz.underlying341,
 a182:=Tryz.isAgg341,
 z182:=Tryz.sizeOf341,
 v182:=Tryz.zeroValue341,
 t183:=Tryz.underlying342,
 a183:=Tryz.isAgg342,
 z183:=Tryz.sizeOf342,
 v183:=Tryz.zeroValue342,
 t218:=Tryz.underlying368,
 a218:=Tryz.isAgg368,
 z218:=Tryz.sizeOf368,
 v218:=Tryz.zeroValue368,
 t222:=Tryz.underlying372,
 a222:=Tryz.isAgg372,
 z222:=Tryz.sizeOf372,
 v222:=Tryz.zeroValue372,
 t228:=Tryz.underlying381,
 a228:=Tryz.isAgg381,
 z228:=Tryz.sizeOf381,
 v228:=Tryz.zeroValue381,
 t229:=Tryz.underlying382,
 a229:=Tryz.isAgg382,
 z229:=Tryz.sizeOf382,
 v229:=Tryz.zeroValue382}
end Go.Proofs
namespace Go.Proofs.Ybk.V
open Go Go.Am
def im:PP=Tryz.prog:=by unfold PP;rfl
instance:Inhabited au:=⟨⟨0,0,0,0⟩⟩
def xC(x y:au):ltOf su x y=fa x y:=by
 unfold ltOf su;by_cases h1:fa x y=true
 .rw[if_pos h1,h1];rfl
 .rw[if_neg h1];have:fa x y=false:=by simpa using h1
  rw[this];split<;>rfl
def lp(a b:au):fa a b=true↔a.row<b.row∨(a.row=b.row/\a.x<b.x):=by
 simp[fa]
def amb:Go.Sort.SWO (ltOf su) where
 irrefl x:=by rw[xC,<-mq,lp];omega
 trans x y z h1 h2:=by rw[xC,lp]at *;omega
 ntrans x y z h1 h2:=by rw[xC,<-mq,lp]at *;omega
def Ku{α:Type}[Inhabited α](enc:α->List Value)(k:Nat)(hk:∀x,(enc x).length=k)(xs:List α)(j:Nat)(hj:j<xs.length*k):
  (xs.flatMap enc)[j]? =some ((enc xs.toArray[j / k]!)[j % k]!):=by
 have hk0:0<k:=by
  rcases Nat.eq_zero_or_pos k with h|h
  .subst h;simp at hj
  .exact h
 have hq:j / k<xs.length:=(Nat.div_lt_iff_lt_mul hk0).2 hj;have hd:=q7 (enc:=enc) k hk xs (j / k);have e:(xs.flatMap enc)[j]? =((xs.flatMap enc).drop (j / k*k))[j % k]? :=by
  rw[List.getElem?_drop];congr 1;have:=Nat.div_add_mod j k;rw[Nat.mul_comm]at this;omega
 rw[e,hd,gQ hq,ic,ji (by rw[hk];exact Nat.mod_lt _ hk0)];have h2:j % k<(enc xs[j / k]).length:=by rw[hk];exact Nat.mod_lt _ hk0
 have h3:xs.toArray[j / k]! =xs[j / k]:=by simp[hq]
 rw[aq h2,h3];congr 1;exact(getElem!_pos (enc xs[j / k]) (j % k) h2).symm
def Rj(xs:List au)(v:Value)(hm:v∈xs.flatMap ao):∃n,v= .int .i64 n:=by
 obtain⟨s,_,hs⟩:=List.mem_flatMap.1 hm;simp only[ao,cJ,List.not_mem_nil,or_false]at hs;rcases hs with z|z|z|z<;>exact⟨_,z⟩
def kV(ys:List au):Prop:=∀(i j:Nat)(a b:au),i<j->ys[i]? =some a->ys[j]? =some b->fa b a=false
def ak5(b c:Nat)(xs:List au)(hn:xs≠[])(hl:xs.length<=1073741824)(h:aa)(hb:h.f b= .row true 99 (xs.flatMap ao)):
  al PP 163 [.slice (some ⟨b,0,none⟩) xs.length c,.func (.func 164) #[] #[]] h (λr h'=>r= .tuple #[]/\∃ys,ys.Perm xs/\kV ys/\h'=h.set b (.row true 99 (ys.flatMap ao))):=by
 rw[im];refine⟨⟨Tryz.f163,Tryz.func163,by kernel_rfl,by kernel_rfl⟩,λρ w args' hbx R V=>?_⟩;obtain⟨v0,hv0,V0⟩:=V.2 0 _ rfl;obtain⟨v1,hv1,V1⟩:=V.2 1 _ rfl;have hargs:args'=[v0,v1]:=by
  have:=V.1;match args',hv0,hv1,this with
  |[p,q],h0,h1,_=>simp at h0 h1;rw[h0,h1]
 subst hargs;have e1:v1= .func (.func 164) #[] #[]:=by
  cases V1 with
  |func fn p p' q q' ha hl _ _=>
   have h1:p'=[]:=List.eq_nil_of_length_eq_zero ha.symm;have h2:q'=[]:=List.eq_nil_of_length_eq_zero hl.symm;subst h1;subst h2;rfl
 subst e1;have hlen:0<xs.length:=sf.2 hn;obtain⟨pl,cap,hk,e0⟩:∃pl cap,ρ (false,b)=some pl/\v0= .slice (some ⟨pl.B,pl.o,none⟩) xs.length cap:=by
  rcases V0.nS with⟨a',e,_⟩|⟨b',off,pl,cap,e,hk,hc,hn',rfl⟩
  .omega
  .simp only[Addr.mk.injEq,and_true]at e;obtain⟨rfl,rfl⟩:=e;exact⟨pl,cap,hk,by simp⟩
 subst e0;obtain⟨C,e',fz,c1,c2,c3,c4,c5,c6⟩:=R.row (false,b) pl true 99 (xs.flatMap ao) hk (by simp[Mem.row?,hb]);obtain rfl:=c2 rfl;have hblk:=R.bound _ _ hk;have hfl:(xs.flatMap ao).length=xs.length*4:=fr 4 fD xs;have hcell:∀j,j<xs.length*4->C[pl.o+j]? =some ((ao xs.toArray[j / 4]!)[j % 4]!):=by
  intro j hj;have hg:=Ku ao 4 fD xs j hj;obtain⟨v',q1,q2⟩:=c6 j _ hg;rw[q1];congr 1;refine q2.dz ?_;have hm:(ao xs.toArray[j / 4]!)[j % 4]!∈xs.flatMap ao:=dE hg;obtain⟨n,hn⟩:=Rj xs _ hm;rw[hn];rfl
 have hH:Go.Sort.HoldsK ao 4 w pl.B pl.o xs.toArray:=by
  intro j hj;rw[Go.Sort.size_flatK]at hj;have hj':j<xs.length*4:=by simpa using hj
  rw[Go.Sort.get_flatK _ _ _ _ hj];constructor
  .unfold World.cell?;simp only[c1,Option.isSome_none];exact hcell j hj'
  .unfold World.frozen?;simp only[c1];simp
 have hcmp:CmpLays Tryz.prog 164 #[] ao 4 su pl.B pl.o xs.toArray.size w:=by
  intro m os dk _ x y;have:=(im ▸ XR x y h0:al Tryz.prog 164 [bg x,bg y] h0 _).grown (λv h' q=>q.2) rfl (λv hv=>by
   simp only[cJ,List.not_mem_nil,or_false]at hv;rcases hv with z|z<;>rw[z]<;>rfl) (sortWorldK ao 4 w pl.B pl.o m dk os)
  exact this
 have hcon:=AnyQ.slices_SortFunc Tryz.alb 4 Tryz.isAgg99 Tryz.sizeOf99 ao fD (λx v hv=>by
  simp only[ao,cJ,List.not_mem_nil,or_false]at hv;rcases hv with z|z|z|z<;>rw[z]<;>rfl) su amb 164 #[] pl.B pl.o cap xs.toArray w (enters_of Tryz.func164 (by kernel_rfl) rfl) hcmp hH hblk (by simp;omega)
 have hcon':Calls Tryz.prog 163 ⟨[.slice (some ⟨pl.B,pl.o,none⟩) xs.length cap,.func (.func 164) #[] #[]]⟩ w _:=hcon;refine hcon'.mono ?_;rintro e w' ⟨rfl,d',n,os,hperm,hsort,rfl⟩;obtain⟨p1,p2,p3⟩:=hperm;have hd:d'.size=xs.length:=by simpa using p1
 have hdl:(d'.extract 0 xs.toArray.size).toList=d'.toList:=by simp;rw[b9 (by simp[hd])]
 have hxl:(xs.toArray.extract 0 xs.toArray.size).toList=xs:=by simp
 rw[hdl,hxl]at p3;have hys:∀i a,d'.toList[i]? =some a->d'[i]! =a/\i<xs.length:=by
  intro i a hi;have hlt:=(cP.mp hi).1;have hlt':i<d'.size:=by simpa using hlt
  refine⟨?_,by omega⟩;rw[getElem!_pos d' i hlt'];have:=(cP.mp hi).2;simpa using this
 refine⟨.tuple #[],.tuple #[],_,ρ,rfl,⟨rfl,d'.toList,p3,λi j a b hij hi hj=>?_,rfl⟩,hbx,?_⟩
 .obtain⟨a1,a2⟩:=hys i a hi;obtain⟨b1,b2⟩:=hys j b hj;have:=hsort i j (Nat.zero_le _) hij (by simpa using b2);rw[xC,a1,b1]at this;exact this
 .have hfl':(d'.toList.flatMap ao).length=xs.length*4:=by rw[fr 4 fD];simp[hd]
  have hheap:(sortWorldK ao 4 w pl.B pl.o n d' os).heap=(w.heap.modify pl.B (Go.Sort.onCells (Go.Sort.putCells id pl.o (Go.Sort.flatK ao 4 d'))))++os:=rfl;have hsz:(w.heap.modify pl.B (Go.Sort.onCells (Go.Sort.putCells id pl.o (Go.Sort.flatK ao 4 d')))).size=w.heap.size:=by simp
  obtain⟨q1,q2⟩:=rS R hk hb (cs':=d'.toList.flatMap ao) (by rw[hfl',hfl]) (w':=sortWorldK ao 4 w pl.B pl.o n d' os) rfl rfl rfl (Nat.le_add_right _ _) (by rw[hheap,Array.size_append,hsz];omega)
   (λB hB hne=>by
    rw[hheap,Array.getElem?_append_left (by rw[hsz];exact hB),Array.getElem?_modify,if_neg (Ne.symm hne)])
   (λC2 e2 fz2 hC2=>by
    rw[c1]at hC2;simp only[av,Obj.cells.injEq]at hC2;obtain⟨rfl,rfl,rfl⟩:=hC2;refine⟨Go.Sort.putCells id pl.o (Go.Sort.flatK ao 4 d') C,?_,by simp[Go.Sort.putCells],λi v hi=>?_⟩
    .rw[hheap,Array.getElem?_append_left (by rw[hsz];exact hblk),Array.getElem?_modify,if_pos rfl,c1];rfl
    .have hi':i<xs.length*4:=(by have:=(cP.mp hi).1;omega);have hg:=Ku ao 4 fD d'.toList i (by simpa[hd]using hi');rw[hg]at hi;obtain rfl:=bU hi;have hin:pl.o+i<C.size:=(by omega);refine⟨(ao d'[i / 4]!)[i % 4]!,?_,?_⟩
     .unfold Go.Sort.putCells;rw[Array.getElem?_mapIdx,Array.getElem?_eq_getElem hin];simp only[fV,id];rw[if_pos ⟨by omega,by rw[Go.Sort.size_flatK,hd];omega⟩,Nat.add_sub_cancel_left,Go.Sort.get_flatK _ _ _ _ (by rw[hd];exact hi')]
     .simp only[Array.toArray_toList];have hm:(ao d'[i / 4]!)[i % 4]!∈d'.toList.flatMap ao:=by
       have:=dE hg;simpa using this
      obtain⟨n,hn⟩:=Rj _ _ hm;rw[hn];exact .int _ _)
  exact⟨q1,q2,.gG rfl⟩
end Go.Proofs.Ybk.V
namespace Go.Proofs.Ybk
open Go Go.Am
def Md(i:Nat):List Nat:=kp [[0,1,4],[]] i
def EU:aw:=⟨[],Md,aT⟩
def afF:okB EU Tryz.f163=true:=by kernel_rfl
def Mi(i:Nat):List Nat:=kp [[0,2],[]] i
def EZ:aw:=⟨[],Mi,aT⟩
def afK:okB EZ Tryz.f168=true:=by kernel_rfl
def M0(i:Nat):List Nat:=kp [[0,1,2,3,4,10],[0,1,2,3,4,10,11],[0,1,2,3,4,10,11,12],[0,1,2,3,4,10,11,12,25],[],[0,1,2,3,4,10,11,12,32],[],[0,1,2,3,4,10,11,12,39],[0,1,2,3,4,10,11,12],[0,1,2,3,4,10,11,12],[0,1,2,3,4,10,11,12,13,14],[0,1,2,3,4,10,11,12,13,14,56],[0,1,2,3,4,10,11,12,13],[0,1,2,3,4,10,11,12,13],[0,1,2,3,4,10,11,12,13,14],[0,1,2,3,4,10,11,12,13,75],[0,1,2,3,4,10,11,12,13,80],[0,1,2,3,4,10,11,12,13,97],[0,2,3,4,10,11,15],[0,1,2,3,4,10,11],[0,1,2,3,4,12,16,17],[0,1,2,3,4,11,12,16],[0,1,2,3,4,11,12,16,18,19],[0,1,2,3,4,11,16,18,19,20],[0,1,2,3,4,11,16,18,19,20,125],[0,1,2,3,4,10,11,16],[0,2,3,4,10,11,16],[0,1,2,3,4,10,11],[0,1,2,3,4,10,11,16],[0,1,3,4,10,11,16],[0,1,2,3,4,10,11]] i
def Jf(i:Nat):bW:=if i=17 then⟨[],[0,1,2,3,4,5,6,7,8,9,10,11,12,13,14,15,16],[(0,[]),(1,[]),(2,[]),(3,[]),(3,[]),(3,[]),(3,[5]),(3,[4,5,6]),(3,[4,5,6,7]),(3,[]),(3,[]),(3,[9,10]),(3,[9,10,11]),(13,[]),(14,[]),(15,[]),(16,[])],[]⟩else⟨[],[],[],[]⟩
def FV:aw:=⟨[],M0,Jf⟩
def agn:okB FV Tryz.f219=true:=by kernel_rfl
def M7(i:Nat):List Nat:=kp [[0],[2],[2]] i
def FX:aw:=⟨[],M7,aT⟩
def agp:okB FX Tryz.f220=true:=by kernel_rfl
def M9(i:Nat):List Nat:=kp [[0,1,2,3,8],[0,1,2,3,8,9],[0,1,2,3,8,9,10],[0,1,2,3,8,9,10,23],[],[0,1,2,3,8,9,10,29],[],[0,1,2,3,8,9,10,35],[0,1,2,3,8,9,10],[0,1,2,3,8,9,10],[0,1,2,3,8,9,10,11,12],[0,1,2,3,8,9,10,11,12,50],[0,1,2,3,8,9,10,11],[0,1,2,3,8,9,10,11],[0,1,2,3,8,9,10,11,12],[0,1,2,3,8,9,10,11,68],[0,1,2,3,8,9,10,11,72],[0,1,2,3,8,9,10,11,87],[0,2,3,8,9,13],[0,1,2,3,8,9],[0,1,2,3,10,14,15],[0,1,2,3,9,10,14],[0,1,2,3,9,10,14,16,17],[0,1,2,3,9,14,16,17,18],[0,1,2,3,9,14,16,17,18,113],[0,1,2,3,8,9,14],[0,2,3,8,9,14],[0,1,2,3,8,9],[0,1,2,3,8,9,14],[0,1,3,8,9,14],[0,1,2,3,8,9]] i
def Jg(i:Nat):bW:=if i=17 then⟨[],[0,1,2,3,4,5,6,7,8,9,10,11,12,13,14],[(0,[]),(1,[]),(2,[]),(3,[]),(3,[]),(3,[4]),(6,[]),(7,[]),(3,[]),(3,[]),(3,[8,9]),(3,[8,9,10]),(12,[]),(13,[]),(14,[])],[]⟩else⟨[],[],[],[]⟩
def FY:aw:=⟨[],M9,Jg⟩
def agq:okB FY Tryz.f221=true:=by kernel_rfl
def Nz(i:Nat):List Nat:=kp [[0,1,2,3,8],[0,1,2,3,8,14],[0,1,2,3,8],[0,1,2,3,8,9],[0,1,2,3,8,9,34],[0,1,2,3,8,9],[0,1,2,3,8,9]] i
def Jo(i:Nat):bW:=if i=4 then⟨[],[0,1,2,3,4,5,6,7,8,9,10,11,12,13,14,15,16],[(0,[]),(0,[]),(2,[]),(3,[]),(4,[]),(4,[]),(4,[]),(4,[5,6]),(4,[5,6,7]),(4,[]),(4,[]),(4,[10]),(4,[9,10,11]),(4,[9,10,11,12]),(14,[]),(15,[]),(16,[])],[]⟩else if i=6 then⟨[],[0,1,2,3,4,5,6,7,8,9,10,11,12,13,14,15,16,17],[(0,[]),(0,[]),(0,[]),(0,[]),(0,[3]),(0,[]),(0,[]),(0,[6]),(0,[5,6,7]),(0,[5,6,7,8]),(0,[]),(0,[]),(0,[10,11]),(0,[10,11,12]),(2,[5,6,7,8,9,10,11,12,13]),(2,[5,6,7,8,9,10,11,12,13,14]),(16,[]),(17,[])],[]⟩else⟨[],[],[],[]⟩
def Gr:aw:=⟨[],Nz,Jo⟩
def agM:okB Gr Tryz.f258=true:=by kernel_rfl
def NA(i:Nat):List Nat:=kp [[0,2],[0,2,4],[0],[0,2],[0,2,8],[0,2],[0,2],[0,2,14],[0,2],[0,2],[2]] i
def Gs:aw:=⟨[],NA,aT⟩
def agN:okB Gs Tryz.f267=true:=by kernel_rfl
def NB(i:Nat):List Nat:=kp [[0,1,2,6],[0,1,2,6,12],[0,1,2,6],[0,1,2,6,7],[0,1,2,6,7,30],[0,1,2,6,7],[0,1,2,6,7]] i
def Jp(i:Nat):bW:=if i=4 then⟨[],[0,1,2,3,4,5,6,7,8,9,10,11,12,13,14],[(0,[]),(0,[]),(2,[]),(3,[]),(4,[]),(4,[]),(6,[]),(7,[]),(4,[]),(4,[]),(4,[9]),(4,[8,9,10]),(4,[8,9,10,11]),(13,[]),(14,[])],[]⟩else if i=6 then⟨[],[0,1,2,3,4,5,6,7,8,9,10,11,12,13,14,15,16,17],[(0,[]),(0,[]),(0,[]),(0,[]),(0,[3]),(0,[]),(0,[]),(0,[6]),(0,[5,6,7]),(0,[5,6,7,8]),(0,[]),(0,[]),(0,[10,11]),(0,[10,11,12]),(2,[5,6,7,8,9,10,11,12,13]),(2,[5,6,7,8,9,10,11,12,13,14]),(16,[]),(17,[])],[]⟩else⟨[],[],[],[]⟩
def Gt:aw:=⟨[],NB,Jp⟩
def agO:okB Gt Tryz.f268=true:=by kernel_rfl
attribute [simp] Md EU Mi EZ M0 FV Jf M7 FX M9 FY Jg Nz Gr Jo NA Gs NB Gt Jp
end Go.Proofs.Ybk
namespace Go.Proofs.Ybk.V
open Go Go.Am
set_option maxHeartbeats 2000000
def abe(h:aa):al PP 267 [.int .u64 0] h (λv h'=>h'=h/\v= .int .i64 0):=by
 refine aC Tryz.func267 agN ?_;simp only[aA,Tryz.f267];have e1:IntKind.wrap .u8 0=0:=rfl;have e2:IntKind.wrap .i64 0=0:=rfl;simp -implicitDefEqProofs[e1,e2];rfl
def O7(h:aa):al PP 220 [.int .u64 0] h (λv h'=>h'=h/\v= .int .i64 0):=by
 refine aC Tryz.func220 agp ?_;simp only[aA,Tryz.f220];simp -implicitDefEqProofs;refine cE (abe h) ?_;simp -implicitDefEqProofs[af]
def Up(h:aa)(n:Nat)(σ:St):Prop:=n=0/\σ.m.h=h/\σ.t.get 8=some (.int .i64 1)/\σ.t.get 2=some (.int .i64 0)
def aaE(ad:Option Addr)(c:Nat)(h:aa):al PP 258 [.slice ad 0 c,.int .i64 0,.int .i64 0,.func (.func 164) #[] #[]] h (λv h'=>h'=h/\v= .tuple #[]):=by
 refine aC Tryz.func258 agM ?_;simp only[aA,Tryz.f258];have e1:IntKind.wrap .i64 1=1:=rfl;simp -implicitDefEqProofs[e1];refine bG (Up h) _ ⟨rfl,rfl,by simp⟩ ?_;rintro n ⟨T,⟨x,H⟩⟩ ⟨rfl,hH,g8,g2⟩;simp at hH g8 g2;subst hH;simp -implicitDefEqProofs[g8,g2]
def Um(v:Value)(h:aa)(n:Nat)(σ:St):Prop:=n=0/\σ.m.h=h/\σ.t.get 0=some v/\σ.t.get 1=some (.int .i64 0)/\σ.t.get 2=some (.int .i64 0)/\σ.t.get 4=some (.func (.func 164) #[] #[])
def aiU(ad:Option Addr)(c:Nat)(h:aa):al PP 219 [.slice ad 0 c,.int .i64 0,.int .i64 0,.int .i64 0,.func (.func 164) #[] #[]] h (λv h'=>h'=h/\v= .tuple #[]):=by
 refine aC Tryz.func219 agn ?_;simp only[aA,Tryz.f219];simp -implicitDefEqProofs;refine bG (Um (.slice ad 0 c) h) _ ⟨rfl,rfl,by simp⟩ ?_;rintro n ⟨T,⟨x,H⟩⟩ ⟨rfl,hH,g0,g1,g2,g4⟩;simp at hH g0 g1 g2 g4;subst hH;have e1:IntKind.wrap .i64 0=0:=rfl;simp -implicitDefEqProofs[g0,g1,g2,g4,e1];refine cE (aaE ad c H) ?_;simp -implicitDefEqProofs[af]
def ak3(ad:Option Addr)(c:Nat)(h:aa):al PP 163 [.slice ad 0 c,.func (.func 164) #[] #[]] h (λv h'=>h'=h/\v= .tuple #[]):=by
 refine aC Tryz.func163 afF ?_;simp only[aA,Tryz.f163];have e1:IntKind.wrap .u64 0=0:=rfl;simp -implicitDefEqProofs[e1];refine(O7 h).mono ?_;rintro v h' ⟨rfl,rfl⟩;simp -implicitDefEqProofs[af];intro _;refine cE (aiU ad c h') ?_;simp -implicitDefEqProofs[af]
def Uq(h:aa)(n:Nat)(σ:St):Prop:=n=0/\σ.m.h=h/\σ.t.get 6=some (.int .i64 1)/\σ.t.get 2=some (.int .i64 0)
def Un(v:Value)(h:aa)(n:Nat)(σ:St):Prop:=n=0/\σ.m.h=h/\σ.t.get 0=some v/\σ.t.get 1=some (.int .i64 0)/\σ.t.get 2=some (.int .i64 0)
def aaB(ad:Option Addr)(c:Nat)(h:aa):al PP 268 [.slice ad 0 c,.int .i64 0,.int .i64 0] h (λv h'=>h'=h/\v= .tuple #[]):=by
 refine aC Tryz.func268 agO ?_;simp only[aA,Tryz.f268];have e1:IntKind.wrap .i64 1=1:=rfl;simp -implicitDefEqProofs[e1];refine bG (Uq h) _ ⟨rfl,rfl,by simp⟩ ?_;rintro n ⟨T,⟨x,H⟩⟩ ⟨rfl,hH,g8,g2⟩;simp at hH g8 g2;subst hH;simp -implicitDefEqProofs[g8,g2]
def aiT(ad:Option Addr)(c:Nat)(h:aa):al PP 221 [.slice ad 0 c,.int .i64 0,.int .i64 0,.int .i64 0] h (λv h'=>h'=h/\v= .tuple #[]):=by
 refine aC Tryz.func221 agq ?_;simp only[aA,Tryz.f221];simp -implicitDefEqProofs;refine bG (Un (.slice ad 0 c) h) _ ⟨rfl,rfl,by simp⟩ ?_;rintro n ⟨T,⟨x,H⟩⟩ ⟨rfl,hH,g0,g1,g2⟩;simp at hH g0 g1 g2;subst hH;have e1:IntKind.wrap .i64 0=0:=rfl;simp -implicitDefEqProofs[g0,g1,g2,e1];refine cE (aaB ad c H) ?_;simp -implicitDefEqProofs[af]
def ak6(ad:Option Addr)(c:Nat)(h:aa):al PP 168 [.slice ad 0 c] h (λv h'=>h'=h/\v= .tuple #[]):=by
 refine aC Tryz.func168 afK ?_;simp only[aA,Tryz.f168];have e1:IntKind.wrap .u64 0=0:=rfl;simp -implicitDefEqProofs[e1];refine(O7 h).mono ?_;rintro v h' ⟨rfl,rfl⟩;simp -implicitDefEqProofs[af];intro _;refine cE (aiT ad c h') ?_;simp -implicitDefEqProofs[af]
def js(xs:List Int):List Int:=xs.mergeSort (λx y=>decide (x<=y))
def aaF(xs:List Int):xs.flatMap ab=xs.map (Value.int .i64):=by
 induction xs with
 |nil=>rfl
 |cons x r ih=>rw[ic,ih];rfl
def yf(xs:List Int)(j:Nat)(hj:j<xs.length):(xs.flatMap ab)[j]? =some (.int .i64 xs[j]):=by
 rw[aaF,fx,aq hj];rfl
def ak8(b c:Nat)(xs:List Int)(hn:xs≠[])(hl:xs.length<=1073741824)(h:aa)(hb:h.f b= .row true 3 (xs.flatMap ab)):
  al PP 168 [.slice (some ⟨b,0,none⟩) xs.length c] h (λr h'=>r= .tuple #[]/\h'=h.set b (.row true 3 ((js xs).flatMap ab))):=by
 rw[im];refine⟨⟨Tryz.f168,Tryz.func168,by kernel_rfl,by kernel_rfl⟩,λρ w args' hbx R V=>?_⟩;obtain⟨v0,hv0,V0⟩:=V.2 0 _ rfl;have hargs:args'=[v0]:=by
  have:=V.1;match args',hv0,this with
  |[p],h0,_=>simp at h0;rw[h0]
 subst hargs;have hlen:0<xs.length:=sf.2 hn;obtain⟨pl,cap,hk,e0⟩:∃pl cap,ρ (false,b)=some pl/\v0= .slice (some ⟨pl.B,pl.o,none⟩) xs.length cap:=by
  rcases V0.nS with⟨a',e,_⟩|⟨b',off,pl,cap,e,hk,hc,hn',rfl⟩
  .omega
  .simp only[Addr.mk.injEq,and_true]at e;obtain⟨rfl,rfl⟩:=e;exact⟨pl,cap,hk,by simp⟩
 subst e0;obtain⟨C,e',fz,c1,c2,c3,c4,c5,c6⟩:=R.row (false,b) pl true 3 (xs.flatMap ab) hk (by simp[Mem.row?,hb]);obtain rfl:=c2 rfl;have hblk:=R.bound _ _ hk;have hfl:(xs.flatMap ab).length=xs.length:=by have:=fr 1 dY xs;omega
 have hcell:∀j(hj:j<xs.length),C[pl.o+j]? =some (.int .i64 xs[j]):=by
  intro j hj;obtain⟨v',q1,q2⟩:=c6 j _ (yf xs j hj);rw[q1];congr 1;exact q2.dz rfl
 have hH:Go.Sort.Holds (Value.int .i64) w pl.B pl.o xs.toArray:=by
  intro j hj;have hj':j<xs.length:=by simpa using hj
  have e:xs.toArray[j]! =xs[j]:=by simp[hj']
  rw[e];constructor
  .unfold World.cell?;simp only[c1,Option.isSome_none];exact hcell j hj'
  .unfold World.frozen?;simp only[c1];simp
 have hcon':Calls Tryz.prog 168 ⟨[.slice (some ⟨pl.B,pl.o,none⟩) xs.length cap]⟩ w _:=Any.slices_Sort_int Tryz.ak9 pl.B pl.o cap xs w hH hblk (by omega);refine hcon'.mono ?_;rintro e w' ⟨rfl,n,os,rfl⟩;have hd:(js xs).length=xs.length:=List.length_mergeSort _;refine⟨.tuple #[],.tuple #[],_,ρ,rfl,⟨rfl,rfl⟩,hbx,?_⟩;have hfl':((js xs).flatMap ab).length=xs.length:=by have:=fr 1 dY (js xs);omega
 have hheap:(Go.Sort.grow (Go.Sort.putRow (Value.int .i64) (Go.Sort.ahead w n) pl.B pl.o (js xs).toArray) os).heap=(w.heap.modify pl.B (Go.Sort.onCells (Go.Sort.putCells (Value.int .i64) pl.o (js xs).toArray)))++os:=rfl;have hsz:(w.heap.modify pl.B (Go.Sort.onCells (Go.Sort.putCells (Value.int .i64) pl.o (js xs).toArray))).size=w.heap.size:=by simp
 obtain⟨q1,q2⟩:=rS R hk hb (cs':=(js xs).flatMap ab) (by rw[hfl',hfl]) (w':=Go.Sort.grow (Go.Sort.putRow (Value.int .i64) (Go.Sort.ahead w n) pl.B pl.o (js xs).toArray) os) rfl rfl rfl (Nat.le_add_right _ _) (by rw[hheap,Array.size_append,hsz];omega)
  (λB hB hne=>by
   rw[hheap,Array.getElem?_append_left (by rw[hsz];exact hB),Array.getElem?_modify,if_neg (Ne.symm hne)])
  (λC2 e2 fz2 hC2=>by
   rw[c1]at hC2;simp only[av,Obj.cells.injEq]at hC2;obtain⟨rfl,rfl,rfl⟩:=hC2;refine⟨Go.Sort.putCells (Value.int .i64) pl.o (js xs).toArray C,?_,by simp[Go.Sort.putCells],λi v hi=>?_⟩
   .rw[hheap,Array.getElem?_append_left (by rw[hsz];exact hblk),Array.getElem?_modify,if_pos rfl,c1];rfl
   .have hi':i<(js xs).length:=(by have:=(cP.mp hi).1;omega);rw[yf _ i hi']at hi;obtain rfl:=bU hi;have hin:pl.o+i<C.size:=(by omega);refine⟨.int .i64 (js xs)[i],?_,.int _ _⟩;unfold Go.Sort.putCells;rw[Array.getElem?_mapIdx,Array.getElem?_eq_getElem hin];simp only[fV];rw[if_pos ⟨by omega,by simp;omega⟩,Nat.add_sub_cancel_left];simp[hi'])
 exact⟨q1,q2,.gG rfl⟩
def UQ(xs:List Int):Prop:=∀(i:Nat)(a b:Int),xs[i]? =some a->xs[i+1]? =some b->a≠b
def Ua(v:Value)(m:Nat)(h:aa)(n:Nat)(σ:St):Prop:=∃i:Nat,n=m-i/\1<=i/\i<=m/\σ.m.h=h/\σ.t.get 0=some v/\σ.t.get 3=some (.int .i64 (i:Nat))
def X8(v:Value)(xs:List Int)(hl:xs.length<=1073741824)(hx:UQ xs)(h:aa)(hs:a8 h v xs):al PP 169 [v] h (λr h'=>h'=h/\r=v):=by
 refine aC Tryz.func169 afL ?_;simp only[aA,Tryz.f169];obtain⟨ad,c,rfl⟩:=hs.shape;obtain⟨m,hm⟩:=nm xs.length;rw[<-hm]at hs ⊢;by_cases h2:(m:Int)<2
 .simp -implicitDefEqProofs[h2]
 .simp -implicitDefEqProofs[h2];refine bG (Ua (.slice ad m c) m h) _ ⟨1,rfl,by omega,by omega,rfl,by simp⟩ ?_;rintro n ⟨T,⟨x,H⟩⟩ ⟨i,rfl,fC,hi,hH,g0,g3⟩;simp at hH g0 g3;subst hH;simp -implicitDefEqProofs[g0,g3];refine bR (λhc=>?_) (λhc=>?_)
  .have him:i<m:=(by omega);obtain⟨j,hj⟩:=nm (i-1);have hjm:j<m:=(by omega);have ha:xs[i]? =some xs[i]:=aq (by omega);have hb:xs[j]? =some xs[j]:=aq (by omega);obtain⟨_,b1,o1,wb1,cs1,r1,rfl,bD,hd1,hl1,_⟩:=hs.at 1 dY ha;obtain⟨_,b2,o2,wb2,cs2,r2,e1,bN,hd2,hl2,_⟩:=hs.at 1 dY hb;simp only[av,Addr.mk.injEq,and_true]at e1;obtain⟨rfl,rfl⟩:=e1;rw[bD]at bN;simp only[aW.row.injEq,true_and]at bN;obtain⟨rfl,rfl⟩:=bN;have hne:¬xs[i]=xs[j]:=by
    have:=hx j _ _ hb (by rw[show j+1=i by omega];exact ha);exact λe=>this e.symm
   rw[Nat.mul_one]at hd1 hd2 hl1 hl2;have w1:=bO (i:=i) (by omega);have w2:IntKind.wrap .i64 ((i:Int)-1)=(j:Int):=(by rw[bB (by omega)];omega);simp -implicitDefEqProofs[g0,g3,him,hjm,bD,hd1,hd2,hl1,hl2,ab,w2,hne,w1];exact⟨m-(i+1),by omega,i+1,rfl,by omega,by omega,rfl,by simp[g0]⟩
  .simp -implicitDefEqProofs[g0,g3]
def fj(v:ai):List au:=v.aD.map (λk=>v.ag.getD k.toNat default)
def ph(v:ai):Bool:=v.aD.all (λk=>decide (0<=k)&&decide (k<v.ag.length))
def jv:List Value:=[.slice none 0 0,.int .i64 0,.int .i64 0,.slice none 0 0,.slice none 0 0]
def Tq(cs:List Value)(v:ai)(ks:Value)(h:aa)(n:Nat)(σ:St):Prop:=∃(i:Nat)(kv:Value),n=v.aD.length-i/\i<=v.aD.length/\Ext h σ.m.h/\cO 99 ao h σ.m.h kv ((fj v).take i)/\
 (∀j k,j<i->v.aD[j]? =some k->0<=k/\k<v.ag.length)/\
 σ.t.get 1=some (.pointer (some ⟨1,0,some 0⟩))/\σ.t.get 2=some (.pointer (some ⟨2,0,some 0⟩))/\σ.t.get 4=some kv/\σ.t.get 11=some ks/\σ.t.get 12=some (.int .i64 (v.aD.length:Nat))/\σ.t.get 13=some (.int .i64 (i:Nat))/\
 σ.m.x.look 1=some (63,cs)/\σ.m.x.look 2=some (63,jv)
def cO.nR{α:Type}{e:TypeId}{enc:α->List Value}{h0 h:aa}{v:Value}{xs:List α}(H:cO e enc h0 h v xs){b:Nat}(cs:aW)(hb:b<h0.n):cO e enc h0 (h.set b cs) v xs:=by
 obtain⟨ad,rfl,z⟩:=H;refine⟨ad,rfl,?_⟩;rcases z with z|⟨b',z1,z2,z3,z4⟩
 .exact .inl z
 .exact .inr ⟨b',z1,by rw[fI,if_neg (by omega),z2],z3,z4⟩
def ak4(v:Value)(xs:List au)(h0 h:aa)(hl:xs.length<=1073741824)(H:cO 99 ao h0 h v xs):
  al PP 163 [v,.func (.func 164) #[] #[]] h (λr h'=>r= .tuple #[]/\∃ys,ys.Perm xs/\kV ys/\cO 99 ao h0 h' v ys/\(h'=h∨∃b n c cs,v= .slice (some ⟨b,0,none⟩) n c/\h0.n<=b/\b<h.n/\h'=h.set b cs)):=by
 by_cases hx:xs=[]
 .subst hx;obtain⟨ad,rfl,z⟩:=H;refine cE (ak3 ad 0 h) ?_;exact⟨rfl,[],List.Perm.refl _,λi j a b _ hi=>by simp at hi,⟨ad,rfl,z⟩,.inl rfl⟩
 .obtain⟨ad,rfl,z⟩:=H;rcases z with⟨_,z⟩|⟨b,rfl,z2,z3,z4⟩
  .exact absurd z hx
  .refine(ak5 b _ xs hx hl h z2).mono ?_;rintro r h' ⟨rfl,ys,hp,hs,rfl⟩;have hll:=hp.length_eq;exact⟨rfl,ys,hp,hs,⟨_,by rw[hll],.inr ⟨b,rfl,by rw[fI,if_pos rfl],z3,z4⟩⟩,.inr ⟨b,_,_,_,rfl,z3,z4,rfl⟩⟩
def ak7(v:Value)(xs:List Int)(h0 h:aa)(hl:xs.length<=1073741824)(H:cO 3 ab h0 h v xs):
  al PP 168 [v] h (λr h'=>r= .tuple #[]/\cO 3 ab h0 h' v (js xs)/\(h'=h∨∃b n c cs,v= .slice (some ⟨b,0,none⟩) n c/\h0.n<=b/\b<h.n/\h'=h.set b cs)):=by
 by_cases hx:xs=[]
 .subst hx;obtain⟨ad,rfl,z⟩:=H;refine cE (ak6 ad 0 h) ?_;have:js []=[]:=by simp[js]
  exact⟨rfl,by rw[this];exact⟨ad,rfl,z⟩,.inl rfl⟩
 .obtain⟨ad,rfl,z⟩:=H;rcases z with⟨_,z⟩|⟨b,rfl,z2,z3,z4⟩
  .exact absurd z hx
  .refine(ak8 b _ xs hx hl h z2).mono ?_;rintro r h' ⟨rfl,rfl⟩;have hll:(js xs).length=xs.length:=List.length_mergeSort _;exact⟨rfl,⟨_,by rw[hll],.inr ⟨b,rfl,by rw[fI,if_pos rfl],z3,z4⟩⟩,.inr ⟨b,_,_,_,rfl,z3,z4,rfl⟩⟩
def Ts(b7:Value->List Value)(kv:Value)(K:List Int)(h0:aa)(n:Nat)(σ:St):Prop:=∃(j:Nat)(kq:Value),n=K.length-j/\j<=K.length/\Ext h0 σ.m.h/\cO 3 ab h0 σ.m.h kq (K.take j)/\
 σ.t.get 2=some (.pointer (some ⟨2,0,some 0⟩))/\σ.t.get 7=some (.pointer (some ⟨7,0,some 0⟩))/\σ.t.get 50=some kv/\σ.t.get 51=some (.int .i64 (K.length:Nat))/\σ.t.get 52=some (.int .i64 (j:Nat))/\
 σ.m.x.look 2=some (63,jv)/\σ.m.x.look 7=some (63,b7 kq)
end Go.Proofs.Ybk.V

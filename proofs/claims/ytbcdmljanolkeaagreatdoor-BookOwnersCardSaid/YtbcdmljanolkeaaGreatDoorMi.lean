import Derived.Test.YtbcdmljanolkeaaGreatDoorMg
import Derived.Test.YtbcdmljanolkeaaGreatDoorMh
import Derived.ChangeShapes
set_option linter.unusedVariables false
set_option linter.unusedSimpArgs false
set_option linter.unusedSectionVars false
set_option linter.constructorNameAsVariable false
set_option linter.defProp false
set_option maxRecDepth 20000
namespace Go.Proofs.Ybk.K
open Go Go.Am
set_option maxHeartbeats 4000000
open V (au aR ai ao aZ ab bg aK aE cA cG a8 bL)
def tj(n:Int)(h:aa):al PP 238 [.int .i64 n] h (λr h'=>h'=h/\r= .bool (fH n)):=by
 refine aC Tryz.func238 agv ?_;simp only[aA,Tryz.f238];unfold fH aE;by_cases q: -1048576<=n
 .simp -implicitDefEqProofs[q]
 .simp -implicitDefEqProofs[q]
def Cn{d:Int}(h1: -4194304<=d)(h2:d<=4194304):0<=d*d/\d*d<=17592186044416:=by
 rcases Int.le_total 0 d with q|q
 .exact⟨Int.mul_nonneg q q,by have:=Int.mul_le_mul h2 h2 q (by omega);simpa using this⟩
 .have:=Int.mul_le_mul (show -d<=4194304 by omega) (show -d<=4194304 by omega) (by omega) (by omega);rw[Int.neg_mul_neg]at this;exact⟨by rw[<-Int.neg_mul_neg];exact Int.mul_nonneg (by omega) (by omega),this⟩
def zi(a b:Int)(hd: -4194304<=a-b/\a-b<=4194304)(h:aa):al PP 194 [.int .i64 a,.int .i64 b] h (λr h'=>h'=h/\r= .int .i64 ((a-b)*(a-b))):=by
 refine aC Tryz.func194 af0 ?_;simp only[aA,Tryz.f194];have sq:=Cn hd.1 hd.2;obtain⟨d,he⟩:=nm (a-b);have w1:IntKind.wrap .i64 (a-b)=d:=by rw[bB (by omega)];omega
 rw[<-he]at sq ⊢;have w2:IntKind.wrap .i64 (d*d)=d*d:=bB (by omega);simp -implicitDefEqProofs[w1,w2]
def Q0(a b:au)(h:aa):al PP 193 [bg a,bg b] h (λr h'=>h'=h/\r= .int .i64 (lk a b)):=by
 refine aC Tryz.func193 afZ ?_;simp only[aA,Tryz.f193];have e0:¬(fH a.x=true/\fH a.y=true/\fH b.x=true/\fH b.y=true)->lk a b=0:=by
  intro q;unfold lk;rw[if_neg];intro z;simp only[bQ]at z;exact q ⟨z.1.1.1,z.1.1.2,z.1.2,z.2⟩
 have stp:∀n,al PP 238 [.int .i64 n] h (λr h'=>h'=h/\r= .bool (fH n)):=λn=>tj n h;simp -implicitDefEqProofs[bg,ao];refine cE (stp a.x) ?_;by_cases q1:fH a.x=true;rotate_left
 .simp -implicitDefEqProofs[af,q1];intro _;rw[e0 (λz=>q1 z.1)]
 simp -implicitDefEqProofs[af,q1];intro _;refine cE (stp a.y) ?_;by_cases q2:fH a.y=true;rotate_left
 .simp -implicitDefEqProofs[af,q2];intro _;rw[e0 (λz=>q2 z.2.1)]
 simp -implicitDefEqProofs[af,q2];intro _;refine cE (stp b.x) ?_;by_cases q3:fH b.x=true;rotate_left
 .simp -implicitDefEqProofs[af,q3];intro _;rw[e0 (λz=>q3 z.2.2.1)]
 simp -implicitDefEqProofs[af,q3];intro _;refine cE (stp b.y) ?_;by_cases q4:fH b.y=true;rotate_left
 .simp -implicitDefEqProofs[af,q4];intro _;rw[e0 (λz=>q4 z.2.2.2)]
 have e:lk a b=(a.x-b.x)*(a.x-b.x)+(a.y-b.y)*(a.y-b.y):=by unfold lk;rw[if_pos (by simp[q1,q2,q3,q4])]
 have ca:=q1;have cb:=q2;have cc:=q3;have cd:=q4;simp[fH,aE]at ca cb cc cd;have s1:=zi a.x b.x (by omega) h;have s2:=zi a.y b.y (by omega) h;have b1:=Cn (d:=a.x-b.x) (by omega) (by omega);have b2:=Cn (d:=a.y-b.y) (by omega) (by omega);rw[e];obtain⟨X,hX⟩:=nm ((a.x-b.x)*(a.x-b.x));obtain⟨Y,hY⟩:=nm ((a.y-b.y)*(a.y-b.y));rw[<-hX]at s1 b1 ⊢;rw[<-hY]at s2 b2 ⊢;have w1:IntKind.wrap .i64 (X+Y)=X+Y:=bB (by omega);simp -implicitDefEqProofs[af,q4];intro _;refine cE s1 ?_;simp -implicitDefEqProofs[aF];intro _;refine cE s2 ?_;simp -implicitDefEqProofs[aF,w1]
def lH(v:ai)(a:Int):Bool:=decide (0<=a)&&decide (a<v.ag.length)
def BU(v:ai)(cs:List Value)(a:Int)(h:aa)(H:bL h v cs):al PP 239 [.agg ⟨cs⟩,.int .i64 a] h (λr h'=>h'=h/\r= .bool (lH v a)):=by
 refine aC Tryz.func239 agw ?_;simp only[aA,Tryz.f239];obtain⟨s,k,p,rfl,h1,h2,h3⟩:=H;obtain⟨ad1,c1,e1⟩:=h1.shape;obtain⟨ad2,c2,e2⟩:=h2.shape;obtain⟨ad3,c3,e3⟩:=h3.shape;subst e1;subst e2;subst e3;unfold lH;by_cases q:0<=a
 .simp -implicitDefEqProofs[q]
 .simp -implicitDefEqProofs[q]
def my(us:List Bool)(k:Int):Bool:=decide (0<=k)&&(decide (k<us.length)&&us.getD k.toNat false)
def ajR(uv:Value)(us:List Bool)(a:Int)(h:aa)(hus:tL h uv us):al PP 240 [uv,.int .i64 a] h (λr h'=>h'=h/\r= .bool (my us a)):=by
 refine aC Tryz.func240 agx ?_;simp only[aA,Tryz.f240];obtain⟨ad4,c4,rfl⟩:=hus.shape;unfold my;by_cases q1:0<=a;rotate_left
 .simp -implicitDefEqProofs[q1]
 by_cases q3:a<(us.length:Int);rotate_left
 .simp -implicitDefEqProofs[q1,q3]
 obtain⟨i,rfl⟩:∃i:Nat,a=i:=⟨a.toNat,by omega⟩;have hil:i<us.length:=by omega
 have hti:us[i]? =some us[i]:=aq hil;obtain⟨_,b,o,wb,cells,r,rfl,hb,hd,hlc,_⟩:=hus.at 1 xw hti;rw[Nat.mul_one]at hd;have hlc':o+i+1<=cells.length:=by omega
 have hgd:us.getD i false=us[i]:=by rw[bu,hti];rfl
 simp -implicitDefEqProofs[q1,q3,hil,hb,hd,hlc',eJ,hgd]
def aj0(v:ai)(M:fT v)(cs:List Value)(a:Int)(ha: -4611686018427387904<=a/\a<=4611686018427387904)(h:aa)(H:bL h v cs):al PP 241 [.agg ⟨cs⟩,.int .i64 a] h (λr h'=>h'=h/\r= .bool (kK v a)):=by
 refine aC Tryz.func241 agy ?_;simp only[aA,Tryz.f241];have hse:=λa=>BU v cs a h H;obtain⟨s,k,p,rfl,h1,h2,h3⟩:=H;obtain⟨ad1,c1,e1⟩:=h1.shape;obtain⟨ad2,c2,e2⟩:=h2.shape;obtain⟨ad3,c3,e3⟩:=h3.shape;subst e1;subst e2;subst e3;have hlen:=M.len;obtain⟨m,hm⟩:=nm v.ag.length;unfold kK;unfold lH at hse;rw[<-hm]at h1 hlen hse ⊢;have w2:IntKind.wrap .i64 (a+1)=a+1:=bB (by omega);simp -implicitDefEqProofs;refine cE (hse a) ?_;by_cases q1:0<=a;rotate_left
 .simp -implicitDefEqProofs[aF,q1]
 by_cases q2:a<(m:Int);rotate_left
 .have q2':¬a<(m:Int)-1:=by omega
  simp -implicitDefEqProofs[aF,q1,q2,q2']
 simp -implicitDefEqProofs[aF,q1,q2,w2];intro _;refine cE (hse (a+1)) ?_;by_cases q3:a+1<(m:Int);rotate_left
 .have q2':¬a<(m:Int)-1:=by omega
  simp -implicitDefEqProofs[aF,q1,q3,q2']
 have q3':a<(m:Int)-1:=by omega
 have q4:0<=a+1:=by omega
 obtain⟨i,rfl⟩:∃i:Nat,a=i:=⟨a.toNat,by omega⟩;obtain⟨j,hj⟩:=nm (i+1);have fC:j<m:=by omega
 have hi0:i<m:=by omega
 have hs0:=mM (v:=v) (k:=i) (by omega);have hs1:=mM (v:=v) (k:=j) (by omega);obtain⟨t,ht⟩:=nm (fe v i);obtain⟨u,hu⟩:=nm (fe v j);rw[<-ht]at hs0;rw[<-hu]at hs1;have b0:=M.ef hs0;have b1:=M.ef hs1;obtain⟨_,b,o,wb,cells,r,rfl,hb,hd,hlc,_⟩:=h1.at 4 V.fD hs0;obtain⟨_,b',o',wb',cells',r',e,hb',hd',hlc',_⟩:=h1.at 4 V.fD hs1;simp only[av,Addr.mk.injEq,and_true]at e;obtain⟨rfl,rfl⟩:=e;rw[hb]at hb';simp only[aW.row.injEq,true_and]at hb';obtain⟨rfl,rfl⟩:=hb';have w2:IntKind.wrap .i64 ((i:Int)+1)=(j:Int):=by rw[bB (by omega)];omega
 have w3:IntKind.wrap .i64 (u.x-t.x)=u.x-t.x:=bB (by omega);have hd0:cells.drop (o+i*4)= .int .i64 t.row::([.int .i64 t.x,.int .i64 t.y,.int .i64 t.kind]++r):=hd;have hd1:cells.drop (o+i*4+1)= .int .i64 t.x::([.int .i64 t.y,.int .i64 t.kind]++r):=by rw[<-eh,hd];rfl
 have hd2:cells.drop (o+j*4)= .int .i64 u.row::([.int .i64 u.x,.int .i64 u.y,.int .i64 u.kind]++r'):=hd';have hd3:cells.drop (o+j*4+1)= .int .i64 u.x::([.int .i64 u.y,.int .i64 u.kind]++r'):=by rw[<-eh,hd'];rfl
 have l0:o+i*4+1<=cells.length:=by omega
 have l1:o+i*4+1+1<=cells.length:=by omega
 have l2:o+j*4+1<=cells.length:=by omega
 have l3:o+j*4+1+1<=cells.length:=by omega
 have l1':o+i*4+2<=cells.length:=by omega
 have l3':o+j*4+2<=cells.length:=by omega
 have htn:(i:Int).toNat=i:=by omega
 have ij:((i:Int)+1)=(j:Int):=by omega
 have q3b:(j:Int)<(m:Int):=by omega
 have j0:(0:Int)<=j:=by omega
 have i0:(0:Int)<=i:=by omega
 rw[htn,<-hj,<-ht,<-hu];rw[ij];by_cases q5:t.row=u.row
 .have q5':=q5.symm;simp -implicitDefEqProofs[aF,j0,i0,hi0,fC,q3',q3b,w2,w3,hb,hd0,hd1,hd2,hd3,l0,l1,l2,l3,l1',l3',q5]
 .have q5':¬u.row=t.row:=λz=>q5 z.symm;simp -implicitDefEqProofs[aF,j0,i0,hi0,fC,q3',q3b,w2,w3,hb,hd0,hd1,hd2,hd3,l0,l1,l2,l3,l1',l3',q5,q5']
def mL(v:ai)(us:List Bool)(a:Int):Nat->Nat->Nat
 |0,n=>n
 |m+1,n=>if kK v (a+n-1)&&my us (a+n)then mL v us a m (n+1)else n
def uZ(v:ai)(us:List Bool)(a:Int):Nat:=if lH v a&&my us a then mL v us a v.ag.length 1 else 0
def Bf{v:ai}{a:Int}(h:kK v a=true):0<=a/\a+1<v.ag.length:=by
 unfold kK at h;simp only[bQ,de]at h;omega
def ajW(v:ai)(us:List Bool)(a:Int):∀m n,n<=mL v us a m n:=by
 intro m;induction m with
 |zero=>intro n;exact aX _
 |succ m ih=>
  intro n;rw[mL];split
  .exact eY (by omega) (ih (n+1))
  .exact aX _
def abz{v:ai}{us:List Bool}{a:Int}:∀(m n f:Nat),1<=n->0<=a->v.ag.length+1<=f+n->jm v us a m n=min (n+m) (mL v us a f n):=by
 intro m;induction m with
 |zero=>intro n f h1 _ _;rw[jm];have:=ajW v us a f n;omega
 |succ m ih=>
  intro n f h1 h0 hf;rw[jm];have hn:¬n=0:=by omega
  have hc:(nw v us (a+n)&&(decide (n=0) || kK v (a+n-1)))=(kK v (a+n-1)&&my us (a+n)):=by
   by_cases q:kK v (a+n-1)=true
   .have:=Bf q;have e1:decide (0<=a+(n:Int))=true:=(by rw[de];omega);have e2:decide (a+(n:Int)<v.ag.length)=true:=(by rw[de];omega);rw[q];unfold nw my;rw[e1,e2];simp
   .rw[mq]at q;rw[q];simp[hn]
  rw[hc];by_cases q:(kK v (a+n-1)&&my us (a+n))=true
  .have hin:=Bf (Bool.and_eq_true_iff.1 q).1;obtain⟨f',rfl⟩:∃f',f=f'+1:=⟨f-1,by omega⟩;rw[if_pos q,mL,if_pos q,ih (n+1) f' (by omega) h0 (by omega)];congr 1;omega
  .rw[if_neg q];have:mL v us a f n=n:=by
    cases f with
    |zero=>rfl
    |succ f=>rw[mL,if_neg q]
   rw[this];omega
def abB(v:ai)(us:List Bool)(a:Int)(m:Nat):jm v us a m 0=min m (uZ v us a):=by
 cases m with
 |zero=>rw[jm];omega
 |succ m=>
  rw[jm];have e:(nw v us (a+(0:Nat))&&(decide ((0:Nat)=0) || kK v (a+(0:Nat)-1)))=(lH v a&&my us a):=by
   unfold nw lH my;simp only[Int.natCast_zero,Int.add_zero,decide_true,Bool.true_or,Bool.and_true];by_cases q1:0<=a
   .by_cases q2:a<(v.ag.length:Int)
    .simp[q1,q2]
    .simp[q1,q2]
   .simp[q1]
  unfold uZ;rw[e];by_cases q:(lH v a&&my us a)=true
  .rw[if_pos q,if_pos q];unfold lH at q;simp only[bQ,de]at q;rw[abz m 1 v.ag.length (aX _) q.1.1 (aX _)];congr 1;omega
  .rw[if_neg q,if_neg q];omega
def TI(h:aa)(v:ai)(cs:List Value)(uv:Value)(us:List Bool)(a:Int)(n:Nat)(σ:St):Prop:=∃i:Nat,n=v.ag.length-i/\1<=i/\i<=v.ag.length/\σ.m.h=h/\σ.t.get 1=some uv/\σ.t.get 2=some (.int .i64 a)/\σ.t.get 3=some (.pointer (some ⟨3,0,some 0⟩))/\σ.t.get 7=some (.int .i64 (i:Nat))/\σ.m.x.look 3=some (63,cs)/\
 mL v us a v.ag.length 1=mL v us a (v.ag.length+1-i) i
def ajX(v:ai)(Mv:fT v)(cs:List Value)(uv:Value)(us:List Bool)(a:Int)(ha: -4611686018427387904<=a/\a<=4611686018427387904)(h:aa)(H:bL h v cs)(hus:tL h uv us):
  al PP 195 [.agg ⟨cs⟩,uv,.int .i64 a] h (λr h'=>h'=h/\r= .int .i64 ((uZ v us a:Nat):Int)):=by
 refine aC Tryz.func195 af1 ?_;simp only[aA,Tryz.f195];have hse:=BU v cs a h H;have his:=λa=>ajR uv us a h hus;have hnext:=λa ha=>aj0 v Mv cs a ha h H;have hlen:=Mv.len;obtain⟨s,k,p,rfl,h1,h2,h3⟩:=H;obtain⟨ad1,c1,e1⟩:=h1.shape;obtain⟨ad2,c2,e2⟩:=h2.shape;obtain⟨ad3,c3,e3⟩:=h3.shape;subst e1;subst e2;subst e3;obtain⟨ad4,c4,rfl⟩:=hus.shape;obtain⟨C,hC⟩:=nm [Value.slice ad1 v.ag.length c1,.int .i64 v.aV,.int .i64 v.bA,.slice ad2 v.aD.length c2,.slice ad3 v.aG.length c3];have hCl:C.length=5:=by rw[hC];rfl
 have hCt:C.take 5=C:=b9 (by omega);rw[<-hC]at hse hnext ⊢;simp -implicitDefEqProofs[hCl,hCt];refine cE hse ?_;obtain⟨L,hL⟩:=nm (uZ v us a);rw[<-hL];unfold uZ at hL;by_cases q1:lH v a=true;rotate_left
 .rw[if_neg (by simp[q1])]at hL;simp -implicitDefEqProofs[af,q1,hL]
 simp -implicitDefEqProofs[af,q1];intro _;refine cE (his a) ?_;by_cases q2:my us a=true;rotate_left
 .rw[if_neg (by simp[q2])]at hL;simp -implicitDefEqProofs[af,q2,hL]
 rw[if_pos (by simp[q1,q2])]at hL;simp -implicitDefEqProofs[af,q2];intro _;have hin0:=q1;unfold lH at hin0;simp only[bQ,de]at hin0;refine bG (TI h v C (.slice ad4 us.length c4) us a) _ ⟨1,rfl,by omega,by omega,by simp[hC]⟩ ?_;rintro n ⟨T,⟨x,G⟩⟩ ⟨i,rfl,fC,hil,hG,g1,g2,g3,g7,x3,hlr⟩;simp at hG g1 g2 g3 g7 x3;subst hG;have w1:IntKind.wrap .i64 (a+(i:Int))=a+i:=bB (by omega);have w2:IntKind.wrap .i64 (a+(i:Int)-1)=a+i-1:=bB (by omega);have w3:=bO (i:=i) (by omega);have hst:mL v us a (v.ag.length+1-i) i=if kK v (a+i-1)&&my us (a+i)then mL v us a (v.ag.length+1-(i+1)) (i+1)else i:=by
  rw[show v.ag.length+1-i=(v.ag.length+1-(i+1))+1 by omega,mL]
 simp -implicitDefEqProofs[g1,g2,g3,g7,x3,w1,w2,hCl,hCt];refine cE (hnext (a+i-1) (by omega)) ?_;by_cases q3:kK v (a+i-1)=true;rotate_left
 .rw[if_neg (by simp[q3])]at hst;simp -implicitDefEqProofs[af,q3,g7];intro _;rw[hL,hlr,hst]
 have hin:=Bf q3;simp -implicitDefEqProofs[af,q3,g1,g2,g3,g7,w1];intro _;refine cE (his (a+i)) ?_;by_cases q4:my us (a+i)=true;rotate_left
 .rw[if_neg (by simp[q4])]at hst;simp -implicitDefEqProofs[af,q4,g7];intro _;rw[hL,hlr,hst]
 rw[if_pos (by simp[q3,q4])]at hst;unfold lH at q1;simp only[bQ,de]at q1;simp -implicitDefEqProofs[af,q4,g1,g2,g3,g7,w3,x3];intro _;exact⟨v.ag.length-(i+1),by omega,i+1,rfl,by omega,by omega,rfl,by simp[g1],by simp[g2],by simp[g3],by simp,by simp[x3],by rw[hlr,hst]⟩
def ajx(v:ai)(M:fT v)(cs:List Value)(i j:Nat)(hi:i<v.ag.length)(hj:j<v.ag.length)(h:aa)(H:bL h v cs):al PP 197 [.agg ⟨cs⟩,.int .i64 (i:Nat),.int .i64 (j:Nat)] h (λr h'=>h'=h/\r= .bool (decide (i≠j)&&kg (fe v i) (fe v j) v.bA)):=by
 refine aC Tryz.func197 af3 ?_;simp only[aA,Tryz.f197];have hse:=λa=>BU v cs a h H;have hrad:=M.bA;obtain⟨s,k,p,rfl,h1,h2,h3⟩:=H;obtain⟨ad1,c1,e1⟩:=h1.shape;obtain⟨ad2,c2,e2⟩:=h2.shape;obtain⟨ad3,c3,e3⟩:=h3.shape;subst e1;subst e2;subst e3;have i1:lH v (i:Nat)=true:=by unfold lH;simp;omega
 have j1:lH v (j:Nat)=true:=by unfold lH;simp;omega
 have hsi:=hse (i:Nat);have hsj:=hse (j:Nat);rw[i1]at hsi;rw[j1]at hsj;simp -implicitDefEqProofs;refine cE hsi ?_;simp -implicitDefEqProofs[aF];intro _;refine cE hsj ?_;by_cases q:i=j
 .have q':(i:Int)=j:=by omega
  simp -implicitDefEqProofs[aF,q]
 have q':¬(i:Int)=j:=by omega
 have hs0:=mM hi;have hs1:=mM hj;obtain⟨t,ht⟩:=nm (fe v i);obtain⟨u,hu⟩:=nm (fe v j);rw[<-ht]at hs0 ⊢;rw[<-hu]at hs1 ⊢;obtain⟨_,b,o,wb,cells,r,rfl,hb,hd,hlc,_⟩:=h1.at 4 V.fD hs0;obtain⟨_,b',o',wb',cells',r',e,hb',hd',hlc',_⟩:=h1.at 4 V.fD hs1;simp only[av,Addr.mk.injEq,and_true]at e;obtain⟨rfl,rfl⟩:=e;rw[hb]at hb';simp only[aW.row.injEq,true_and]at hb';obtain⟨rfl,rfl⟩:=hb';have k0:(cells.drop (o+i*4)).take 4=ao t:=by rw[hd];rfl
 have k1:(cells.drop (o+j*4)).take 4=ao u:=by rw[hd'];rfl
 have hf:=Q0 t u h;have hsq:=zi v.bA 0 (by omega) h;rw[Int.sub_zero]at hsq;simp only[bg,ao]at hf k0 k1;simp -implicitDefEqProofs[aF,q,q',hi,hj,hb,k0,k1,hlc,hlc'];intro _;refine cE hf ?_;simp -implicitDefEqProofs[aF];intro _;refine cE hsq ?_;simp -implicitDefEqProofs[aF,kg]
def nA(v:ai)(s i:Nat):List Int:=((v.aD.take i).filter λx=>decide (x=(s:Int))).map λ_=>(-1:Int)
def lC(v:ai)(s i:Nat):List Int:=nA v s v.aD.length++((List.range i).filter (nc v s)).map λk:Nat=>(k:Int)
def aae{v:ai}{s i:Nat}{x:Int}(h:v.aD[i]? =some x):nA v s (i+1)=if x=(s:Int)then nA v s i++[-1]else nA v s i:=by
 unfold nA;rw[fL,h,Option.toList_some,mo,kX];by_cases q:x=(s:Int)
 .simp[q]
 .simp[q]
def WX(v:ai)(s i:Nat):lC v s (i+1)=if nc v s i=true then lC v s i++[(i:Int)]else lC v s i:=by
 unfold lC;rw[nX,mo,kX,<-eG];by_cases q:nc v s i=true
 .simp[q]
 .simp[q]
def KK(v:ai)(s i:Nat):(nA v s i).length<=i:=by
 unfold nA;rw[cf];have:=List.length_filter_le (λx=>decide (x=(s:Int))) (v.aD.take i);rw[dh]at this;omega
def WW(v:ai)(s i:Nat):(lC v s i).length<=v.aD.length+i:=by
 unfold lC;rw[bH,cf];have:=List.length_filter_le (nc v s) (List.range i);rw[pP]at this;have:=KK v s v.aD.length;omega
def WV(v:ai)(s:Nat):decide ((lC v s v.aG.length).length=0)=(sn v s).isEmpty:=by
 rw[Dv];unfold lC lD;have e:(nA v s v.aD.length=[])↔(ra v s=[]):=by
  unfold nA ra;rw[jZ];simp only[List.map_eq_nil_iff,List.filter_eq_nil_iff,de];by_cases q:v.aD.contains (s:Int)=true
  .rw[if_pos q];rw[List.contains_iff_mem]at q;constructor
   .intro z;exact absurd rfl (z _ q)
   .intro z;cases z
  .rw[if_neg q];rw[List.contains_iff_mem]at q;exact⟨λ_=>rfl,λ_ x hx z=>q (z ▸ hx)⟩
 rw[Bool.eq_iff_iff,de,mY,List.append_eq_nil_iff,List.isEmpty_iff,List.append_eq_nil_iff,e]
def Tt(h:aa)(v:ai)(cs:List Value)(s m n:Nat)(σ:St):Prop:=∃(i:Nat)(o:Option Nat)(w:Value),n=m-i/\i<=m/\Ext h σ.m.h/\Ow 3 ab h σ.m.h o (nA v s i) w/\
 σ.t.get 1=some (.int .i64 (s:Nat))/\σ.t.get 2=some (.pointer (some ⟨2,0,some 0⟩))/\σ.t.get 5=some w/\σ.t.get 6=some (.int .i64 (i:Nat))/\σ.m.x.look 2=some (63,cs)
def Tu(h:aa)(v:ai)(cs:List Value)(s m n:Nat)(σ:St):Prop:=∃(i:Nat)(o:Option Nat)(w:Value),n=m-i/\i<=m/\Ext h σ.m.h/\Ow 3 ab h σ.m.h o (lC v s i) w/\
 σ.t.get 1=some (.int .i64 (s:Nat))/\σ.t.get 2=some (.pointer (some ⟨2,0,some 0⟩))/\σ.t.get 5=some w/\σ.t.get 7=some (.int .i64 (i:Nat))/\σ.m.x.look 2=some (63,cs)
def aaR(v:ai)(M:fT v)(cs:List Value)(s:Nat)(hs:s<v.ag.length)(h:aa)(H:eC h v cs):
  al PP 141 [.agg ⟨cs⟩,.int .i64 (s:Nat)] h (λr h'=>Ext h h'/\∃ad c,r= .slice ad (lC v s v.aG.length).length c):=by
 refine aC Tryz.func141 afk ?_;simp only[aA,Tryz.f141];have hkl:=M.vZ;have hpl:=M.wH;obtain⟨sv,k,pp,rfl,h1,h2,h3⟩:=H;obtain⟨ad1,c1,e1⟩:=h1.shape;obtain⟨ad2,c2,e2⟩:=h2.shape;obtain⟨ad3,c3,e3⟩:=h3.shape;subst e1;subst e2;subst e3;obtain⟨C,hC⟩:=nm [Value.slice ad1 v.ag.length c1,.int .i64 v.aV,.int .i64 v.bA,.slice ad2 v.aD.length c2,.slice ad3 v.aG.length c3];have hCl:C.length=5:=by rw[hC];rfl
 have hC0:C.take 1=[.slice ad1 v.ag.length c1]:=by rw[hC];rfl
 have hC3:C.drop 3= .slice ad2 v.aD.length c2::C.drop 4:=by rw[hC];rfl
 have hC4:C.drop 4=[.slice ad3 v.aG.length c3]:=by rw[hC];rfl
 rw[<-hC];have hr1:List.range 1=[0]:=rfl;simp -implicitDefEqProofs[hCl];refine bG (Tt h v C s v.aD.length) _ ⟨0,none,_,rfl,by omega,Ext.bJ h,Ow.nil,by simp[hC]⟩ ?_;rintro n ⟨T,⟨x,G⟩⟩ ⟨i,o,w,rfl,hi,E,W,g1,g2,g5,g6,x2⟩;simp at E W g1 g2 g5 g6 x2;have hwn:cn w=true:=by rw[W.1];rfl
 simp only[cn,iM,Option.isNone_iff_eq_none]at hwn;simp -implicitDefEqProofs[g1,g2,g5,g6,x2,hCl,hC3,hwn];refine bR (λhc=>?_) (λhc=>?_)
 .have hik:i<v.aD.length:=by omega
  have w1:=bO (i:=i) (by omega);have hki:v.aD[i]? =some v.aD[i]:=aq hik;obtain⟨z,hz⟩:=nm v.aD[i];rw[<-hz]at hki;obtain⟨_,b,o1,cells,r,rfl,hb,hd,hlc,_⟩:=(h2.ext E).at 1 V.dY hki;rw[Nat.mul_one]at hd;have hlc':o1+i+1<=cells.length:=by omega
  have hsu:=aae (s:=s) hki;have hll:=KK v s i;simp -implicitDefEqProofs[g1,g2,g5,g6,x2,hCl,hC3,hwn,hik,hb,hd,hlc',ab];by_cases q1:z=(s:Int)
  .rw[if_pos q1]at hsu;obtain⟨acc,hacc⟩:=nm (nA v s i);rw[<-hacc]at W hsu hll;obtain⟨rfl,_⟩:=id W;have hA:=iV ni W (-1) (by omega);simp only[ab]at hA;simp -implicitDefEqProofs[q1,g1,g2,g5,g6,x2,w1,aM,hr1,hA];refine⟨v.aD.length-(i+1),by omega,i+1,some (G.n+1),.slice (some ⟨G.n+1,0,none⟩) (acc.length+1) (acc.length+1),rfl,by omega,iZ E W _ _,?_,by simp[x2]⟩;rw[hsu];exact Ow.one W E.n _ (-1:Int) rfl
  .rw[if_neg q1]at hsu;simp -implicitDefEqProofs[q1,g1,g2,g5,g6,x2,w1,hwn];exact⟨v.aD.length-(i+1),by omega,i+1,o,w,rfl,by omega,E,by rw[hsu];exact W,by simp[hwn,x2]⟩
 .have e:i=v.aD.length:=by omega
  subst e;have W0:Ow 3 ab h G o (lC v s 0) w:=by
   have:lC v s 0=nA v s v.aD.length:=(by unfold lC;simp);rw[this];exact W
  clear W g6;simp -implicitDefEqProofs[g1,g2,g5,x2,hwn];refine bG (Tu h v C s v.aG.length) _ ⟨0,o,w,rfl,by omega,E,W0,by simp[hwn,x2]⟩ ?_;clear g1 g2 g5 x2 E W0 hwn hi;rintro n ⟨T,⟨x,G⟩⟩ ⟨i,o,w,rfl,hi,E,W,g1,g2,g5,g7,x2⟩;simp at E W g1 g2 g5 g7 x2;have hwn:cn w=true:=by rw[W.1];rfl
  simp only[cn,iM,Option.isNone_iff_eq_none]at hwn;simp -implicitDefEqProofs[g1,g2,g5,g7,x2,hwn,hCl,hC4];refine bR (λhc=>?_) (λhc=>?_)
  .have hip:i<v.aG.length:=(by omega);have w1:=bO (i:=i) (by omega);have hpi:v.aG[i]? =some v.aG[i]:=aq hip;obtain⟨p,hp⟩:=nm v.aG[i];rw[<-hp]at hpi;have bp:=M.gy hpi;obtain⟨_,b,o1,cells,r,rfl,hb,hd,hlc,_⟩:=(h3.ext E).at 3 V.pE hpi;have k0:(cells.drop (o1+i*3)).take 3=aZ p:=(by rw[hd];rfl);have hss:=mM hs;obtain⟨t,ht⟩:=nm (fe v s);rw[<-ht]at hss;obtain⟨_,b',o2,cells',r',rfl,hb',hd',hlc',_⟩:=(h1.ext E).at 4 V.fD hss;have k1:(cells'.drop (o2+s*4)).take 4=ao t:=(by rw[hd'];rfl);simp only[ao,aZ]at k0 k1;have hf:=Q0 t ⟨0,p.x,p.y,0⟩ G;have hsq:=zi p.r 0 (by omega) G;rw[Int.sub_zero]at hsq;simp only[bg,ao]at hf;have hcP:nc v s i=decide (lk t ⟨0,p.x,p.y,0⟩ < p.r*p.r):=(by unfold nc;rw[hpi,ht];rfl);have hsu:=WX v s i;rw[hcP]at hsu;have hll:=WW v s i;simp -implicitDefEqProofs[g1,g2,g5,g7,x2,hwn,hip,hb,k0,hlc,hC0,hC4,hCl,hs,hb',k1,hlc'];refine cE hf ?_;simp -implicitDefEqProofs[aF];intro _;refine cE hsq ?_;by_cases q1:lk t ⟨0,p.x,p.y,0⟩ < p.r*p.r
   .rw[if_pos (by simpa using q1)]at hsu;obtain⟨acc,hacc⟩:=nm (lC v s i);rw[<-hacc]at W hsu hll;obtain⟨rfl,_⟩:=id W;have hA:=iV ni W (i:Int) (by omega);simp only[ab]at hA;simp -implicitDefEqProofs[aF,q1,g1,g2,g5,g7,x2,w1,aM,hr1,hA];intro _;refine⟨v.aG.length-(i+1),by omega,i+1,some (G.n+1),.slice (some ⟨G.n+1,0,none⟩) (acc.length+1) (acc.length+1),rfl,by omega,iZ E W _ _,?_,by simp[x2]⟩;rw[hsu];exact Ow.one W E.n _ (i:Int) rfl
   .rw[if_neg (by simpa using q1)]at hsu;simp -implicitDefEqProofs[aF,q1,g1,g2,g5,g7,x2,w1,hwn];intro _;exact⟨v.aG.length-(i+1),by omega,i+1,o,w,rfl,by omega,E,by rw[hsu];exact W,by simp[hwn,x2]⟩
  .have e:i=v.aG.length:=(by omega);subst e;obtain⟨rfl,_⟩:=id W;simp -implicitDefEqProofs[g1,g2,g5,g7,x2];exact E
def Th(h:aa)(v:ai)(cs:List Value)(m n:Nat)(σ:St):Prop:=∃i:Nat,n=m-i/\i<=m/\Ext h σ.m.h/\σ.m.h.f h.n= .row true 4 ((j9 v m i).map Value.bool)/\h.n<σ.m.h.n/\
 σ.t.get 1=some (.pointer (some ⟨1,0,some 0⟩))/\σ.t.get 3=some (.slice (some ⟨h.n,0,none⟩) m m)/\σ.t.get 4=some (.int .i64 (i:Nat))/\σ.m.x.look 1=some (63,cs)
def akp(v:ai)(M:aK v=true)(cs:List Value)(h:aa)(H:eC h v cs):
  al PP 100 [.agg ⟨cs⟩] h (λr h'=>Ext h h'/\aL 4 eJ h' r (bK v)):=by
 refine al.jM (post:=λv' h'=>Ext h h'/\cO 4 eJ h h' v' (bK v)) ?_ (λv h' ⟨E,W⟩=>by
  obtain⟨h'',w,E',S⟩:=W.dG E;exact⟨h'',w,E',S⟩)
 refine aC Tryz.func100 aeG ?_;simp only[aA,Tryz.f100];have F:=jF M;have hlen:=F.len;have hm:=V.BR v cs F.small h H.dv;have hby:=λs hs h' E=>aaR v F cs s hs h' (H.ext E);obtain⟨sv,k,pp,rfl,h1,h2,h3⟩:=H;obtain⟨ad1,c1,e1⟩:=h1.shape;obtain⟨ad2,c2,e2⟩:=h2.shape;obtain⟨ad3,c3,e3⟩:=h3.shape;subst e1;subst e2;subst e3;obtain⟨C,hC⟩:=nm [Value.slice ad1 v.ag.length c1,.int .i64 v.aV,.int .i64 v.bA,.slice ad2 v.aD.length c2,.slice ad3 v.aG.length c3];have hCl:C.length=5:=by rw[hC];rfl
 have hCt:C.take 5=C:=b9 (by omega);have hC0:C.take 1=[.slice ad1 v.ag.length c1]:=by rw[hC];rfl
 rw[<-hC]at hm hby ⊢;simp -implicitDefEqProofs[hCl,hCt];refine cE hm ?_;have hz:=xc (.bool false) v.ag.length;have hmx:v.ag.length<=140737488355328:=by omega
 have h00:¬(v.ag.length:Int)<0:=by omega
 have hu0:List.replicate v.ag.length (Value.bool false)=(j9 v v.ag.length 0).map Value.bool:=by
  unfold j9;apply List.ext_getElem
  .simp
  .intro j h1 h2;simp
 simp -implicitDefEqProofs[af,M,hCl,hC0,oF,dH,hz,hmx,h00];intro _;rw[hu0];refine bG (Th h v C v.ag.length) _ ⟨0,rfl,by omega,Ext.new _ _,by simp[hC]⟩ ?_;rintro n ⟨T,⟨x,G⟩⟩ ⟨i,rfl,hi,E,hrow,hn,g1,g3,g4,x1⟩;simp at E hrow hn g1 g3 g4 x1;simp -implicitDefEqProofs[g1,g3,g4,x1];refine bR (λhc=>?_) (λhc=>?_)
 .have him:i<v.ag.length:=by omega
  have w1:=bO (i:=i) (by omega);simp -implicitDefEqProofs[g1,g3,g4,x1,hCl,hCt];refine(hby i him G E).mono ?_;rintro r h' ⟨E2,ad,cp,rfl⟩;have hem:=WV v i;obtain⟨L,hL⟩:=nm (lC v i v.aG.length).length;rw[<-hL]at hem ⊢;have hrow2:h'.f h.n= .row true 4 ((j9 v v.ag.length i).map Value.bool):=by rw[E2.f _ hn,hrow]
  obtain⟨cells,hcells⟩:=nm ((j9 v v.ag.length i).map Value.bool);rw[<-hcells]at hrow2;have hcl:cells.length=v.ag.length:=by rw[hcells,cf,qJ]
  have hil:i+1<=cells.length:=by omega
  have hts:=mO Value.bool (j9 v v.ag.length i) i (decide (L=0)) (by rw[qJ];exact him);rw[hem,Sb v _ i him,<-hcells,<-hem]at hts;simp -implicitDefEqProofs[af,g1,g3,g4,x1,w1,him,hrow2,hil];intro _;refine⟨v.ag.length-(i+1),by omega,i+1,rfl,by omega,(E.trans E2).dp (aX _) _,?_,cV hn E2.n,by simp[x1]⟩;rw[<-hts];by_cases q:L=0
  .subst q;simp
  .simp[q]
 .have e:i=v.ag.length:=by omega
  subst e;rw[tH M,Pv]at hrow;have hul:(bK v).length=v.ag.length:=by rw[<-tH M,qJ]
  simp -implicitDefEqProofs[g1,g3,g4,x1];exact⟨E,_,by rw[hul],.inr ⟨_,rfl,hrow,aX _,hn⟩⟩
def tP(h:aa)(a:Nat)(v:ai):Prop:=∃w vc uv,h.f a= .row w 201 (vc++[uv])/\a<h.n/\eC h v vc/\aL 4 eJ h uv (bK v)
def acm(v:ai)(M:aK v=true)(cs:List Value)(h:aa)(H:eC h v cs):
  al PP 102 [.agg ⟨cs⟩] h (λr h'=>Ext h h'/\∃a,r= .pointer (some ⟨a,0,none⟩)/\tP h' a v):=by
 refine aC Tryz.func102 aeH ?_;simp only[aA,Tryz.f102];have F:=jF M;have hm:=V.BR v cs F.small h H.dv;have hu:=akp v M cs h H;have H0:=H;obtain⟨sv,k,pp,rfl,h1,h2,h3⟩:=H;obtain⟨ad1,c1,e1⟩:=h1.shape;obtain⟨ad2,c2,e2⟩:=h2.shape;obtain⟨ad3,c3,e3⟩:=h3.shape;subst e1;subst e2;subst e3;simp -implicitDefEqProofs;refine cE hm ?_;simp -implicitDefEqProofs[af,M];intro _;refine hu.mono ?_;rintro r G ⟨E,S⟩;have S0:=S;obtain⟨ad4,c4,rfl⟩:=S.shape;simp -implicitDefEqProofs[aF];intro _;exact⟨E.bI _,true,[.slice ad1 v.ag.length c1,.int .i64 v.aV,.int .i64 v.bA,.slice ad2 v.aD.length c2,.slice ad3 v.aG.length c3],.slice ad4 (bK v).length c4,by simp,by simp,H0.ext (E.bI _),S0.ext (Ext.new _ _)⟩
def Rc(p:aQ)(h:aa):al PP 92 [du p] h (λv h'=>h'=h/\v= .bool (dK p)):=by
 refine aC Tryz.func92 ahW ?_;simp only[aA,Tryz.f92];unfold dK;by_cases e1:1<=p.size;rotate_left
 .simp -implicitDefEqProofs[du,ah,e1]
 by_cases e2:p.size<=8;rotate_left
 .simp -implicitDefEqProofs[du,ah,e1,e2]
 by_cases e3:0<=p.cS;rotate_left
 .simp -implicitDefEqProofs[du,ah,e1,e2,e3]
 by_cases e4:p.cS<=2;rotate_left
 .simp -implicitDefEqProofs[du,ah,e1,e2,e3,e4]
 have w1:IntKind.wrap .i64 (p.size-p.cS)=p.size-p.cS:=bB (by omega);by_cases e5:2*p.cS<=p.size
 .have e6:p.cS<=p.size-p.cS:=by omega
  simp -implicitDefEqProofs[du,ah,e1,e2,e3,e4,e5,e6,w1]
 .have e6:¬p.cS<=p.size-p.cS:=by omega
  simp -implicitDefEqProofs[du,ah,e1,e2,e3,e4,e5,e6,w1]
def l6(v:ai)(p:aQ)(f:Int):Bool:=(cY v (bK v) p f).isSome
def AL{h:aa}{a:Nat}{v:ai}(H:tP h a v):∃w s n c g r k nk ck p np cp uv,h.f a= .row w 201 [.slice s n c,.int .i64 g,.int .i64 r,.slice k nk ck,.slice p np cp,uv]/\n=v.ag.length/\cA h (.slice s n c) v.ag/\bL h v [.slice s n c,.int .i64 g,.int .i64 r,.slice k nk ck,.slice p np cp]/\(∃x y,uv= .slice x (bK v).length y)/\tL h uv (bK v):=by
 obtain⟨w,vc,uv,h1,h2,h3,h4⟩:=H;have h3':=h3.dv;obtain⟨s,k,p,rfl,z1,z2,z3⟩:=h3;obtain⟨ad1,c1,rfl⟩:=z1.shape;obtain⟨ad2,c2,rfl⟩:=z2.shape;obtain⟨ad3,c3,rfl⟩:=z3.shape;obtain⟨ad4,c4,rfl⟩:=h4.shape;exact⟨w,ad1,_,c1,_,_,ad2,_,c2,ad3,_,c3,_,h1,rfl,z1.sl,h3',⟨_,_,rfl⟩,h4.sl⟩
def Q2(v:ai)(a f n k:Nat)(hn:1<=n)(hin:f+n<=v.ag.length)(x:Int)(hx:x=(k:Int)-1∨x=(k:Int)+1)(h1:f<=k)(h2:k<f+n)(hl:v.ag.length<=4096)(h:aa)(H:tP h a v):
  al PP 196 [.pointer (some ⟨a,0,none⟩),.int .i64 x,.int .i64 (f:Nat),.int .i64 ((f:Int)+n-1)] h (λr h'=>h'=h/\∃z,r= .int .i64 z/\(z=2↔jc v (ey f n) (x-f)=2)):=by
 refine aC Tryz.func196 af2 ?_;simp only[aA,Tryz.f196];obtain⟨w,s,ns,c,g,r,kk,nk,ck,p,np,cp,uv,hr,rfl,hs,_,⟨u1,u2,rfl⟩,_⟩:=AL H;unfold jc;rw[qo];by_cases q1:x<f
 .have q1':x-f<0∨(n:Int)<=x-f:=.inl (by omega);simp -implicitDefEqProofs[q1];rw[if_pos q1'];simp
 by_cases q2:(f:Int)+n-1<x
 .have q1':x-f<0∨(n:Int)<=x-f:=.inr (by omega);simp -implicitDefEqProofs[q1,q2];rw[if_pos q1'];simp
 rw[if_neg (by omega)];obtain⟨j,rfl⟩:∃j:Nat,x=j:=⟨x.toNat,by omega⟩;have hj:j<v.ag.length:=by omega
 have hsj:=mM hj;obtain⟨t,ht⟩:=nm (fe v j);rw[<-ht]at hsj;obtain⟨_,b',o',wb',cells',r',rfl,hb',hd',hlc2,_⟩:=hs.at 4 V.fD hsj;have hd3:cells'.drop (o'+j*4+3)= .int .i64 t.kind::r':=by rw[<-eh,hd'];rfl
 have l3:o'+j*4+3+1<=cells'.length:=by omega
 have l3':o'+j*4+4<=cells'.length:=by omega
 have e:(ey (f:Int) n).getD ((j:Int)-f).toNat 0=(j:Int):=by
  unfold ey;have hlt:((j:Int)-f).toNat<n:=by omega
  rw[bu,fx,List.getElem?_range hlt];simp;omega
 rw[e,gR,<-ht];simp -implicitDefEqProofs[q1,q2,hr,hj,hb',hd3,l3,l3']
def aa4(v:ai)(f n i:Nat)(hi:i<n):jc v (ey f n) (i:Nat)=(fe v (f+i)).kind:=by
 unfold jc;rw[qo,if_neg (by omega),gR];have e:(ey (f:Int) n).getD i 0=((f+i:Nat):Int):=by
  unfold ey;rw[bu,fx,List.getElem?_range hi];simp
 rw[e,gR]
def Tv(v:ai)(a f N:Nat)(p:aQ)(h:aa)(n:Nat)(σ:St):Prop:=∃i:Nat,n=N-i/\i<=N/\σ.m.h=h/\(List.range i).all (jH v (ey f N))=true/\σ.t.get 0=some (.pointer (some ⟨a,0,none⟩))/\σ.t.get 2=some (.int .i64 (f:Nat))/\σ.t.get 4=some (.pointer (some ⟨4,0,some 0⟩))/\σ.t.get 7=some (.int .i64 ((f:Int)+N-1))/\
 σ.t.get 8=some (.int .i64 (c1 v (ey f N) 1 i:Nat))/\σ.t.get 9=some (.int .i64 (c1 v (ey f N) 2 i:Nat))/\σ.t.get 10=some (.int .i64 ((f+i:Nat):Int))/\σ.m.x.look 4=some (29,ah p)
def yb(v:ai)(M:fT v)(a:Nat)(p:aQ)(f:Int)(hf: -1<=f/\f<=1048576)(h:aa)(H:tP h a v):al PP 142 [.pointer (some ⟨a,0,none⟩),du p,.int .i64 f] h (λr h'=>h'=h/\r= .bool (l6 v p f)):=by
 refine aC Tryz.func142 afl ?_;simp only[aA,Tryz.f142];have hpar:=Rc p h;have hlen:=M.len;obtain⟨w,s,ns,c,g,r,kk,nk,ck,pp,np,cp,uv,hr,rfl,hs,hV,⟨u1,u2,rfl⟩,hU⟩:=AL H;have hlo:=ajX v M _ _ (bK v) f (by omega) h hV hU;have hC0:List.take 5 [Value.slice s v.ag.length c,.int .i64 g,.int .i64 r,.slice kk nk ck,.slice pp np cp,.slice u1 (bK v).length u2]=[Value.slice s v.ag.length c,.int .i64 g,.int .i64 r,.slice kk nk ck,.slice pp np cp]:=rfl;simp only[du,ah]at hpar;obtain⟨D,hD⟩:=nm (l6 v p f);rw[<-hD];unfold l6 cY at hD;simp -implicitDefEqProofs[du,ah];refine cE hpar ?_;by_cases q1:dK p=true;rotate_left
 .rw[if_neg q1]at hD;simp -implicitDefEqProofs[aF,q1,hD]
 rw[if_pos q1]at hD;have hmp:=q1;unfold dK at hmp;simp only[bQ,de]at hmp;obtain⟨N,hN⟩:∃N:Nat,p.size=N:=⟨p.size.toNat,by omega⟩;have hlr:=abB v (bK v) f N;obtain⟨L,hL⟩:=nm (uZ v (bK v) f);rw[<-hL]at hlr hlo;simp -implicitDefEqProofs[aF,q1,hr];intro _;refine cE hlo ?_;by_cases q2:L<N
 .have q2':(L:Int)<(N:Int):=by omega
  have htk:lM v (bK v) f p.size=none:=by
   unfold lM;rw[if_pos];right;right;rw[hN,gR,hlr];omega
  rw[htk]at hD;simp -implicitDefEqProofs[aF,hN,q2,q2',hD]
 have q2':¬(L:Int)<(N:Int):=by omega
 have hlong:jm v (bK v) f N 0=N:=by rw[hlr];omega
 have hrange:=Pj (v:=v) (us:=bK v) (a:=f) N 0 (by omega) (by omega);rw[hlong]at hrange;have htk:lM v (bK v) f p.size=some (ey f N):=by
  unfold lM;rw[if_neg,hN,gR];rw[hN,gR,hlong];omega
 rw[htk]at hD;simp only at hD;obtain⟨F,rfl⟩:∃F:Nat,f=F:=⟨f.toNat,by omega⟩;have hDk:D=ry v (ey F N) p.cS:=by rw[hD];cases ry v (ey F N) p.cS<;>rfl
 clear hD;rw[AY,qo]at hDk;have w1:IntKind.wrap .i64 ((F:Int)+(N:Int))=(F:Int)+N:=bB (by omega);have w2:IntKind.wrap .i64 ((F:Int)+(N:Int)-1)=(F:Int)+N-1:=bB (by omega);have hfl:∀i,jH v (ey F N) i=false->i<N->D=false:=λi hi him=>by
  rw[hDk,V.all_false him hi];rfl
 simp -implicitDefEqProofs[aF,hN,q2,q2',w1,w2];intro _;refine bG (Tv v a F N p h) _ ⟨0,rfl,by omega,by simp,rfl,by simp[c1,ah,hN]⟩ ?_;rintro n ⟨T,⟨x,G⟩⟩ ⟨i,rfl,hi,hG,aJ,g0,g2,g4,g7,g8,g9,g10,x4⟩;simp at hG g0 g2 g4 g7 g8 g9 g10 x4;subst hG;simp -implicitDefEqProofs[g0,g2,g4,g7,g8,g9,g10,x4];refine bR (λhc=>?_) (λhc=>?_)
 .have him:i<N:=by omega
  obtain⟨k,hk⟩:=nm (F+i);have hkl:k<v.ag.length:=by omega
  have ek:(F:Int)+(i:Int)=(k:Int):=by omega
  have w3:IntKind.wrap .i64 ((k:Int)+1)=(k:Int)+1:=bB (by omega);have w3':IntKind.wrap .i64 ((k:Int)+1)=((F:Int)+((i:Int)+1)):=by rw[w3];omega
  have w4:IntKind.wrap .i64 ((k:Int)-1)=(k:Int)-1:=bB (by omega);have l1:=xz v (ey F N) 1 i;have l2:=xz v (ey F N) 2 i;have w5:IntKind.wrap .i64 ((c1 v (ey F N) 1 i:Int)+1)=((c1 v (ey F N) 1 i+1:Nat):Int):=by rw[bB (by omega)];omega
  have w6:IntKind.wrap .i64 ((c1 v (ey F N) 2 i:Int)+1)=((c1 v (ey F N) 2 i+1:Nat):Int):=by rw[bB (by omega)];omega
  have s1:=xA v (ey F N) 1 i;have s2:=xA v (ey F N) 2 i;have hka:=aa4 v F N i him;have hsk:=mM hkl;rw[<-hk]at hka;obtain⟨t,ht⟩:=nm (fe v k);rw[<-ht]at hsk hka;rw[hka]at s1 s2;obtain⟨_,b',o',wb',cells',r',rfl,hb',hd',hlc2,_⟩:=hs.at 4 V.fD hsk;have hd3:cells'.drop (o'+k*4+3)= .int .i64 t.kind::r':=by rw[<-eh,hd'];rfl
  have l3:o'+k*4+3+1<=cells'.length:=by omega
  have l3':o'+k*4+4<=cells'.length:=by omega
  have K1:=Q2 v a F N k (by omega) (by omega) ((k:Int)-1) (.inl rfl) (by omega) (by omega) hlen.2 G H;have K2:=Q2 v a F N k (by omega) (by omega) ((k:Int)+1) (.inr rfl) (by omega) (by omega) hlen.2 G H;have e1:(k:Int)-1-F=(i:Int)-1:=by omega
  have e2:(k:Int)+1-F=(i:Int)+1:=by omega
  rw[e1]at K1;rw[e2]at K2;rw[ek]at g10;simp -implicitDefEqProofs[g0,g2,g4,g7,g8,g9,g10,x4,hr,hkl,hb',hd3,l3,l3',ek];by_cases k1:t.kind=1
  .rw[if_pos k1]at s1;rw[if_neg (by omega)]at s2;simp -implicitDefEqProofs[g0,g2,g4,g7,g8,g9,g10,x4,k1,w4,w5];refine K1.mono ?_;rintro r h1 ⟨rfl,z1,rfl,hz1⟩;by_cases q5:z1=2
   .have hok:jH v (ey F N) i=true:=(by unfold jH;rw[hz1.1 q5];simp);simp -implicitDefEqProofs[af,q5,g0,g2,g4,g7,g8,g9,g10,x4,w3',w5];intro _;exact⟨N-(i+1),by omega,i+1,rfl,by omega,rfl,V.all_succ aJ hok,by simp[g0,g2,g4,g7,s1,w5,g9,s2,x4]⟩
   .simp -implicitDefEqProofs[af,q5,g0,g2,g4,g7,g8,g9,g10,x4,w3];intro _;refine K2.mono ?_;rintro r h2 ⟨rfl,z2,rfl,hz2⟩;by_cases q6:z2=2
    .have hok:jH v (ey F N) i=true:=(by unfold jH;rw[hz2.1 q6];simp);simp -implicitDefEqProofs[af,q6,g0,g2,g4,g7,g8,g9,g10,x4,w3',w5];intro _;exact⟨N-(i+1),by omega,i+1,rfl,by omega,rfl,V.all_succ aJ hok,by simp[g0,g2,g4,g7,s1,w5,g9,s2,x4]⟩
    .have hok:jH v (ey F N) i=false:=by
      unfold jH;rw[hka,k1];have n1:¬jc v (ey F N) ((i:Int)-1)=2:=λz=>q5 (hz1.2 z);have n2:¬jc v (ey F N) ((i:Int)+1)=2:=λz=>q6 (hz2.2 z);simp[n1,n2]
     have hf:=hfl i hok him
     simp -implicitDefEqProofs[af,q6,hf]
  .rw[if_neg k1]at s1;have hok:jH v (ey F N) i=true:=(by unfold jH;rw[hka];simp[k1]);by_cases k2:t.kind=2
   .rw[if_pos k2]at s2;simp -implicitDefEqProofs[g0,g2,g4,g7,g8,g9,g10,x4,k1,k2,w3',w6];exact⟨N-(i+1),by omega,i+1,rfl,by omega,rfl,V.all_succ aJ hok,by simp[g0,g2,g4,g7,g8,s1,s2,w6,x4]⟩
   .rw[if_neg k2]at s2;simp -implicitDefEqProofs[g0,g2,g4,g7,g8,g9,g10,x4,k1,k2,w3'];exact⟨N-(i+1),by omega,i+1,rfl,by omega,rfl,V.all_succ aJ hok,by simp[g0,g2,g4,g7,g8,s1,g9,s2,x4]⟩
 .have e:i=N:=by omega
  subst e;rw[aJ,qQ]at hDk;obtain⟨A,hA⟩:=nm (c1 v (ey F i) 1 i);obtain⟨Bc,hB⟩:∃B,B=c1 v (ey F i) 2 i:=⟨_,rfl⟩;rw[<-hA]at g8 hDk ⊢;rw[<-hB]at g9 hDk ⊢;rw[hDk];by_cases z1:(A:Int)=p.cS;rotate_left
  .simp -implicitDefEqProofs[g8,g4,x4,ah,z1]
  by_cases z2:0<A
  .have z2':¬p.cS=0:=(by omega);have z3:(0:Int)<A:=(by omega);have z4:0<p.cS:=(by omega);simp -implicitDefEqProofs[g8,g4,x4,ah,z1,z2,z2',z3,z4]
  .have z2':p.cS=0:=(by omega);have z3:A=0:=(by omega);subst z3;by_cases z5:Bc=0
   .subst z5;simp -implicitDefEqProofs[g8,g9,g4,x4,ah,z2']
   .have z6:0<Bc:=(by omega);have z7:¬(Bc:Int)=0:=(by omega);simp -implicitDefEqProofs[g8,g9,g4,x4,ah,z2',z5,z6,z7]
def nY(v:ai)(A B i k:Nat):Bool:=decide (A+i≠B+k)&& !kg (fe v (A+i)) (fe v (B+k)) v.bA
def VW(v:ai)(p q:aQ)(A B:Nat):dM v p A q B=(List.range p.size.toNat).all λi=>(List.range q.size.toNat).all (nY v A B i):=by
 unfold dM;congr 1;funext i;congr 1;funext k;unfold nY;have e1:((A:Int)+(i:Int)).toNat=A+i:=by omega
 have e2:((B:Int)+(k:Int)).toNat=B+k:=by omega
 rw[e1,e2];congr 1;rw[decide_eq_decide];omega
def Tx(v:ai)(a A B i P Q:Nat)(p q:aQ)(h:aa)(n:Nat)(σ:St):Prop:=∃k:Nat,n=Q-k/\k<=Q/\σ.m.h=h/\(List.range k).all (nY v A B i)=true/\σ.t.get 0=some (.pointer (some ⟨a,0,none⟩))/\σ.t.get 2=some (.int .i64 (A:Nat))/\σ.t.get 4=some (.int .i64 (B:Nat))/\
 σ.t.get 6=some (.pointer (some ⟨6,0,some 0⟩))/\σ.t.get 8=some (.pointer (some ⟨8,0,some 0⟩))/\σ.t.get 11=some (.int .i64 ((A+i:Nat):Int))/\σ.t.get 12=some (.int .i64 ((B+k:Nat):Int))/\σ.m.x.look 6=some (29,ah p)/\σ.m.x.look 8=some (29,ah q)
def Tw(v:ai)(a A B P Q:Nat)(p q:aQ)(h:aa)(n:Nat)(σ:St):Prop:=∃i:Nat,n=P-i/\i<=P/\σ.m.h=h/\((List.range i).all λi=>(List.range Q).all (nY v A B i))=true/\σ.t.get 0=some (.pointer (some ⟨a,0,none⟩))/\σ.t.get 2=some (.int .i64 (A:Nat))/\σ.t.get 4=some (.int .i64 (B:Nat))/\
 σ.t.get 6=some (.pointer (some ⟨6,0,some 0⟩))/\σ.t.get 8=some (.pointer (some ⟨8,0,some 0⟩))/\σ.t.get 11=some (.int .i64 ((A+i:Nat):Int))/\σ.m.x.look 6=some (29,ah p)/\σ.m.x.look 8=some (29,ah q)
def Qd{v:ai}{p:aQ}{f:Int}(h:l6 v p f=true):dK p=true/\0<=f/\f+p.size<=v.ag.length:=by
 unfold l6 cY at h;by_cases q1:dK p=true
 .rw[if_pos q1]at h;cases q2:lM v (bK v) f p.size with
  |none=>rw[q2]at h;cases h
  |some l=>
   obtain⟨_,_,h3,h4⟩:=wY q2;exact⟨q1,h3,h4⟩
 .rw[if_neg q1]at h;cases h
def KH(v:ai)(M:fT v)(a:Nat)(p q:aQ)(f g:Int)(hf: -1<=f/\f<=1048576)(hg: -1<=g/\g<=1048576)(h:aa)(H:tP h a v):
  al PP 143 [.pointer (some ⟨a,0,none⟩),du p,.int .i64 f,du q,.int .i64 g] h (λr h'=>h'=h/\r= .bool (l6 v p f&&(l6 v q g&&dM v p f q g))):=by
 refine aC Tryz.func143 afm ?_;simp only[aA,Tryz.f143];have m1:=yb v M a p f hf h H;have m2:=yb v M a q g hg h H;have hlen:=M.len;simp only[du,ah]at m1 m2;simp -implicitDefEqProofs[du,ah];refine cE m1 ?_;by_cases q1:l6 v p f=true;rotate_left
 .simp -implicitDefEqProofs[af,q1]
 simp -implicitDefEqProofs[af,q1];intro _;refine cE m2 ?_;by_cases q2:l6 v q g=true;rotate_left
 .simp -implicitDefEqProofs[af,q2]
 obtain⟨i1,i2,i3⟩:=Qd q1;obtain⟨j1,j2,j3⟩:=Qd q2;unfold dK at i1 j1;simp only[bQ,de]at i1 j1;obtain⟨A,rfl⟩:∃A:Nat,f=A:=⟨f.toNat,by omega⟩;obtain⟨B,rfl⟩:∃B:Nat,g=B:=⟨g.toNat,by omega⟩;obtain⟨P,hP⟩:∃P:Nat,p.size=P:=⟨p.size.toNat,by omega⟩;obtain⟨Q,hQ⟩:∃Q:Nat,q.size=Q:=⟨q.size.toNat,by omega⟩;obtain⟨D,hD⟩:=nm (dM v p A q B);rw[<-hD];rw[VW,hP,hQ,gR,gR]at hD;obtain⟨w,s,ns,c,gg,r,kk,nk,ck,pp,np,cp,uv,hr,rfl,hs,hV,⟨u1,u2,rfl⟩,hU⟩:=AL H;have w1:IntKind.wrap .i64 ((A:Int)+(P:Int))=(A:Int)+P:=bB (by omega);have w2:IntKind.wrap .i64 ((B:Int)+(Q:Int))=(B:Int)+Q:=bB (by omega);have hp0:ah p=[.int .i64 (P:Nat),.int .i64 p.cS]:=by unfold ah;rw[hP]
 have hq0:ah q=[.int .i64 (Q:Nat),.int .i64 q.cS]:=by unfold ah;rw[hQ]
 have hC0:List.take 5 [Value.slice s v.ag.length c,.int .i64 gg,.int .i64 r,.slice kk nk ck,.slice pp np cp,.slice u1 (bK v).length u2]=[Value.slice s v.ag.length c,.int .i64 gg,.int .i64 r,.slice kk nk ck,.slice pp np cp]:=rfl;simp -implicitDefEqProofs[af,q2];intro _;refine bG (Tw v a A B P Q p q h) _ ⟨0,rfl,by omega,by simp,rfl,by simp[ah]⟩ ?_;rintro n ⟨T,⟨x,G⟩⟩ ⟨i,rfl,hi,hG,aJ,g0,g2,g4,g6,g8,g11,x6,x8⟩;simp at hG g0 g2 g4 g6 g8 g11 x6 x8;rw[hp0]at x6;rw[hq0]at x8;subst hG;simp -implicitDefEqProofs[g0,g2,g4,g6,g8,g11,x6,x8,w1];refine bR (λhc=>?_) (λhc=>?_);rotate_left
 .have e:i=P:=by omega
  subst e;rw[aJ]at hD;simp -implicitDefEqProofs[hD]
 have hiP:i<P:=by omega
 have w3:IntKind.wrap .i64 ((A:Int)+(i:Int)+1)=(A:Int)+((i:Int)+1):=by rw[bB (by omega)];omega
 simp -implicitDefEqProofs[g0,g2,g4,g6,g8,g11,x6,x8];refine bG (Tx v a A B i P Q p q G) _ ⟨0,rfl,by omega,by simp,rfl,by simp[g0,g2,g4,g6,g8,g11,x6,hp0,x8,hq0]⟩ ?_;clear g0 g2 g4 g6 g8 g11 x6 x8 hc;rintro n ⟨T,⟨x,G2⟩⟩ ⟨k,rfl,hk,hG,hall2,g0,g2,g4,g6,g8,g11,g12,x6,x8⟩;simp at hG g0 g2 g4 g6 g8 g11 g12 x6 x8;rw[hp0]at x6;rw[hq0]at x8;subst hG;simp -implicitDefEqProofs[g0,g2,g4,g6,g8,g11,g12,x6,x8,w2];refine bR (λhc=>?_) (λhc=>?_);rotate_left
 .have e:k=Q:=by omega
  subst e;simp -implicitDefEqProofs[g0,g2,g4,g6,g8,g11,g12,x6,x8,w3];exact⟨P-(i+1),by omega,i+1,rfl,by omega,rfl,V.all_succ aJ hall2,by simp[g0,g2,g4,g6,g8,x6,hp0,x8,hq0]⟩
 have hkQ:k<Q:=by omega
 have w4:IntKind.wrap .i64 ((B:Int)+(k:Int)+1)=(B:Int)+((k:Int)+1):=by rw[bB (by omega)];omega
 have bad:nY v A B i k=false->D=false:=λz=>by
  rw[hD];have:(List.range Q).all (nY v A B i)=false:=V.all_false hkQ z;exact V.all_false (f:=λi=>(List.range Q).all (nY v A B i)) hiP this
 by_cases z1:A+i=B+k
 .have z1':(A:Int)+(i:Int)=(B:Int)+(k:Int):=by omega
  have hd:=bad (by unfold nY;simp[z1]);simp -implicitDefEqProofs[g0,g2,g4,g6,g8,g11,g12,x6,x8,z1',hd]
 have z1':¬(A:Int)+(i:Int)=(B:Int)+(k:Int):=by omega
 have hcl:=ajx v M _ (A+i) (B+k) (by omega) (by omega) G2 hV;have hne:decide (A+i≠B+k)=true:=by simp[z1]
 rw[hne,qQ]at hcl;simp only[Int.natCast_add]at hcl;simp -implicitDefEqProofs[g0,g2,g4,g6,g8,g11,g12,x6,x8,z1',hr];refine cE hcl ?_;by_cases z2:kg (fe v (A+i)) (fe v (B+k)) v.bA=true
 .have hd:=bad (by unfold nY;simp[z2]);simp -implicitDefEqProofs[af,z2,hd]
 .have hok:nY v A B i k=true:=by unfold nY;simp[z1,z2]
  simp -implicitDefEqProofs[af,z2,g0,g2,g4,g6,g8,g11,g12,x6,x8,w4];intro _;exact⟨Q-(k+1),by omega,k+1,rfl,by omega,rfl,V.all_succ hall2 hok,by simp[g0,g2,g4,g6,g8,g11,x6,hp0,x8,hq0]⟩
def Ty(s:Value)(l:List aQ)(m:Nat)(h:aa)(n:Nat)(σ:St):Prop:=∃i:Nat,n=m-i/\i<=m/\σ.m.h=h/\σ.t.get 0=some s/\σ.t.get 3=some (.int .i64 (i:Nat))/\(l.take i).all dK=true
def ajw(s:Value)(l:List aQ)(hl:l.length<=1073741824)(h:aa)(hs:mT h s l):al PP 144 [s] h (λv h'=>h'=h/\v= .bool (fy l)):=by
 refine aC Tryz.func144 afn ?_;simp only[aA,Tryz.f144];obtain⟨ad,c,rfl⟩:=hs.shape;obtain⟨m,hm⟩:=nm l.length;obtain⟨D,hD⟩:=nm (fy l);rw[<-hD];unfold fy at hD;rw[<-hm]at hs hD ⊢;simp -implicitDefEqProofs;refine bG (Ty (.slice ad m c) l m h) _ ⟨0,rfl,by omega,rfl,by simp,by simp,rfl⟩ ?_;rintro n ⟨T,⟨x,H⟩⟩ ⟨i,rfl,hi,hH,g0,g3,aJ⟩;simp at hH g0 g3;subst hH;simp -implicitDefEqProofs[g0,g3];refine bR (λhc=>?_) (λhc=>?_)
 .have hil:i<m:=by omega
  have hti:l[i]? =some l[i]:=aq (by omega);obtain⟨_,b',o,wb,cs,r,rfl,hb',hd,hlc,_⟩:=hs.at 2 ko hti;obtain⟨u,hu⟩:=nm l[i];rw[<-hu]at hd hti;have w1:=bO (i:=i) (by omega);have hpa:=Rc u H;simp only[du,ah]at hpa;simp -implicitDefEqProofs[g0,g3,hil,hb',hd,hlc,ah];refine cE hpa ?_;by_cases q:dK u=true
  .simp -implicitDefEqProofs[af,q,g0,g3,w1];intro _;exact⟨m-(i+1),by omega,i+1,rfl,by omega,rfl,by simp[g0],by simp,by rw[fL,hti,List.all_append,aJ];simp[q]⟩
  .have hf:l.all dK=false:=by
    rw[List.all_eq_false];exact⟨u,dE hti,q⟩
   rw[hf,Bool.and_false]at hD
   simp -implicitDefEqProofs[af,q,hD]
 .have e:i=m:=by omega
  subst e;rw[b9 (by omega)]at aJ;rw[aJ,Bool.and_true]at hD;by_cases q:i<=512
  .have q':(i:Int)<=512:=(by omega);simp -implicitDefEqProofs[g0,q',hD,q]
  .have q':¬(i:Int)<=512:=(by omega);simp -implicitDefEqProofs[g0,q',hD,q]
def od(k:Int)(l:List (Int×Int)):Option (Int×Int):=l.find? λp=>decide (p.1=k)
def yO(o:Option (Int×Int)):Value:=match o with
 |some q=>.tuple #[.int .i64 q.2,.bool true]
 |none=>.tuple #[.int .i64 (-1),.bool false]
def Tz(s:Value)(l:List (Int×Int))(k:Int)(m:Nat)(h:aa)(n:Nat)(σ:St):Prop:=∃i:Nat,n=m-i/\i<=m/\σ.m.h=h/\σ.t.get 0=some s/\σ.t.get 1=some (.int .i64 k)/\σ.t.get 6=some (.int .i64 (i:Nat))/\od k l=od k (l.drop i)
def aj7(s:Value)(l:List (Int×Int))(hl:l.length<=1073741824)(k:Int)(h:aa)(hs:vt h s l):al PP 145 [s,.int .i64 k] h (λv h'=>h'=h/\v=yO (od k l)):=by
 refine aC Tryz.func145 afo ?_;simp only[aA,Tryz.f145];obtain⟨ad,c,rfl⟩:=hs.shape;obtain⟨m,hm⟩:=nm l.length;obtain⟨D,hD⟩:=nm (od k l);rw[<-hD];rw[<-hm]at hs ⊢;simp -implicitDefEqProofs;refine bG (Tz (.slice ad m c) l k m h) _ ⟨0,rfl,by omega,rfl,by simp⟩ ?_;rintro n ⟨T,⟨x,H⟩⟩ ⟨i,rfl,hi,hH,g0,g1,g6,hfd⟩;simp at hH g0 g1 g6;subst hH;simp -implicitDefEqProofs[g0,g1,g6];refine bR (λhc=>?_) (λhc=>?_)
 .have hil:i<m:=by omega
  have hti:l[i]? =some l[i]:=aq (by omega);obtain⟨_,b',o,wb,cs,r,rfl,hb',hd,hlc,_⟩:=hs.at 2 qs hti;obtain⟨u,hu⟩:=nm l[i];have hdr:l.drop i=u::l.drop (i+1):=by rw[hu];exact gQ (by omega)
  rw[<-hu]at hd hti;have w1:=bO (i:=i) (by omega);have hd0:cs.drop (o+i*2)= .int .i64 u.1:: .int .i64 u.2::r:=hd;have hd1:cs.drop (o+i*2+1)= .int .i64 u.2::r:=by rw[<-eh,hd];rfl
  have l0:o+i*2+1<=cs.length:=by omega
  have l1:o+i*2+1+1<=cs.length:=by omega
  have hf:od k (l.drop i)=if u.1=k then some u else od k (l.drop (i+1)):=by
   rw[hdr];unfold od;rw[List.find?_cons];by_cases q:u.1=k<;>simp[q]
  simp -implicitDefEqProofs[g0,g1,g6,hil,hb',hd0,hd1,l0,l1,hlc];by_cases q:u.1=k
  .rw[if_pos q]at hf;rw[hfd,hf]at hD;simp -implicitDefEqProofs[q,g0,g1,g6,hil,hb',hd0,hd1,l0,l1,hlc,hD,yO]
  .rw[if_neg q]at hf;simp -implicitDefEqProofs[q,g0,g1,g6,w1];exact⟨m-(i+1),by omega,i+1,rfl,by omega,rfl,by simp[g0],by simp[g1],by simp,by rw[hfd,hf]⟩
 .have e:i=m:=by omega
  subst e;have hnil:od k (l.drop i)=none:=by rw[List.drop_of_length_le (by omega)];rfl
  rw[hfd,hnil]at hD;simp -implicitDefEqProofs[hD,yO]
end Go.Proofs.Ybk.K
namespace Go.Proofs.Ybk.K
open Go Go.Am
open V (au aR ai aK aE)
def xo(l l':List aB):Prop:=∀(k:Nat)(o':aB),l'[k]? =some o'->(o'.state=1->∀o:aB,l[k]? =some o->o.state=1)/\(o'.state=2->∃o:aB,l[k]? =some o/\(o.state=1∨o.state=2/\o'.first=o.first))
def ky(l:List aB):xo l l:=λk o' h=>⟨λq o ho=>by rw[h]at ho;simp only[av]at ho;rw[<-ho];exact q,λq=>⟨o',h,.inr ⟨q,rfl⟩⟩⟩
def akV:∀(l:List aB)(p:List Int),(∀(i:Nat)(o:aB),(l.filter bT)[i]? =some o->o.state=2->p.getD i 0=o.first)->
  ∀(k:Nat)(o':aB),(eE l p)[k]? =some o'->∃o:aB,l[k]? =some o/\o'.state=o.state/\(o.state=2->o'.first=o.first):=by
 intro l;induction l with
 |nil=>intro p _ k o' h;rw[eE]at h;simp at h
 |cons a r ih=>
  intro p hp k o' h;rw[eE]at h;by_cases hl:bT a=true
  .rw[if_pos hl]at h;have e0:(a::r).filter bT=a::r.filter bT:=(by rw[iS,if_pos hl]);rw[e0]at hp;cases k with
   |zero=>
    simp only[List.getElem?_cons_zero,av]at h;subst h;refine⟨a,rfl,rfl,λq=>?_⟩;have:=hp 0 a rfl q;show p.headD 0=a.first;rw[<-this];cases p<;>rfl
   |succ k=>
    rw[List.getElem?_cons_succ]at h;obtain⟨o,h1,h2⟩:=ih p.tail (λi o hi hs=>by
     have:=hp (i+1) o (by rw[List.getElem?_cons_succ];exact hi) hs;rw[<-this];cases p<;>simp) k o' h
    exact⟨o,by rw[List.getElem?_cons_succ];exact h1,h2⟩
  .rw[if_neg hl]at h;have e0:(a::r).filter bT=r.filter bT:=(by rw[iS,if_neg hl]);rw[e0]at hp;cases k with
   |zero=>
    simp only[List.getElem?_cons_zero,av]at h;subst h;exact⟨a,rfl,rfl,λ_=>rfl⟩
   |succ k=>
    rw[List.getElem?_cons_succ]at h;obtain⟨o,h1,h2⟩:=ih p hp k o' h;exact⟨o,by rw[List.getElem?_cons_succ];exact h1,h2⟩
def QF{v:ai}{l:List aQ}{p:List Int}{L:List aB}(h:ix v l p (cT 0 L)=true)(hl:p.length<=L.length+1)(hl2:L.length<=p.length):∀(i:Nat)(o:aB),L[i]? =some o->o.state=2->p.getD i 0=o.first:=by
 obtain⟨s,hs,hlen,hw⟩:=yD h;obtain⟨e,P,hm,ha⟩:=pe hs;subst e;intro i o hi hst;have hil:=(cP.mp hi).1;have hmem:=ai2 L 0 i o hi hst;rw[iG]at hmem;exact zw (hw i (by omega)) (Qy (s:=⟨v,bK v,l,cT 0 L⟩) (BA L 0).2 hmem)
def alC{n N:Nat}{b:aI}(H:Good b)(OK:eF N b)(c:CmdR):xo b.l (bZ n b c).1.l:=by
 have tC:∀(L:List aB)(p:List Int),(∀(k:Nat)(o:aB),b.l[k]? =some o->L[k]? =some o)->(∀(k:Nat)(o:aB),L[k]? =some o->b.l.length<=k->o.state=1)->(∀(i:Nat)(o:aB),(L.filter bT)[i]? =some o->o.state=2->p.getD i 0=o.first)->xo b.l (eE L p):=by
  intro L p h1 h2 h3 k o' ho;obtain⟨x,hx,e1,e2⟩:=akV L p h3 k o' ho;constructor
  .intro q o hk;have:=h1 k o hk;rw[hx]at this;simp only[av]at this;rw[<-this,<-e1];exact q
  .intro q;rcases Nat.lt_or_ge k b.l.length with z|z
   .have hk:b.l[k]? =some b.l[k]:=aq z;have:=h1 k _ hk;rw[hx]at this;simp only[av]at this;rw[<-this]at hk;exact⟨x,hk,.inr ⟨by rw[<-e1];exact q,e2 (by rw[<-e1];exact q)⟩⟩
   .have:=h2 k x hx z;rw[e1,this]at q;cases q
 unfold bZ;split
 .exact ky _
 split
 .unfold kJ;split
  .exact ky _
  .split<;>exact ky _
 split
 .unfold iR;split
  .exact ky _
  .intro k o' ho;simp only[fx,Option.map_eq_some_iff]at ho;obtain⟨x,hx,rfl⟩:=ho;split
   .exact⟨λq=>(by cases q),λq=>(by cases q)⟩
   .exact ky b.l k x hx
 split
 .exact ky _
 split
 .unfold kH;split
  .exact ky _
  .simp only;split
   .exact ky _
   .rename_i h2;have h2:(gv n b c.az).2=0:=Classical.byContradiction h2;obtain⟨F,hF⟩:=nm (gv n b c.az);rw[<-hF]at h2 ⊢;unfold gv at hF;split at hF
    .rw[hF]at h2;cases h2
    .simp only at hF;split at hF
     .rename_i h3;rw[hF]at h2;exact absurd h2 h3
     .rename_i h3;split at hF
      .rename_i h4;have hm:=tW (Classical.byContradiction λq=>h3 q);have hfl:F.1.length=(bV b).length+1:=by
        unfold jD at h4;simp only[bQ,de]at h4;have:=h4.2;rw[hF];simp only;rw[<-this];simp[aO]
       have hm':ix b.v ((aO b).1++[c.az]) F.1 (cT 0 (bV b))=true:=(by rw[hF];exact hm);refine tC _ _ (λk o hk=>?_) (λk o hk hge=>?_) (λi o hi hst=>?_)
       .rw[ji (cP.mp hk).1];exact hk
       .rw[iF hge]at hk;have:=dE hk;rw[dZ]at this;rw[this]
       .rw[mo]at hi;have hi':(bV b++[(⟨(b.l.length:Int)+1,1,c.az,b.now+c.a,F.1.getLastD 0⟩:aB)])[i]? =some o:=hi;rcases Nat.lt_or_ge i (bV b).length with z|z
        .rw[ji z]at hi';exact QF hm' (by omega) (by omega) i o hi' hst
        .rw[iF z]at hi';have:=dE hi';rw[dZ]at this;rw[this]at hst;cases hst
      .split at hF
       .rw[hF]at h2;cases h2
       .rw[hF]at h2;cases h2
 split
 .exact ky _
 split
 .unfold lR;split
  .exact ky _
  .rename_i hr;simp only;split
   .exact ky _
   .rename_i hs;simp only[ne_eq,Decidable.not_not]at hs;have hk:c.a.toNat-1<b.l.length:=(by omega);have hg:=sD hk;intro k o' ho;simp only at ho;by_cases e:c.a.toNat-1=k
    .subst e;rw[List.getElem?_set_self hk]at ho;simp only[av]at ho;subst ho;exact⟨λq=>(by cases q),λ_=>⟨_,hg,.inl hs⟩⟩
    .rw[List.getElem?_set_ne e]at ho;exact ky b.l k o' ho
 split
 .unfold lQ;split
  .exact ky _
  .rename_i hr;simp only;split
   .exact ky _
   .have hk:c.a.toNat-1<b.l.length:=(by omega);intro k o' ho;simp only at ho;by_cases e:c.a.toNat-1=k
    .subst e;rw[List.getElem?_set_self hk]at ho;simp only[av]at ho;subst ho;exact⟨λq=>(by cases q),λq=>(by cases q)⟩
    .rw[List.getElem?_set_ne e]at ho;exact ky b.l k o' ho
 split
 .unfold ma;simp only;split
  .exact ky _
  .rename_i h1;split
   .exact ky _
   .have h1:(gj n b.v (aO b).1 (aO b).2.2 (aO b).2.1 b.fuel).2=0:=Classical.byContradiction h1;have hm:=tW h1;have hl:=zO (by simp[aO]) h1;have hl':(gj n b.v (aO b).1 (aO b).2.2 (aO b).2.1 b.fuel).1.aY.length=(bV b).length:=(by rw[hl];simp[aO]);exact tC b.l _ (λk o hk=>hk) (λk o hk hge=>by have:=(cP.mp hk).1;omega) (λi o hi hst=>QF (L:=bV b) hm (by omega) (by omega) i o hi hst)
 .exact ky _
structure Seen(l:List aB)(A:Int->Int):Prop where
 one:∀(k:Nat)(o:aB),l[k]? =some o->o.state=1->A ((k:Int)+1)=0
 two:∀(k:Nat)(o:aB),l[k]? =some o->o.state=2->A ((k:Int)+1)=o.first+1
 new:∀k:Nat,l.length<=k->A ((k:Int)+1)=0
structure vu(l:List aB)(A:Int->Int):Prop where
 one:∀(k:Nat)(o:aB),l[k]? =some o->o.state=1->A ((k:Int)+1)=0
 two:∀(k:Nat)(o:aB),l[k]? =some o->o.state=2->A ((k:Int)+1)=0∨A ((k:Int)+1)=o.first+1
 new:∀k:Nat,l.length<=k->A ((k:Int)+1)=0
def akA{l l':List aB}{A:Int->Int}(S:Seen l A)(T:xo l l')(hl:l.length<=l'.length):vu l' A:=by
 refine⟨λk o' h q=>?_,λk o' h q=>?_,λk h=>S.new k (by omega)⟩
 .rcases Nat.lt_or_ge k l.length with z|z
  .have hk:l[k]? =some l[k]:=aq z;exact S.one k _ hk ((T k o' h).1 q _ hk)
  .exact S.new k z
 .obtain⟨o,ho,e|⟨e1,e2⟩⟩:=(T k o' h).2 q
  .exact .inl (S.one k o ho e)
  .exact .inr (by rw[e2];exact S.two k o ho e1)
end Go.Proofs.Ybk.K
namespace Go.Proofs.Ybk.K
open Go Go.Am
set_option maxHeartbeats 4000000
open V (au aR ai ao aZ ab bg aK aE cA cG a8 bL)
structure zJ(h:aa)(v:ai)(a:Nat)(L:List aB)(lv pv qv:Value):Prop where
 aJ:tP h a v
 tC:lO v (L.map pf)
 len:L.length<=512
 prt:mT h lv (L.map (·.az))
 fst:a8 h pv (L.map (·.first))
 pins:vt h qv (cT 0 L)
def lO.at{v:ai}{L:List aB}(H:lO v (L.map pf)){k:Nat}{o:aB}(h:L[k]? =some o):l6 v o.az o.first=true/\0<=o.first/\o.first<=4096:=by
 obtain⟨h1,h2,h3⟩:=H.each (pf o) (List.mem_map_of_mem (dE h));have hb:=Cc h3;have:=(jF H.may).len;simp only[pf]at hb h2 h3;exact⟨h3,h2,by omega⟩
def lO.two{v:ai}{L:List aB}(H:lO v (L.map pf)){i j:Nat}{a b:aB}(hij:i<j)(ha:L[i]? =some a)(hb:L[j]? =some b):dM v b.az b.first a.az a.first=true:=by
 obtain⟨hi,rfl⟩:=cP.mp ha;obtain⟨hj,rfl⟩:=cP.mp hb;have:=H.pair;rw[List.pairwise_map,List.pairwise_iff_getElem]at this;exact this i j hi hj hij
def QG:∀(l:List aB)(k:Nat),(cT k l).length<=l.length:=by
 intro l;induction l with
 |nil=>intro k;exact aX _
 |cons o r ih=>
  intro k;rw[cT];have:=ih (k+1);split
  .rw[eW,eW];omega
  .rw[eW];omega
def Qz{L:List aB}{i:Nat}{q:Int×Int}(h:(cT 0 L)[i]? =some q):∃(k:Nat)(o:aB),L[k]? =some o/\q=((k:Int),o.first):=by
 obtain⟨k,o,h1,_,h2⟩:=uU L 0 q (dE h);rw[iG]at h2;exact⟨k,o,h1,h2⟩
def QA{L:List aB}{i j:Nat}{q r:Int×Int}(hij:i<j)(h1:(cT 0 L)[i]? =some q)(h2:(cT 0 L)[j]? =some r):q.1<r.1:=by
 obtain⟨hi,rfl⟩:=cP.mp h1;obtain⟨hj,rfl⟩:=cP.mp h2;exact(List.pairwise_iff_getElem.1 (BA L 0).2) i j hi hj hij
def Ti(h:aa)(a:Nat)(lv qv:Value)(m n:Nat)(σ:St):Prop:=∃i:Nat,n=m-i/\i<=m/\σ.m.h=h/\σ.t.get 0=some (.pointer (some ⟨a,0,none⟩))/\σ.t.get 1=some lv/\σ.t.get 2=some qv/\σ.t.get 7=some (.int .i64 (i:Nat))
def Tj(h:aa)(a:Nat)(lv qv:Value)(i k n:Nat)(σ:St):Prop:=∃j:Nat,n=i-j/\j<=i/\σ.m.h=h/\σ.t.get 0=some (.pointer (some ⟨a,0,none⟩))/\σ.t.get 1=some lv/\σ.t.get 2=some qv/\σ.t.get 7=some (.int .i64 (i:Nat))/\σ.t.get 8=some (.int .i64 (k:Nat))/\σ.t.get 9=some (.int .i64 (j:Nat))
def aj8{v:ai}{a:Nat}{L:List aB}{lv pv qv:Value}{h:aa}(S:zJ h v a L lv pv qv):al PP 103 [.pointer (some ⟨a,0,none⟩),lv,qv] h (λr h'=>h'=h/\r= .bool true):=by
 refine aC Tryz.func103 aeI ?_;simp only[aA,Tryz.f103];obtain⟨HH,H,hl,Hl,_,Hq⟩:=S;have M:=jF H.may;have hap:=ajw lv _ (by rw[cf];omega) h Hl;have haT:fy (L.map (·.az))=true:=by
  unfold fy;simp only[bQ,de,cz,cf];refine⟨hl,λx hx=>?_⟩;obtain⟨o,ho,rfl⟩:=dO.1 hx;exact(H.each (pf o) (List.mem_map_of_mem ho)).1
 rw[haT]at hap;obtain⟨ad1,c1,rfl⟩:=Hl.shape;obtain⟨ad2,c2,rfl⟩:=Hq.shape;have hpl:=QG L 0;obtain⟨m,hm⟩:=nm (cT 0 L).length;obtain⟨nl,hnl⟩:=nm (L.map (·.az)).length;have hnL:nl=L.length:=by rw[hnl,cf]
 rw[<-hm]at Hq hpl ⊢;rw[<-hnl]at Hl hap ⊢;simp -implicitDefEqProofs;refine bG (Ti h a (.slice ad1 nl c1) (.slice ad2 m c2) m) _ ⟨0,rfl,by omega,rfl,by simp⟩ ?_;rintro n ⟨T,⟨x,G⟩⟩ ⟨i,rfl,hi,hG,g0,g1,g2,g7⟩;simp at hG g0 g1 g2 g7;subst hG;simp -implicitDefEqProofs[g0,g1,g2,g7];refine bR (λhc=>?_) (λhc=>?_);rotate_left
 .simp -implicitDefEqProofs[g1];refine cE hap ?_;simp -implicitDefEqProofs[af]
 have him:i<m:=by omega
 have w1:=bO (i:=i) (by omega);have hti:(cT 0 L)[i]? =some (cT 0 L)[i]:=aq (by omega);obtain⟨q,hq⟩:=nm (cT 0 L)[i];rw[<-hq]at hti;obtain⟨k,o,hk,rfl⟩:=Qz hti;obtain⟨_,b1,o1,wb1,cs1,r1,rfl,bD,hd1,hl1,_⟩:=Hq.at 2 qs hti;have e0:cs1.drop (o1+i*2)= .int .i64 (k:Nat):: .int .i64 o.first::r1:=hd1;have e1:cs1.drop (o1+i*2+1)= .int .i64 o.first::r1:=by rw[<-eh,hd1];rfl
 have l0:o1+i*2+1<=cs1.length:=by omega
 have l1:o1+i*2+1+1<=cs1.length:=by omega
 have hkl:=(cP.mp hk).1;have hkn:k<nl:=by omega
 have hpk:(L.map (·.az))[k]? =some o.az:=by rw[fx,hk];rfl
 obtain⟨_,b2,o2,wb2,cs2,r2,rfl,bN,hd2,hl2,_⟩:=Hl.at 2 ko hpk;have f0:(cs2.drop (o2+k*2)).take 2=ah o.az:=by rw[hd2];rfl
 have kn1:¬(k:Int)<0:=by omega
 have kn2:¬nl<=k:=by omega
 have kn2':¬(nl:Int)<=(k:Int):=by omega
 obtain⟨s1,s2,s3⟩:=H.at hk;have hmy:=yb v M a o.az o.first (by omega) G HH;rw[s1]at hmy;simp only[du,ah]at hmy f0;obtain⟨d,hdd⟩:=nm (i-1);by_cases hz:i=0;have hz':¬(0:Int)<(i:Int):=by omega
 have hz2:¬0<i:=by omega
 simp -implicitDefEqProofs[g0,g1,g2,g7,him,bD,e0,e1,l0,l1,hl1,kn1,kn2,kn2',hkn,bN,f0,hl2,hz',hz2];rotate_left;have hz':(0:Int)<(i:Int):=by omega
 have hz2:0<i:=by omega
 have w5:IntKind.wrap .i64 ((i:Int)-1)=(d:Int):=by rw[bB (by omega)];omega
 have hdm:d<m:=by omega
 have htd:(cT 0 L)[d]? =some (cT 0 L)[d]:=aq (by omega);obtain⟨qd,hqd⟩:∃q,q=(cT 0 L)[d]:=⟨_,rfl⟩;rw[<-hqd]at htd;have hup:=QA (show d<i by omega) htd hti;obtain⟨_,b3,o3,wb3,cs3,r3,ee,hb3,hd3,hl3,_⟩:=Hq.at 2 qs htd;simp only[av,Addr.mk.injEq,and_true]at ee;obtain⟨rfl,rfl⟩:=ee;rw[bD]at hb3;simp only[aW.row.injEq,true_and]at hb3;obtain⟨rfl,rfl⟩:=hb3;have e3:cs1.drop (o1+d*2)= .int .i64 qd.1:: .int .i64 qd.2::r3:=hd3;have l3:o1+d*2+1<=cs1.length:=by omega
 have hup':¬(k:Int)<=qd.1:=by simp only at hup;omega
 simp -implicitDefEqProofs[g0,g1,g2,g7,him,bD,e0,e1,l0,l1,hl1,kn1,kn2,kn2',hkn,bN,f0,hl2,hz',hz2,w5,hdm,e3,l3,hl3,hup'];all_goals
  refine hmy.mono ?_
  rintro r h' ⟨rfl,rfl⟩
  simp -implicitDefEqProofs[aF,g0,g1,g2,g7]
  intro _
  refine bG (Tj h' a (.slice (some ⟨b2,o2,none⟩) nl c1) (.slice (some ⟨b1,o1,none⟩) m c2) i k) _ ⟨0,rfl,by omega,rfl,by simp⟩ ?_
  clear g0 g1 g2 g7
  rintro n ⟨T,⟨x,G2⟩⟩ ⟨j,rfl,hj,hG,g0,g1,g2,g7,g8,g9⟩
  simp at hG g0 g1 g2 g7 g8 g9
  subst hG
  simp -implicitDefEqProofs[g0,g1,g2,g7,g8,g9]
  refine bR (λhc1=>?_) (λhc1=>?_)
  rotate_left
  .have e:j=i:=by omega
   subst e
   simp -implicitDefEqProofs[g0,g1,g2,g7,g8,g9,w1]
   exact⟨m-(j+1),by omega,j+1,rfl,by omega,rfl,by simp[g0,g1,g2]⟩
  have hji:j<i:=by omega
  have hjm:j<m:=by omega
  have w2:=bO (i:=j) (by omega)
  have htj:(cT 0 L)[j]? =some (cT 0 L)[j]:=aq (by omega)
  obtain⟨q,hq⟩:=nm (cT 0 L)[j]
  rw[<-hq]at htj
  have hup:=QA hji htj hti
  obtain⟨kj,oj,hkj,rfl⟩:=Qz htj
  have hkk:kj<k:=by simp only at hup;omega
  obtain⟨_,b3,o3,wb3,cs3,r3,ee,hb3,hd3,hl3,_⟩:=Hq.at 2 qs htj
  simp only[av,Addr.mk.injEq,and_true]at ee
  obtain⟨rfl,rfl⟩:=ee
  rw[bD]at hb3
  simp only[aW.row.injEq,true_and]at hb3
  obtain⟨rfl,rfl⟩:=hb3
  have e2:cs1.drop (o1+j*2)= .int .i64 (kj:Nat):: .int .i64 oj.first::r3:=hd3
  have e3:cs1.drop (o1+j*2+1)= .int .i64 oj.first::r3:=by rw[<-eh,hd3];rfl
  have l2:o1+j*2+1<=cs1.length:=by omega
  have l3:o1+j*2+1+1<=cs1.length:=by omega
  have hpj:(L.map (·.az))[kj]? =some oj.az:=by rw[fx,hkj];rfl
  obtain⟨_,b4,o4,wb4,cs4,r4,ee,hb4,hd4,hl4,_⟩:=Hl.at 2 ko hpj
  simp only[av,Addr.mk.injEq,and_true]at ee
  obtain⟨rfl,rfl⟩:=ee
  rw[bN]at hb4
  simp only[aW.row.injEq,true_and]at hb4
  obtain⟨rfl,rfl⟩:=hb4
  have f1:(cs2.drop (o2+kj*2)).take 2=ah oj.az:=by rw[hd4];rfl
  have hkjn:kj<nl:=by omega
  obtain⟨t1,t2,t3⟩:=H.at hkj
  have hapt:=KH v M a o.az oj.az o.first oj.first (by omega) (by omega) G2 HH
  rw[s1,t1,H.two hkk hkj hk]at hapt
  simp only[du,ah]at hapt f1 f0
  simp -implicitDefEqProofs[g0,g1,g2,g7,g8,g9,him,hjm,bD,e0,e1,e2,e3,l0,l1,l2,l3,hl1,hl3,hkn,hkjn,bN,f0,f1,hl2,hl4]
  refine cE hapt ?_
  simp -implicitDefEqProofs[aF,g0,g1,g2,g7,g8,g9,w2]
  intro _
  exact⟨i-(j+1),by omega,j+1,rfl,by omega,rfl,by simp[g0,g1,g2,g7,g8]⟩
def Tk(h:aa)(a:Nat)(lv pv qv:Value)(m n:Nat)(σ:St):Prop:=∃i:Nat,n=m-i/\i<=m/\σ.m.h=h/\σ.t.get 0=some (.pointer (some ⟨a,0,none⟩))/\σ.t.get 1=some lv/\σ.t.get 2=some pv/\σ.t.get 3=some qv/\σ.t.get 9=some (.int .i64 (i:Nat))
def Tl(h:aa)(a:Nat)(lv pv qv:Value)(i n:Nat)(σ:St):Prop:=∃j:Nat,n=i-j/\j<=i/\σ.m.h=h/\σ.t.get 0=some (.pointer (some ⟨a,0,none⟩))/\σ.t.get 1=some lv/\σ.t.get 2=some pv/\σ.t.get 3=some qv/\σ.t.get 9=some (.int .i64 (i:Nat))/\σ.t.get 12=some (.int .i64 (j:Nat))
def BY{v:ai}{a:Nat}{L:List aB}{lv pv qv:Value}{h:aa}(S:zJ h v a L lv pv qv):al PP 104 [.pointer (some ⟨a,0,none⟩),lv,pv,qv] h (λr h'=>h'=h/\r= .int .i64 (-1)):=by
 refine aC Tryz.func104 aeJ ?_;simp only[aA,Tryz.f104];obtain⟨HH,H,hl,Hl,Hp,Hq⟩:=S;have M:=jF H.may;have hpl:=QG L 0;have hpin:=λk=>aj7 qv (cT 0 L) (by omega) k h Hq;obtain⟨ad1,c1,rfl⟩:=Hl.shape;obtain⟨ad2,c2,rfl⟩:=Hq.shape;obtain⟨ad3,c3,rfl⟩:=Hp.shape;obtain⟨m,hm⟩:=nm L.length;have e1:(L.map (·.az)).length=m:=by rw[cf,hm]
 have e2:(L.map (·.first)).length=m:=by rw[cf,hm]
 rw[e1]at Hl ⊢;rw[e2]at Hp ⊢;simp -implicitDefEqProofs;refine bG (Tk h a (.slice ad1 m c1) (.slice ad3 m c3) (.slice ad2 (cT 0 L).length c2) m) _ ⟨0,rfl,by omega,rfl,by simp⟩ ?_;rintro n ⟨T,⟨x,G⟩⟩ ⟨i,rfl,hi,hG,g0,g1,g2,g3,g9⟩;simp at hG g0 g1 g2 g3 g9;subst hG;simp -implicitDefEqProofs[g0,g1,g2,g3,g9];refine bR (λhc=>?_) (λhc=>?_);rotate_left
 .simp -implicitDefEqProofs
 have him:i<m:=by omega
 have w1:=bO (i:=i) (by omega);have hk:L[i]? =some L[i]:=aq (by omega);obtain⟨o,ho⟩:=nm L[i];rw[<-ho]at hk;have hpk:(L.map (·.az))[i]? =some o.az:=by rw[fx,hk];rfl
 have hfk:(L.map (·.first))[i]? =some o.first:=by rw[fx,hk];rfl
 obtain⟨_,b2,o2,wb2,cs2,r2,rfl,bN,hd2,hl2,_⟩:=Hl.at 2 ko hpk;have f0:(cs2.drop (o2+i*2)).take 2=ah o.az:=by rw[hd2];rfl
 obtain⟨_,b1,o1,wb1,cs1,r1,rfl,bD,hd1,hl1,_⟩:=Hp.at 1 V.dY hfk;rw[Nat.mul_one]at hd1 hl1;have d1:cs1.drop (o1+i)= .int .i64 o.first::r1:=hd1;have l1:o1+i+1<=cs1.length:=by omega
 obtain⟨s1,s2,s3⟩:=H.at hk;have hne:¬o.first= -1:=by omega
 have hmy:=yb v M a o.az o.first (by omega) G HH;rw[s1]at hmy;simp only[du,ah]at hmy f0;have hfp:∃z b,yO (od (i:Nat) (cT 0 L))= .tuple #[.int .i64 z,.bool b]/\(b=true->z=o.first):=by
  cases hf:od (i:Nat) (cT 0 L)with
  |none=>exact⟨-1,false,rfl,λq=>by cases q⟩
  |some z=>
   refine⟨z.2,true,rfl,λ_=>?_⟩;unfold od at hf;have hz1:=List.find?_some hf;have hz2:=List.mem_of_find?_eq_some hf;obtain⟨j,oj,h1,h2,rfl⟩:=uU L 0 z hz2;rw[iG]at hz1;simp only[de]at hz1;have:j=i:=(by omega);subst this;rw[hk]at h1;simp only[av]at h1;rw[h1]
 obtain⟨z,bz,hzb,hz⟩:=hfp;have hpi:=hpin (i:Nat);rw[hzb]at hpi;simp -implicitDefEqProofs[g0,g1,g2,g3,g9];refine cE hpi ?_;cases bz;rotate_left;have hz:=hz rfl;subst hz;rotate_left;all_goals
  simp -implicitDefEqProofs[af,g0,g1,g2,g3,g9,him,bD,d1,l1,hne,bN,f0,hl2]
  intro _
  refine hmy.mono ?_
  rintro r h'' ⟨rfl,rfl⟩
  simp -implicitDefEqProofs[aF,g0,g1,g2,g3,g9,him,bD,d1,l1]
  intro _
  refine bG (Tl h'' a (.slice (some ⟨b2,o2,none⟩) m c1) (.slice (some ⟨b1,o1,none⟩) m c3) (.slice ad2 (cT 0 L).length c2) i) _ ⟨0,rfl,by omega,rfl,by simp⟩ ?_
  clear g0 g1 g2 g3 g9
  rintro n ⟨T,⟨x,G2⟩⟩ ⟨j,rfl,hj,hG,g0,g1,g2,g3,g9,g12⟩
  simp at hG g0 g1 g2 g3 g9 g12
  subst hG
  simp -implicitDefEqProofs[g0,g1,g2,g3,g9,g12]
  refine bR (λhc1=>?_) (λhc1=>?_)
  rotate_left
  .have e:j=i:=by omega
   subst e
   simp -implicitDefEqProofs[g0,g1,g2,g3,g9,g12,w1]
   exact⟨m-(j+1),by omega,j+1,rfl,by omega,rfl,by simp[g0,g1,g2,g3]⟩
  have hji:j<i:=by omega
  have hjm:j<m:=by omega
  have w2:=bO (i:=j) (by omega)
  have hkj:L[j]? =some L[j]:=aq (by omega)
  obtain⟨oj,hoj⟩:∃o,o=L[j]:=⟨_,rfl⟩
  rw[<-hoj]at hkj
  have hpj:(L.map (·.az))[j]? =some oj.az:=by rw[fx,hkj];rfl
  have hfj:(L.map (·.first))[j]? =some oj.first:=by rw[fx,hkj];rfl
  obtain⟨_,b4,o4,wb4,cs4,r4,ee,hb4,hd4,hl4,_⟩:=Hl.at 2 ko hpj
  simp only[av,Addr.mk.injEq,and_true]at ee
  obtain⟨rfl,rfl⟩:=ee
  rw[bN]at hb4
  simp only[aW.row.injEq,true_and]at hb4
  obtain⟨rfl,rfl⟩:=hb4
  have f1:(cs2.drop (o2+j*2)).take 2=ah oj.az:=by rw[hd4];rfl
  obtain⟨_,b5,o5,wb5,cs5,r5,ee,hb5,hd5,hl5,_⟩:=Hp.at 1 V.dY hfj
  simp only[av,Addr.mk.injEq,and_true]at ee
  obtain⟨rfl,rfl⟩:=ee
  rw[bD]at hb5
  simp only[aW.row.injEq,true_and]at hb5
  obtain⟨rfl,rfl⟩:=hb5
  rw[Nat.mul_one]at hd5 hl5
  have d2:cs1.drop (o1+j)= .int .i64 oj.first::r5:=hd5
  have l2:o1+j+1<=cs1.length:=by omega
  obtain⟨t1,t2,t3⟩:=H.at hkj
  have hne2:¬oj.first= -1:=by omega
  have hapt:=KH v M a o.az oj.az o.first oj.first (by omega) (by omega) G2 HH
  rw[s1,t1,H.two hji hkj hk]at hapt
  simp only[du,ah]at hapt f1 f0
  simp -implicitDefEqProofs[g0,g1,g2,g3,g9,g12,him,hjm,bD,d1,d2,l1,l2,hne,hne2,bN,f0,f1,hl2,hl4]
  refine cE hapt ?_
  simp -implicitDefEqProofs[aF,g0,g1,g2,g3,g9,g12,w2]
  intro _
  exact⟨i-(j+1),by omega,j+1,rfl,by omega,rfl,by simp[g0,g1,g2,g3,g9]⟩
def aju{v:ai}{L:List aB}{cs:List Value}{lv pv qv:Value}{h:aa}(hv:eC h v cs)(H:lO v (L.map pf))(hl:L.length<=512)(Hl:mT h lv (L.map (·.az)))(Hp:a8 h pv (L.map (·.first)))(Hq:vt h qv (cT 0 L)):
  al PP 62 [.agg ⟨cs⟩,lv,pv,qv] h (λr h'=>Ext h h'/\r= .int .i64 (-1)):=by
 refine aC Tryz.func62 ahw ?_;simp only[aA,Tryz.f62];have hnh:=acm v H.may cs h hv;obtain⟨C,hC⟩:=nm cs;have hCl:cs.length=5:=by obtain⟨s,k,p,rfl,_⟩:=hv;rfl
 have hCt:cs.take 5=cs:=b9 (by omega);have hls:(∃x y,lv= .slice x L.length y):=by obtain⟨x,y,e⟩:=Hl.shape;rw[cf]at e;exact⟨x,y,e⟩
 have hps:(∃x y,pv= .slice x L.length y):=by obtain⟨x,y,e⟩:=Hp.shape;rw[cf]at e;exact⟨x,y,e⟩
 have hqs:=Hq.shape;obtain⟨x1,y1,rfl⟩:=hls;obtain⟨x2,y2,rfl⟩:=hps;obtain⟨x3,y3,rfl⟩:=hqs;simp -implicitDefEqProofs[hCl,hCt];refine hnh.mono ?_;rintro r G ⟨E,a,rfl,HH⟩;have S:zJ G v a L _ _ _:=⟨HH,H,hl,Hl.ext E,Hp.ext E,Hq.ext E⟩;simp -implicitDefEqProofs[af];intro _;refine cE (aj8 S) ?_;simp -implicitDefEqProofs[af];intro _;refine cE (BY S) ?_;simp -implicitDefEqProofs[af];intro _;exact E
def ajZ{v:ai}{L:List aB}{cs:List Value}{lv pv qv:Value}{h:aa}(hv:eC h v cs)(H:lO v (L.map pf))(hl:L.length<=512)(Hl:mT h lv (L.map (·.az)))(Hp:a8 h pv (L.map (·.first)))(Hq:vt h qv (cT 0 L)):
  al PP 31 [.agg ⟨cs⟩,lv,pv,qv] h (λr h'=>Ext h h'/\r= .bool true):=by
 refine aC Tryz.func31 ag7 ?_;simp only[aA,Tryz.f31];have hw:=aju hv H hl Hl Hp Hq;have hCl:cs.length=5:=by obtain⟨s,k,p,rfl,_⟩:=hv;rfl
 have hCt:cs.take 5=cs:=b9 (by omega);obtain⟨x1,y1,rfl⟩:=Hl.shape;obtain⟨x2,y2,rfl⟩:=Hp.shape;obtain⟨x3,y3,rfl⟩:=Hq.shape;rw[cf,cf]at hw;simp -implicitDefEqProofs[hCl,hCt];refine hw.mono ?_;rintro r G ⟨E,rfl⟩;simp -implicitDefEqProofs[af];intro _;exact E
def Ug(h:aa)(lv pv:Value)(m n:Nat)(σ:St):Prop:=∃i:Nat,n=m-i/\i<=m/\σ.m.h=h/\σ.t.get 0=some lv/\σ.t.get 1=some pv/\σ.t.get 5=some (.int .i64 (i:Nat))
def ajP{L:List aB}{lv pv:Value}{h:aa}(hf:∀o∈L,0<=o.first)(hl:L.length<=1073741824)(Hl:mT h lv (L.map (·.az)))(Hp:a8 h pv (L.map (·.first))):
  al PP 30 [lv,pv] h (λr h'=>h'=h/\r= .bool true):=by
 refine aC Tryz.func30 ag6 ?_;simp only[aA,Tryz.f30];obtain⟨ad1,c1,rfl⟩:=Hl.shape;obtain⟨ad3,c3,rfl⟩:=Hp.shape;obtain⟨m,hm⟩:=nm L.length;have e1:(L.map (·.az)).length=m:=by rw[cf,hm]
 have e2:(L.map (·.first)).length=m:=by rw[cf,hm]
 rw[e1];rw[e2]at Hp ⊢;simp -implicitDefEqProofs;refine bG (Ug h (.slice ad1 m c1) (.slice ad3 m c3) m) _ ⟨0,rfl,by omega,rfl,by simp⟩ ?_;rintro n ⟨T,⟨x,G⟩⟩ ⟨i,rfl,hi,hG,g0,g1,g5⟩;simp at hG g0 g1 g5;subst hG;simp -implicitDefEqProofs[g0,g1,g5];refine bR (λhc=>?_) (λhc=>?_);rotate_left
 .simp -implicitDefEqProofs[g0,g1,g5]
 have him:i<m:=by omega
 have w1:=bO (i:=i) (by omega);have hk:L[i]? =some L[i]:=aq (by omega);obtain⟨o,ho⟩:=nm L[i];rw[<-ho]at hk;have hfk:(L.map (·.first))[i]? =some o.first:=by rw[fx,hk];rfl
 obtain⟨_,b1,o1,wb1,cs1,r1,rfl,bD,hd1,hl1,_⟩:=Hp.at 1 V.dY hfk;rw[Nat.mul_one]at hd1 hl1;have d1:cs1.drop (o1+i)= .int .i64 o.first::r1:=hd1;have l1:o1+i+1<=cs1.length:=by omega
 have hpos:=hf o (dE hk);have hneg:¬o.first<0:=by omega
 simp -implicitDefEqProofs[g0,g1,g5,him,bD,d1,l1,hneg,w1];exact⟨m-(i+1),by omega,i+1,rfl,by omega,rfl,by simp[g0,g1]⟩
end Go.Proofs.Ybk.K
namespace Go.Proofs.Ybk.K
open Go Go.Am
set_option maxHeartbeats 8000000
open V (au aR ai ao aZ ab bg aK aE cA cG a8 bL)
open F (cC)
def lL(A:List Int):aW:=.row true 59 (A.map (Value.int .i64))
def fA(A:List Int)(j:Int):Int:=A.getD j.toNat 0
def xQ{A:List Int}{e:Nat}(he:e<A.length)(z j:Int):fA (A.set e z) j=if j.toNat=e then z else fA A j:=by
 unfold fA;rw[bu,bu,List.getElem?_set];by_cases q:e=j.toNat
 .rw[if_pos q,if_pos q.symm,if_pos (q ▸ he)];rfl
 .rw[if_neg q,if_neg (λz=>q z.symm)]
def AO{l:List aB}(H:gV 0 l){k:Nat}{o:aB}(h:l[k]? =some o):o.id=(k:Int)+1:=by
 have:=(yJ H h).1;omega
def akC{b:aI}{A:List Int}(H:gV 0 b.l)(S:vu b.l (fA A))(h:∀(j:Nat)(o:aB),(bV b)[j]? =some o->o.state=2->fA A o.id=o.first+1):Seen b.l (fA A):=by
 refine⟨S.one,λk o hk hs=>?_,S.new⟩;have hm:o∈bV b:=Pf (dE hk) (by unfold bT;simp[hs]);obtain⟨j,hj,e⟩:=List.getElem_of_mem hm;have:=h j o (by rw[<-e];exact aq hj) hs;rwa[AO H hk]at this
def akB{b:aI}{A:List Int}(H:gV 0 b.l)(S:vu b.l (fA A)){kk:Nat}{o:aB}(hk:b.l[kk]? =some o)(hs:o.state=2)(he:kk+1<A.length):vu b.l (fA (A.set (kk+1) (o.first+1))):=by
 refine⟨λk x hx q=>?_,λk x hx q=>?_,λk hx=>?_⟩
 .rw[xQ he,if_neg]
  .exact S.one k x hx q
  .intro z;have:k=kk:=(by omega);subst this;rw[hk]at hx;simp only[av]at hx;rw[<-hx,hs]at q;cases q
 .rw[xQ he];split
  .rename_i z;have:k=kk:=(by omega);subst this;rw[hk]at hx;simp only[av]at hx;rw[<-hx];exact .inr rfl
  .exact S.two k x hx q
 .rw[xQ he,if_neg]
  .exact S.new k hx
  .have:=(cP.mp hk).1;omega
def aan(h:aa)(p:Nat):h.set p (h.f p)=h:=by
 have:(λx=>if x=p then h.f p else h.f x)=h.f:=by
  funext x;split
  .rename_i e;rw[e]
  .rfl
 show({h with f:=λx=>if x=p then h.f p else h.f x}:aa)=h;rw[this]
def Zo{h h':aa}{p:Nat}{X Y:aW}(E:Ext (h.set p X) h'):Ext (h.set p Y) (h'.set p Y):=by
 refine⟨E.g,E.n,λb hb=>?_⟩;have:=E.f b hb;rw[fI]at this;rw[fI,fI];split
 .rfl
 .rename_i q;rw[if_neg q]at this;exact this
def Ac{h h':aa}{p:Nat}{X:aW}(E:Ext (h.set p X) h'):cX [p] h h':=⟨E.g,E.n,λb hb hn=>by
 have:=E.f b hb;rw[fI,if_neg (λz=>hn (by simp[z]))]at this;exact this⟩
def Ow.base{α:Type}{e:TypeId}{enc:α->List Value}{h0 h0' h:aa}{o:Option Nat}{xs:List α}{v:Value}(W:Ow e enc h0 h o xs v)(hn:h0'.n=h0.n):Ow e enc h0' h o xs v:=by
 refine⟨W.1,?_⟩;have:=W.2;cases o with
 |none=>exact this
 |some b=>exact⟨this.1,by rw[hn];exact this.2.1,this.2.2⟩
def KI:xr PP 59=some (30,1):=by kernel_rfl
def J8(H0:aa)(a p:Nat)(cv lv:Value)(m n:Nat)(σ:St):Prop:=∃(i:Nat)(b:aI)(vc:List Value)(ov:Value)(o:Option Nat)(A:List Int),n=m-i/\i<=m/\bC H0 σ.m.h a b vc ov o/\p∉a::o.toList/\H0.n<=p/\p<σ.m.h.n/\σ.m.h.f p=lL A/\A.length=30/\
 eF i b/\Good b/\b.fuel=400/\Seen b.l (fA A)/\
 σ.t.get 0=some lv/\σ.t.get 1=some cv/\σ.t.get 5=some (.pointer (some ⟨a,0,none⟩))/\σ.t.get 6=some (.pointer (some ⟨p,0,none⟩))/\σ.t.get 7=some (.int .i64 (i:Nat))
def CR(a p i:Nat)(cv lv sv:Value)(hb:Bool)(cs:List Value)(v1 v2 v3:Value)(k:Nat)(σ:St):Prop:=
 σ.t.get 0=some lv/\σ.t.get 1=some cv/\σ.t.get 5=some (.pointer (some ⟨a,0,none⟩))/\σ.t.get 6=some (.pointer (some ⟨p,0,none⟩))/\σ.t.get 7=some (.int .i64 (i:Nat))/\σ.t.get 9=some sv/\σ.t.get 10=some (.pointer (some ⟨10,0,some 0⟩))/\σ.t.get 11=some (.bool hb)/\
 σ.t.get 12=some v1/\σ.t.get 13=some v2/\σ.t.get 14=some v3/\σ.t.get 15=some (.int .i64 (k:Nat))/\σ.m.x.look 10=some (63,cs)
def UA(Hs:aa)(b:aI)(L:List aB)(a p i:Nat)(cv lv sv:Value)(hb:Bool)(cs:List Value)(m n:Nat)(σ:St):Prop:=∃(k:Nat)(A:List Int)(o1 o2 o3:Option Nat)(v1 v2 v3:Value),n=m-k/\k<=m/\Ext (Hs.set p (lL A)) σ.m.h/\A.length=30/\vu b.l (fA A)/\
 (∀(j:Nat)(o:aB),j<k->L[j]? =some o->o.state=2->fA A o.id=o.first+1)/\Ow 29 ah Hs σ.m.h o1 (lJ L k) v1/\Ow 3 ab Hs σ.m.h o2 (lG L k) v2/\Ow 69 ik Hs σ.m.h o3 (cT 0 (L.take k)) v3/\CR a p i cv lv sv hb cs v1 v2 v3 k σ
def M8(K:aa)(L:List aB)(a p i:Nat)(cv lv sv:Value)(hb:Bool)(cs:List Value)(k:Nat)(σ:St):Prop:=∃(o1 o2 o3:Option Nat)(v1 v2 v3:Value),Ext K σ.m.h/\Ow 29 ah K σ.m.h o1 (lJ L (k+1)) v1/\Ow 3 ab K σ.m.h o2 (lG L (k+1)) v2/\Ow 69 ik K σ.m.h o3 (cT 0 (L.take k)) v3/\CR a p i cv lv sv hb cs v1 v2 v3 k σ
def UB(H:aa)(a p i:Nat)(cv lv sv:Value)(m n:Nat)(σ:St):Prop:=∃k:Nat,n=m-k/\k<=m/\σ.m.h=H/\σ.t.get 0=some lv/\σ.t.get 1=some cv/\σ.t.get 5=some (.pointer (some ⟨a,0,none⟩))/\σ.t.get 6=some (.pointer (some ⟨p,0,none⟩))/\σ.t.get 7=some (.int .i64 (i:Nat))/\σ.t.get 9=some sv/\σ.t.get 17=some (.int .i64 (k:Nat))
def aiK(l:List Int)(cs:List CmdR)(lv cv:Value)(hl:l.length<=4611686018427387904)(hcl:cs.length<=9223372036854775807)(h:aa)(G:cC h)(Hl:a8 h lv l)(Hc:vo h cv cs):
  al PP 8 [lv,cv] h (λr h'=>Ext h h'/\r= .bool true):=by
 refine aC Tryz.func8 ahL ?_;simp only[aA,Tryz.f8];have hfew:=Av cv cs 25 hcl h Hc;obtain⟨ad1,c1,rfl⟩:=Hl.shape;obtain⟨ad2,c2,rfl⟩:=Hc.shape;have hr1:List.range 1=[0]:=rfl;have hr2:List.range 2=[0,1]:=rfl;simp -implicitDefEqProofs;refine hfew.mono ?_;clear hfew;rintro r H0 ⟨rfl,rfl⟩;simp -implicitDefEqProofs[af];intro _;by_cases q:pa cs 25=true;rotate_left
 .simp only[mq]at q;simp -implicitDefEqProofs[af,q];refine(vk H0 G).mono ?_;rintro r H2 ⟨E,rfl⟩;simp -implicitDefEqProofs[af];intro _;exact E
 simp -implicitDefEqProofs[af,q];refine(rz 400 (by decide) (by decide) H0).mono ?_;rintro r H1 ⟨a,vc,ov,rfl,B⟩;obtain⟨q1,q2⟩:(∀c∈cs,c.text.length<=300)/\cs.length<=25:=by
  unfold pa at q;simp at q;exact⟨q.1,by omega⟩
 obtain⟨m,hm⟩:=nm cs.length;rw[<-hm]at Hc q2 ⊢;obtain⟨p,hp⟩:=nm H1.n;simp -implicitDefEqProofs[af];intro _;rw[<-hp];refine bG (J8 H0 a p (.slice ad2 m c2) (.slice ad1 l.length c1) m) _ ⟨0,eP 400,vc,ov,none,List.replicate 30 0,rfl,by omega,B.exts (Ext.new _ _),?_,by rw[hp];exact B.ext.n,by rw[hp];simp,by rw[hp];simp[lL],rfl,wq 400 (by decide) (by decide),KC 400,rfl,⟨λk o h=>by simp[eP]at h,λk o h=>by simp[eP]at h,λk _=>?_⟩,by simp,by simp,by simp,by simp,by simp⟩ ?_
 .have:=B.a1;simp;omega
 .unfold fA;rw[bu,List.getElem?_replicate];split<;>rfl
 clear B vc ov q hp;rintro n0 ⟨T,⟨x,F⟩⟩ ⟨i,b,vc,ov,o,A,rfl,hi,B,hpo,hp0,hp1,hrow,hA30,OKb,GDb,hfu,SN,g0,g1,g5,g6,g7⟩;simp at B hp0 hp1 hrow g0 g1 g5 g6 g7;simp -implicitDefEqProofs[g0,g1,g5,g6,g7];refine bR (λhc=>?_) (λhc=>?_);rotate_left
 .simp -implicitDefEqProofs;refine(vk F (G.ext B.ext)).mono ?_;rintro r H2 ⟨E,rfl⟩;simp -implicitDefEqProofs[af];intro _;exact B.ext.trans E
 have hil:i<m:=by omega
 have hti:cs[i]? =some cs[i]:=aq (by omega);obtain⟨_,bb,oo,wb,cl,r,rfl,hb,hd,hlc,_⟩:=(Hc.ext B.ext).at 5 oV hti;obtain⟨t,ht⟩:=nm cs[i];rw[<-ht]at hd hti;have htx:=q1 t (dE hti);have hlc':oo+i*5+5<=cl.length:=by omega
 have hd5:List.take 5 (List.drop (oo+i*5) cl)=cmdC t:=by rw[hd];rfl
 have hfit:=AA t htx (i:Nat) l hl _ F (Hl.ext B.ext);have w3:=bO (i:=i) (by omega);simp only[cH]at hfit;simp -implicitDefEqProofs[g0,g1,g5,g6,g7,hil,hb,hd5,hlc'];refine hfit.mono ?_;clear hfit;rintro r1 H2 ⟨E2,t',rfl,htx'⟩;have B2:=B.exts E2;have hrow2:H2.f p=lL A:=by rw[E2.f p hp1,hrow]
 have hp2:p<H2.n:=cV hp1 E2.n;clear hd5 hd hb hlc hlc' hrow hp1;simp -implicitDefEqProofs[af,cH,cmdC];intro _;by_cases hx:t'.kind=1/\0<i
 .have hx2:(0:Int)<(i:Int):=by omega
  simp -implicitDefEqProofs[eq_true hx.1,hx.2,hx2,g0,g1,g5,g6,g7,w3];exact⟨m-(i+1),by omega,i+1,b,vc,ov,o,A,rfl,by omega,B2,by simpa using hpo,hp0,hp2,hrow2,hA30,OKb.mono (by omega),GDb,hfu,SN,by simp[g0],by simp[g1],by simp[g5],by simp[g6],by simp⟩
 by_cases k1:t'.kind=1;have hx2:¬(0:Int)<(i:Int):=by omega
 have hx3:¬0<i:=by omega
 simp -implicitDefEqProofs[eq_true k1,hx2,hx3,g0,g1,g5,g6,g7];rotate_left;simp -implicitDefEqProofs[k1,g0,g1,g5,g6,g7];all_goals
  have hdo:=xK OKb (by omega) 801 (by rw[hfu];decide) t' (by omega) G B2
  simp only[cH,cmdC]at hdo
  refine hdo.mono ?_
  clear hdo
  intro r3 H4 HD
  obtain⟨⟨vc4,ov4,o4,B4,C4,D4⟩,ad4,n4,cc4,ad5,n5,c5,rfl,e4,S4,e5,S5⟩:=HD.r
  have hn2:2*b.fuel.toNat+1<=801:=by rw[hfu];decide
  have OK4:=oY 801 t' OKb
  have GD4:=xX GDb OKb hn2 t'
  have F4:=Ak 801 b t'
  have SK4:=akA SN (alC (n:=801) GDb OKb t') (um 801 b t').len
  clear HD S4 e4 e5 S5
  obtain⟨b',R,hbR⟩:∃b' R,bZ 801 b t'=(b',R):=⟨_,_,rfl⟩
  rw[hbR]at OK4 GD4 F4 SK4 B4
  simp only at OK4 GD4 F4 SK4 B4
  rw[hbR]
  have hpo4:p∉a::o4.toList:=by
   intro z;rcases cJ.1 z with e|z
   .exact hpo (by simp[e])
   .rcases D4 p (by simpa using z)with e|e
    .exact hpo (by simp[e])
    .omega
  have hrow4:H4.f p=lL A:=by rw[C4.f p hp2 (by simpa using hpo),hrow2]
  have hp4:p<H4.n:=cV hp2 C4.n
  have hlen4:=OK4.len
  clear C4 D4 hbR
  simp -implicitDefEqProofs[af]
  intro _
  refine(uL (by omega) B4).mono ?_
  rintro r5 H5 ⟨E5,SL⟩
  obtain⟨ad6,c6,rfl⟩:=SL.shape
  have B5:=B4.exts E5
  obtain⟨L,hL⟩:=nm (bV b')
  have hLn:L.length<=26:=by rw[hL];exact eY (List.length_filter_le _ _) (by omega)
  rw[<-hL]at SL ⊢
  obtain⟨k6,hk6⟩:∃k,k=L.length:=⟨_,rfl⟩
  rw[<-hk6]at SL ⊢
  simp -implicitDefEqProofs[af,g0,g1,g5,g6,g7]
  intro _
  refine(aoe OK4.may B5).mono ?_
  rintro r6 Hs ⟨E6,hven⟩
  have Bs:=B5.exts E6
  have SLs:=SL.ext E6
  have hps:p<Hs.n:=cV (cV hp4 E5.n) E6.n
  have hrows:Hs.f p=lL A:=by rw[E6.f p (cV hp4 E5.n),E5.f p hp4,hrow4]
  have hven2:∃vv,r6= .tuple #[.agg ⟨vv⟩,.bool b'.has]/\(∃x1 n1 y1 gg rr x2 n2 y2 x3 n3 y3,vv=[.slice x1 n1 y1,.int .i64 gg,.int .i64 rr,.slice x2 n2 y2,.slice x3 n3 y3])/\(b'.has=true->eC Hs b'.v vv):=by
   by_cases qh:b'.has=true
   .rw[if_pos qh]at hven;obtain⟨vv,hv1,rfl⟩:=hven;have hv1':=hv1;obtain⟨s,k,pp,rfl,z1,z2,z3⟩:=hv1;obtain⟨u1,u2,rfl⟩:=z1.shape;obtain⟨u3,u4,rfl⟩:=z2.shape;obtain⟨u5,u6,rfl⟩:=z3.shape;exact⟨_,by rw[qh],⟨_,_,_,_,_,_,_,_,_,_,_,rfl⟩,λ_=>hv1'⟩
   .rw[if_neg qh]at hven;exact⟨V.jv,by rw[hven];simp at qh;rw[qh],⟨_,_,_,_,_,_,_,_,_,_,_,rfl⟩,λz=>absurd z qh⟩
  obtain⟨vv,rfl,⟨x1,n1,y1,gg,rr,x2,n2,y2,x3,n3,y3,hvv⟩,hvF⟩:=hven2
  have hvl:vv.length=5:=by rw[hvv];rfl
  have hvt:vv.take 5=vv:=b9 (by omega)
  have hKs:Hs.set p (lL A)=Hs:=by rw[<-hrows];exact aan Hs p
  have RS:gZ [p] Hs:=nQ (e:=59) (cs:=A.map (Value.int .i64)) hrows
  clear E5 E6 B4 B5 SL hp4 hrow4 hven hp2 hrow2 B2 E2 SN
  rw[hvv]
  simp -implicitDefEqProofs[af,g0,g1,g5,g6,g7]
  intro _
  rw[<-hvv]
  refine bG (UA Hs b' L a p i (.slice (some ⟨bb,oo,none⟩) m c2) (.slice ad1 l.length c1) (.slice ad6 k6 c6) b'.has vv k6) _ ⟨0,A,none,none,none,_,_,_,rfl,by omega,by rw[hKs];exact Ext.bJ _,hA30,SK4,λj o hj=>by omega,Ow.nil,Ow.nil,Ow.nil,by simp,by simp,by simp,by simp,by simp,by simp,by simp,by simp,by simp,by simp,by simp,by simp,by simp[hvv]⟩ ?_
  clear SK4 hA30 hrows hKs g0 g1 g5 g6 g7
  rintro n1 ⟨T,⟨x,G⟩⟩ ⟨k,A,o1,o2,o3,v1,v2,v3,rfl,hk,E,hA30,SK,SD,W1,W2,W3,g0,g1,g5,g6,g7,g9,g10,g11,g12,g13,g14,g15,x10⟩
  simp at E W1 W2 W3 g0 g1 g5 g6 g7 g9 g10 g11 g12 g13 g14 g15 x10
  have Cp:=Ac E
  obtain⟨rfl,_⟩:=id W1
  obtain⟨rfl,_⟩:=id W2
  obtain⟨rfl,_⟩:=id W3
  have l1:=Bx L k (by omega)
  have l2:=Az L k (by omega)
  simp -implicitDefEqProofs[g0,g1,g5,g6,g7,g9,g10,g11,g12,g13,g14,g15,x10]
  refine bR (λhc1=>?_) (λhc1=>?_)
  .have him:k<k6:=by omega
   have hti:L[k]? =some L[k]:=aq (by omega)
   obtain⟨t,ht⟩:=nm L[k]
   rw[<-ht]at hti
   have SG:=SLs.er Cp RS
   obtain⟨_,bo,oi,co,ro,rfl,hbo,hdo,hlo,hbl⟩:=SG.at 6 iA hti
   have hbn:¬bo=G.n:=by omega
   have p2:(co.drop (oi+k*6+2)).take 2=ah t.az:=by rw[<-eh,hdo];rfl
   have p5:co.drop (oi+k*6+5)= .int .i64 t.first::ro:=by rw[<-eh,hdo];rfl
   have v8:oi+k*6+2+2<=co.length:=by omega
   have lo5:oi+k*6+5+1<=co.length:=by omega
   have lo2':oi+k*6+4<=co.length:=by omega
   have lo5':oi+k*6+6<=co.length:=by omega
   simp only[ah]at p2
   obtain⟨K,hK⟩:=nm (Hs.set p (lL A))
   have hKn:K.n=Hs.n:=by rw[hK];rfl
   rw[<-hK]at E
   replace W1:=Ow.base W1 hKn
   replace W2:=Ow.base W2 hKn
   replace W3:=Ow.base W3 hKn
   obtain⟨A1,hA1⟩:=nm ((lJ L k).flatMap ah++ah t.az)
   obtain⟨A2,hA2⟩:=nm ((lG L k).flatMap ab++ab t.first)
   simp -implicitDefEqProofs[g0,g1,g5,g6,g7,g9,g10,g11,g12,g13,g14,g15,x10,him,hbo,p2,p5,v8,lo5,lo2',lo5',hlo]
   refine vy (M8 K L a p i (.slice (some ⟨bb,oo,none⟩) m c2) (.slice ad1 l.length c1) (.slice (some ⟨bo,oi,none⟩) k6 c6) b'.has vv k) ?_ ?_
   .rw[iU,iU,iU,tY]
    refine⟨?_,?_,?_,trivial⟩
    .have hbn1:¬bo=G.n+1:=by omega
     have Lo0:G.f bo=_/\bo<G.n:=⟨hbo,hbl⟩
     have W1k1:=W1.ext (Ext.new G (.row true 29 (ah t.az)))
     have W2k1:=W2.ext (Ext.new G (.row true 29 (ah t.az)))
     have W3k1:=W3.ext (Ext.new G (.row true 29 (ah t.az)))
     have Lo1:=fN Lo0 (Ext.new G (.row true 29 (ah t.az)))
     have La:=fO G (.row true 29 (ah t.az))
     have E1:=Ext.bI E (.row true 29 (ah t.az))
     have hA:=fM k9 W1k1 t.az _ La.1 (by rw[l1];omega)
     rw[<-hA1]at hA
     have N2:=Ow.ne W2k1 W1k1 (by decide)
     have N32:=Ow.ne W3k1 W1k1 (by decide)
     have W1n:=Ow.app W1k1 (E1).n [t.az] (cells:=A1) (by rw[hA1];simp) rfl
     have W2k2:=Ow.other (β:=Int) (e':=3) (enc':=ab) (ys:=[]) (u:=.bool true) W2k1 N2 (.row true 29 A1)
     have W3k2:=Ow.other (β:=Int) (e':=3) (enc':=ab) (ys:=[]) (u:=.bool true) W3k1 N32 (.row true 29 A1)
     have Lo2:=lj (o:=o1) (c:=(.row true 29 A1)) Lo1 (λz=>by have q:=W1k1;rw[z]at q;have q2:=Ow.row q;rw[Lo1.1]at q2;cases q2)
     have E2:=Ext.app E1 (o:=o1) (λb hb=>⟨(W1k1.lt b hb).1,(W1k1.lt b hb).2⟩) (.row true 29 A1)
     have Ne3:¬bo=(bY (G.new (.row true 29 (ah t.az))) o1 (.row true 29 A1)).n:=by have:=Lo2.2;omega
     try simp only[ah,V.ab]at Ne3
     have W1k3:=W1n.ext (Ext.new (bY (G.new (.row true 29 (ah t.az))) o1 (.row true 29 A1)) (.row true 3 (ab t.first)))
     have W2k3:=W2k2.ext (Ext.new (bY (G.new (.row true 29 (ah t.az))) o1 (.row true 29 A1)) (.row true 3 (ab t.first)))
     have W3k3:=W3k2.ext (Ext.new (bY (G.new (.row true 29 (ah t.az))) o1 (.row true 29 A1)) (.row true 3 (ab t.first)))
     have Lo3:=fN Lo2 (Ext.new (bY (G.new (.row true 29 (ah t.az))) o1 (.row true 29 A1)) (.row true 3 (ab t.first)))
     have Lb:=fO (bY (G.new (.row true 29 (ah t.az))) o1 (.row true 29 A1)) (.row true 3 (ab t.first))
     have E3:=Ext.bI E2 (.row true 3 (ab t.first))
     have hB:=fM ni W2k3 t.first _ Lb.1 (by rw[l2];omega)
     rw[<-hA2]at hB
     have N4:=Ow.ne W1k3 W2k3 (by decide)
     have N34:=Ow.ne W3k3 W2k3 (by decide)
     have W2n:=Ow.app W2k3 (E3).n [t.first] (cells:=A2) (by rw[hA2];simp) rfl
     have W1k4:=Ow.other (β:=Int) (e':=3) (enc':=ab) (ys:=[]) (u:=.bool true) W1k3 N4 (.row true 3 A2)
     have W3k4:=Ow.other (β:=Int) (e':=3) (enc':=ab) (ys:=[]) (u:=.bool true) W3k3 N34 (.row true 3 A2)
     have Lo4:=lj (o:=o2) (c:=(.row true 3 A2)) Lo3 (λz=>by have q:=W2k3;rw[z]at q;have q2:=Ow.row q;rw[Lo3.1]at q2;cases q2)
     have E4:=Ext.app E3 (o:=o2) (λb hb=>⟨(W2k3.lt b hb).1,(W2k3.lt b hb).2⟩) (.row true 3 A2)
     simp only[ah,V.ab]at hA hB Lo1 Lo2 Lo3 Lo4
     simp -implicitDefEqProofs[aF,g0,g1,g5,g6,g7,g9,g10,g11,g12,g13,g14,g15,x10,him,hbo,p2,p5,v8,lo5,lo2',lo5',hlo,aM,hr1,hr2,hA,hB,hbn,Lo1,Lo2,Lo3,Lo4,hbn1,Ne3]
     have P1:=W1k4
     rw[<-uT L k hti]at P1
     have P2:=W2n
     rw[<-uA L k hti]at P2
     exact⟨_,_,o3,_,_,_,E4,P1,P2,W3k4,by simp[cW,g0],by simp[cW,g1],by simp[g5],by simp[g6],by simp[g7],by simp[g9],by simp[g10],by simp[g11],by simp[ah,V.ab],by simp[ah,V.ab],by simp[g14],by simp[g15],by simp[x10]⟩
    .have hbn1:¬bo=G.n+1:=by omega
     have Lo0:G.f bo=_/\bo<G.n:=⟨hbo,hbl⟩
     have W1k1:=W1.ext (Ext.new G (.row true 29 (ah t.az)))
     have W2k1:=W2.ext (Ext.new G (.row true 29 (ah t.az)))
     have W3k1:=W3.ext (Ext.new G (.row true 29 (ah t.az)))
     have Lo1:=fN Lo0 (Ext.new G (.row true 29 (ah t.az)))
     have La:=fO G (.row true 29 (ah t.az))
     have E1:=Ext.bI E (.row true 29 (ah t.az))
     have Ne2:¬bo=(G.new (.row true 29 (ah t.az))).n:=by have:=Lo1.2;omega
     try simp only[ah,V.ab]at Ne2
     have W1k2:=W1k1.ext (Ext.new (G.new (.row true 29 (ah t.az))) (.row true 3 (ab t.first)))
     have W2k2:=W2k1.ext (Ext.new (G.new (.row true 29 (ah t.az))) (.row true 3 (ab t.first)))
     have W3k2:=W3k1.ext (Ext.new (G.new (.row true 29 (ah t.az))) (.row true 3 (ab t.first)))
     have Lak2:=fN La (Ext.new (G.new (.row true 29 (ah t.az))) (.row true 3 (ab t.first)))
     have Lo2:=fN Lo1 (Ext.new (G.new (.row true 29 (ah t.az))) (.row true 3 (ab t.first)))
     have Lb:=fO (G.new (.row true 29 (ah t.az))) (.row true 3 (ab t.first))
     have E2:=Ext.bI E1 (.row true 3 (ab t.first))
     have hA:=fM k9 W1k2 t.az _ Lak2.1 (by rw[l1];omega)
     rw[<-hA1]at hA
     have N3:=Ow.ne W2k2 W1k2 (by decide)
     have N33:=Ow.ne W3k2 W1k2 (by decide)
     have W1n:=Ow.app W1k2 (E2).n [t.az] (cells:=A1) (by rw[hA1];simp) rfl
     have W2k3:=Ow.other (β:=Int) (e':=3) (enc':=ab) (ys:=[]) (u:=.bool true) W2k2 N3 (.row true 29 A1)
     have W3k3:=Ow.other (β:=Int) (e':=3) (enc':=ab) (ys:=[]) (u:=.bool true) W3k2 N33 (.row true 29 A1)
     have Lbk3:=lj (o:=o1) (c:=(.row true 29 A1)) Lb (λz=>by have q:=(W1.lt _ z).2;simp[cW]at q<;>omega)
     have Lo3:=lj (o:=o1) (c:=(.row true 29 A1)) Lo2 (λz=>by have q:=W1k2;rw[z]at q;have q2:=Ow.row q;rw[Lo2.1]at q2;cases q2)
     have E3:=Ext.app E2 (o:=o1) (λb hb=>⟨(W1k2.lt b hb).1,(W1k2.lt b hb).2⟩) (.row true 29 A1)
     have hB:=fM ni W2k3 t.first _ Lbk3.1 (by rw[l2];omega)
     rw[<-hA2]at hB
     have N4:=Ow.ne W1n W2k3 (by decide)
     have N34:=Ow.ne W3k3 W2k3 (by decide)
     have W2n:=Ow.app W2k3 (E3).n [t.first] (cells:=A2) (by rw[hA2];simp) rfl
     have W1k4:=Ow.other (β:=Int) (e':=3) (enc':=ab) (ys:=[]) (u:=.bool true) W1n N4 (.row true 3 A2)
     have W3k4:=Ow.other (β:=Int) (e':=3) (enc':=ab) (ys:=[]) (u:=.bool true) W3k3 N34 (.row true 3 A2)
     have Lo4:=lj (o:=o2) (c:=(.row true 3 A2)) Lo3 (λz=>by have q:=W2k3;rw[z]at q;have q2:=Ow.row q;rw[Lo3.1]at q2;cases q2)
     have E4:=Ext.app E3 (o:=o2) (λb hb=>⟨(W2k3.lt b hb).1,(W2k3.lt b hb).2⟩) (.row true 3 A2)
     simp only[ah,V.ab]at hA hB Lo1 Lo2 Lo3 Lo4
     simp -implicitDefEqProofs[aF,g0,g1,g5,g6,g7,g9,g10,g11,g12,g13,g14,g15,x10,him,hbo,p2,p5,v8,lo5,lo2',lo5',hlo,aM,hr1,hr2,hA,hB,hbn,Lo1,Lo2,Lo3,Lo4,hbn1,Ne2]
     have P1:=W1k4
     rw[<-uT L k hti]at P1
     have P2:=W2n
     rw[<-uA L k hti]at P2
     exact⟨_,_,o3,_,_,_,E4,P1,P2,W3k4,by simp[cW,g0],by simp[cW,g1],by simp[g5],by simp[g6],by simp[g7],by simp[g9],by simp[g10],by simp[g11],by simp[ah,V.ab],by simp[ah,V.ab],by simp[g14],by simp[g15],by simp[x10]⟩
    .have hbn1:¬bo=G.n+1:=by omega
     have Lo0:G.f bo=_/\bo<G.n:=⟨hbo,hbl⟩
     have W1k1:=W1.ext (Ext.new G (.row true 3 (ab t.first)))
     have W2k1:=W2.ext (Ext.new G (.row true 3 (ab t.first)))
     have W3k1:=W3.ext (Ext.new G (.row true 3 (ab t.first)))
     have Lo1:=fN Lo0 (Ext.new G (.row true 3 (ab t.first)))
     have Lb:=fO G (.row true 3 (ab t.first))
     have E1:=Ext.bI E (.row true 3 (ab t.first))
     have Ne2:¬bo=(G.new (.row true 3 (ab t.first))).n:=by have:=Lo1.2;omega
     try simp only[ah,V.ab]at Ne2
     have W1k2:=W1k1.ext (Ext.new (G.new (.row true 3 (ab t.first))) (.row true 29 (ah t.az)))
     have W2k2:=W2k1.ext (Ext.new (G.new (.row true 3 (ab t.first))) (.row true 29 (ah t.az)))
     have W3k2:=W3k1.ext (Ext.new (G.new (.row true 3 (ab t.first))) (.row true 29 (ah t.az)))
     have Lbk2:=fN Lb (Ext.new (G.new (.row true 3 (ab t.first))) (.row true 29 (ah t.az)))
     have Lo2:=fN Lo1 (Ext.new (G.new (.row true 3 (ab t.first))) (.row true 29 (ah t.az)))
     have La:=fO (G.new (.row true 3 (ab t.first))) (.row true 29 (ah t.az))
     have E2:=Ext.bI E1 (.row true 29 (ah t.az))
     have hA:=fM k9 W1k2 t.az _ La.1 (by rw[l1];omega)
     rw[<-hA1]at hA
     have N3:=Ow.ne W2k2 W1k2 (by decide)
     have N33:=Ow.ne W3k2 W1k2 (by decide)
     have W1n:=Ow.app W1k2 (E2).n [t.az] (cells:=A1) (by rw[hA1];simp) rfl
     have W2k3:=Ow.other (β:=Int) (e':=3) (enc':=ab) (ys:=[]) (u:=.bool true) W2k2 N3 (.row true 29 A1)
     have W3k3:=Ow.other (β:=Int) (e':=3) (enc':=ab) (ys:=[]) (u:=.bool true) W3k2 N33 (.row true 29 A1)
     have Lbk3:=lj (o:=o1) (c:=(.row true 29 A1)) Lbk2 (λz=>by have q:=(W1.lt _ z).2;simp[cW]at q<;>omega)
     have Lo3:=lj (o:=o1) (c:=(.row true 29 A1)) Lo2 (λz=>by have q:=W1k2;rw[z]at q;have q2:=Ow.row q;rw[Lo2.1]at q2;cases q2)
     have E3:=Ext.app E2 (o:=o1) (λb hb=>⟨(W1k2.lt b hb).1,(W1k2.lt b hb).2⟩) (.row true 29 A1)
     have hB:=fM ni W2k3 t.first _ Lbk3.1 (by rw[l2];omega)
     rw[<-hA2]at hB
     have N4:=Ow.ne W1n W2k3 (by decide)
     have N34:=Ow.ne W3k3 W2k3 (by decide)
     have W2n:=Ow.app W2k3 (E3).n [t.first] (cells:=A2) (by rw[hA2];simp) rfl
     have W1k4:=Ow.other (β:=Int) (e':=3) (enc':=ab) (ys:=[]) (u:=.bool true) W1n N4 (.row true 3 A2)
     have W3k4:=Ow.other (β:=Int) (e':=3) (enc':=ab) (ys:=[]) (u:=.bool true) W3k3 N34 (.row true 3 A2)
     have Lo4:=lj (o:=o2) (c:=(.row true 3 A2)) Lo3 (λz=>by have q:=W2k3;rw[z]at q;have q2:=Ow.row q;rw[Lo3.1]at q2;cases q2)
     have E4:=Ext.app E3 (o:=o2) (λb hb=>⟨(W2k3.lt b hb).1,(W2k3.lt b hb).2⟩) (.row true 3 A2)
     simp only[ah,V.ab]at hA hB Lo1 Lo2 Lo3 Lo4
     simp -implicitDefEqProofs[aF,g0,g1,g5,g6,g7,g9,g10,g11,g12,g13,g14,g15,x10,him,hbo,p2,p5,v8,lo5,lo2',lo5',hlo,aM,hr1,hr2,hA,hB,hbn,Lo1,Lo2,Lo3,Lo4,hbn1,Ne2]
     have P1:=W1k4
     rw[<-uT L k hti]at P1
     have P2:=W2n
     rw[<-uA L k hti]at P2
     exact⟨_,_,o3,_,_,_,E4,P1,P2,W3k4,by simp[cW,g0],by simp[cW,g1],by simp[g5],by simp[g6],by simp[g7],by simp[g9],by simp[g10],by simp[g11],by simp[ah,V.ab],by simp[ah,V.ab],by simp[g14],by simp[g15],by simp[x10]⟩
   .rintro⟨T,⟨x,G⟩⟩ ⟨o1,o2,o3,v1,v2,v3,E,W1,W2,W3,g0,g1,g5,g6,g7,g9,g10,g11,g12,g13,g14,g15,x10⟩
    simp at E W1 W2 W3 g0 g1 g5 g6 g7 g9 g10 g11 g12 g13 g14 g15 x10
    obtain⟨rfl,_⟩:=id W1
    obtain⟨rfl,_⟩:=id W2
    obtain⟨rfl,_⟩:=id W3
    have Cp:cX [p] Hs G:=Ac (by rw[<-hK];exact E)
    have SG2:=SLs.er Cp RS
    obtain⟨_,bq,oq,cq,rq,ee,hbq,hdq,hlq,_⟩:=SG2.at 6 iA hti
    simp only[av,Addr.mk.injEq,and_true]at ee
    obtain⟨rfl,rfl⟩:=ee
    have p0:cq.drop (oi+k*6)= .int .i64 t.id::(aP t).tail++rq:=by rw[hdq];rfl
    have p1:cq.drop (oi+k*6+1)= .int .i64 t.state::(aP t).tail.tail++rq:=by rw[<-eh,hdq];rfl
    have p5:cq.drop (oi+k*6+5)= .int .i64 t.first::rq:=by rw[<-eh,hdq];rfl
    have lq1:oi+k*6+1+1<=cq.length:=by omega
    have lq5:oi+k*6+5+1<=cq.length:=by omega
    have lq0:oi+k*6+1<=cq.length:=by omega
    have lq1':oi+k*6+2<=cq.length:=by omega
    have lq5':oi+k*6+6<=cq.length:=by omega
    have w5:=bO (i:=k) (by omega)
    have hps':=QE L k hti
    have hpl3:=wG 0 (L.take k)
    rw[dh]at hpl3
    have l1':=Bx L (k+1) (by omega)
    have l2':=Az L (k+1) (by omega)
    have htl:t∈bV b':=by rw[<-hL];exact dE hti
    by_cases q2:t.state=2
    rotate_left
    .rw[if_neg q2,pO]at hps'
     simp -implicitDefEqProofs[g0,g1,g5,g6,g7,g9,g10,g11,g12,g13,g14,g15,x10,him,hbq,p0,p1,lq0,lq1,lq1',hlq,q2,w5]
     exact⟨k6-(k+1),by omega,k+1,A,o1,o2,o3,_,_,_,rfl,by omega,by rw[<-hK];exact E,hA30,SK,λj o hj ho hs=>by
      rcases Nat.lt_or_ge j k with z|z
      .exact SD j o z ho hs
      .have:j=k:=(by omega);subst this;rw[hti]at ho;simp only[av]at ho;rw[<-ho]at hs;exact absurd hs q2,Ow.base W1 hKn.symm,Ow.base W2 hKn.symm,by rw[hps'];exact Ow.base W3 hKn.symm,by simp[g0],by simp[g1],by simp[g5],by simp[g6],by simp[g7],by simp[g9],by simp[g10],by simp[g11],by simp[g12],by simp[g13],by simp[g14],by simp,by simp[x10]⟩
    rw[if_pos q2]at hps'
    obtain⟨kk,hkk,hte⟩:=List.getElem_of_mem (gS.1 htl).1
    have hkt:b'.l[kk]? =some t:=by rw[<-hte];exact aq hkk
    have hid:=AO GD4.ids hkt
    obtain⟨e,he⟩:=nm (kk+1)
    have hid2:t.id=(e:Int):=by omega
    have he30:e<30:=by omega
    have he30':¬(30:Int)<=(e:Int):=by omega
    have he30i:(e:Int)<30:=by omega
    have he1:¬(e:Int)<1:=by omega
    obtain⟨_,_,SP⟩:=GD4.live (λz=>by rw[z]at htl;cases htl)
    obtain⟨_,f0,f1⟩:=SP.at (L:=bV b') (k:=k) (o:=t) (by rw[<-hL];exact hti)
    have hz:=SK.two kk t hkt q2
    have hfe:fA A ((kk:Int)+1)=A.getD e 0:=by unfold fA;congr 1;omega
    rw[hfe]at hz
    obtain⟨z,hzz⟩:=nm (A.getD e 0)
    rw[<-hzz]at hz
    obtain⟨C,hC⟩:=nm (A.map (Value.int .i64))
    have hCl:C.length=30:=by rw[hC,cf,hA30]
    have hCe:∃rest,C.drop e= .int .i64 z::rest:=by
     have hlt:e<C.length:=(by omega);refine⟨C.drop (e+1),?_⟩;rw[gQ hlt];congr 1;simp only[hC,List.getElem_map];rw[hzz,bu,aq (by omega),iH]
    obtain⟨rest,hCe⟩:=hCe
    have hts:=mO (Value.int .i64) A e (t.first+1) (by omega)
    rw[<-hC]at hts
    have w6:IntKind.wrap .i64 (t.first+1)=t.first+1:=bB (by omega)
    have hA:=iV Ka W3 ((k:Int),t.first) (by omega)
    obtain⟨A3,hA3⟩:=nm ((cT 0 (L.take k)).flatMap ik++ik ((k:Int),t.first))
    rw[<-hA3]at hA
    have P3:=Ow.one W3 E.n (.row true 69 (ik ((k:Int),t.first))) ((k:Int),t.first) (cells:=A3) hA3
    have EN:=iZ E W3 (.row true 69 (ik ((k:Int),t.first))) (.row true 69 A3)
    have N1:=Ow.ne W1 W3 (by decide)
    have N2:=Ow.ne W2 W3 (by decide)
    have P1:=Ow.other (β:=Int) (e':=3) (enc':=ab) (ys:=[]) (u:=.bool true) (W1.ext (Ext.new _ (.row true 69 (ik ((k:Int),t.first))))) N1 (.row true 69 A3)
    have P2:=Ow.other (β:=Int) (e':=3) (enc':=ab) (ys:=[]) (u:=.bool true) (W2.ext (Ext.new _ (.row true 69 (ik ((k:Int),t.first))))) N2 (.row true 69 A3)
    simp only[ik]at hA P1 P2 P3 EN
    have hnn:(G.new (.row true 69 [Value.int .i64 (k:Int),.int .i64 t.first])).n=G.n+1:=by simp
    obtain⟨F',hF'⟩:=nm (bY (G.new (.row true 69 [Value.int .i64 (k:Int),.int .i64 t.first])) o3 (.row true 69 A3))
    rw[<-hF']at hA P1 P2 P3 EN
    have hrF:F'.f p= .row true 59 C:=by
     rw[EN.f p (by rw[hKn];exact hps),hK,fI,if_pos rfl,hC];rfl
    have SG3:=SLs.er (Ac (by rw[<-hK];exact EN)) RS
    obtain⟨_,bq,oq,cr,rr',ee,hbr,hdr,hlr,_⟩:=SG3.at 6 iA hti
    simp only[av,Addr.mk.injEq,and_true]at ee
    obtain⟨rfl,rfl⟩:=ee
    have p5r:cr.drop (oi+k*6+5)= .int .i64 t.first::rr':=by rw[<-eh,hdr];rfl
    have lr5:oi+k*6+5+1<=cr.length:=by omega
    have lr5':oi+k*6+6<=cr.length:=by omega
    have hle:e+1<=30:=by omega
    have key:(F'.set p (.row true 59 (C.take e++ .int .i64 (t.first+1)::C.drop (e+1))))=F'.set p (lL (A.set e (t.first+1))):=by rw[hts];rfl
    have E9:Ext (Hs.set p (lL (A.set e (t.first+1)))) (F'.set p (lL (A.set e (t.first+1)))):=Zo (X:=lL A) (by rw[<-hK];exact EN)
    have keep:∀{α:Type}{ty:TypeId}{enc:α->List Value}{oo:Option Nat}{xs:List α}{vv:Value},Ow ty enc K F' oo xs vv->Ow ty enc Hs (F'.set p (lL (A.set e (t.first+1)))) oo xs vv:=by
     intro α ty enc oo xs vv W;have W':=Ow.base W hKn.symm;refine W'.keep (λb hb=>?_) (aX _);have:=W'.lt b hb;rw[fI,if_neg (by omega)]
    have SK':=akB GD4.ids SK hkt q2 (by omega)
    rw[<-he]at SK'
    have done:∀(j:Nat)(o:aB),j<k+1->L[j]? =some o->o.state=2->fA (A.set e (t.first+1)) o.id=o.first+1:=by
     intro j o hj ho hs;rw[xQ (by omega)];split
     .rename_i y;have hm:o∈bV b':=(by rw[<-hL];exact dE ho);obtain⟨jj,hjj,hje⟩:=List.getElem_of_mem (gS.1 hm).1;have hjo:b'.l[jj]? =some o:=(by rw[<-hje];exact aq hjj);have hio:=AO GD4.ids hjo;have:jj=kk:=(by omega);subst this;rw[hkt]at hjo;simp only[av]at hjo;rw[hjo]
     .rename_i y;rcases Nat.lt_or_ge j k with z|z
      .exact SD j o z ho hs
      .have:j=k:=(by omega);subst this;rw[hti]at ho;simp only[av]at ho;rw[<-ho]at y;exact absurd (by omega) y
    have hcl:e+1<=C.length:=by omega
    rcases hz with hz0|hz0
    .simp -implicitDefEqProofs[g0,g1,g5,g6,g7,g9,g10,g11,g12,g13,g14,g15,x10,him,hbq,p0,p1,p5,lq0,lq1,lq1',lq5,lq5',hlq,q2,hid2,he1,he30',he30i,aM,hr1,hr2,hA,KI,hrF,hCl,hCe,he30,hle,hz0,hbr,p5r,lr5,lr5',hlr,w5,w6,hcl,key]
     exact⟨k6-(k+1),by omega,k+1,A.set e (t.first+1),o1,o2,_,_,_,_,rfl,by omega,E9,by rw[kW];exact hA30,SK',done,keep P1,keep P2,by rw[hps'];exact keep P3,by simp[g0],by simp[g1],by simp[g5],by simp[g6],by simp[g7],by simp[g9],by simp[g10],by simp[g11],by simp[g12],by simp[g13],by simp,by simp,by simp[x10]⟩
    .have hzp:0<z:=by omega
     have hzp':(0:Int)<t.first+1:=by omega
     subst hz0
     simp -implicitDefEqProofs[g0,g1,g5,g6,g7,g9,g10,g11,g12,g13,g14,g15,x10,him,hbq,p0,p1,p5,lq0,lq1,lq1',lq5,lq5',hlq,q2,hid2,he1,he30',he30i,aM,hr1,hr2,hA,KI,hrF,hCl,hCe,he30,hle,hzp,hzp',hbr,p5r,lr5,lr5',hlr,w5,w6,hcl,key]
     exact⟨k6-(k+1),by omega,k+1,A.set e (t.first+1),o1,o2,_,_,_,_,rfl,by omega,E9,by rw[kW];exact hA30,SK',done,keep P1,keep P2,by rw[hps'];exact keep P3,by simp[g0],by simp[g1],by simp[g5],by simp[g6],by simp[g7],by simp[g9],by simp[g10],by simp[g11],by simp[g12],by simp[g13],by simp,by simp,by simp[x10]⟩
  have e:k=k6:=by omega
  subst e
  have SN':Seen b'.l (fA A):=akC GD4.ids SK (λj o hj hs=>by rw[<-hL]at hj;exact SD j o (by have:=(cP.mp hj).1;omega) hj hs)
  have hrG:G.f p=lL A:=by rw[E.f p (by exact hps),fI,if_pos rfl]
  have hpG:p<G.n:=cV hps Cp.n
  have BG:=Bs.er Cp RS (λx hx=>by rw[dZ]at hx;rw[hx];exact hp0) (λx hx z=>by rw[dZ]at z;rw[z]at hx;exact hpo4 hx)
  have SG:=SLs.er Cp RS
  have e1:lJ L k=L.map (·.az):=by unfold lJ;rw[hk6,jZ]
  have e2:lG L k=L.map (·.first):=by unfold lG;rw[hk6,jZ]
  have e3:L.take k=L:=by rw[hk6,jZ]
  rw[e1]at W1
  rw[e2]at W2
  rw[e3]at W3
  have S1:mT G _ (L.map (·.az)):=W1.own.sl
  have S2:a8 G _ (L.map (·.first)):=W2.own.sl
  have S3:vt G _ (cT 0 L):=W3.own.sl
  have n1:(L.map (·.az)).length=k:=by rw[cf,hk6]
  have n2:(L.map (·.first)).length=k:=by rw[cf,hk6]
  rw[n1]at S1
  rw[n2]at S2
  rw[e1,n1]at g12
  rw[e2,n2]at g13
  rw[e3]at g14
  simp only[e1,e2,e3,n1,n2]
  by_cases hz:k=0
  case' pos=>
   have hz':¬(0:Int)<(k:Int):=by omega
   have hz2:¬0<k:=by omega
   obtain⟨G3,hG3⟩:=nm G
   have EG:Ext G G3:=by rw[hG3];exact Ext.bJ G
   simp -implicitDefEqProofs[g0,g1,g5,g6,g7,g9,g10,g11,g12,g13,g14,g15,x10,hz',hz2]
   rw[<-hG3]
  case' neg=>
   have hz':(0:Int)<(k:Int):=by omega
   have hz2:0<k:=by omega
   have hne:bV b'≠[]:=λz=>by rw[<-hL]at z;rw[z]at hk6;simp at hk6;omega
   obtain⟨hh,h512,SP⟩:=GD4.live hne
   rw[<-hL]at SP h512
   have hvG:=(hvF hh).er Cp RS
   have hfu2:=ajP (L:=L) (λo ho=>(SP.each (pf o) (List.mem_map_of_mem ho)).2.1) (by omega) S1 S2
   have hmp:=ajZ hvG SP (by omega) S1 S2 S3
   simp -implicitDefEqProofs[g0,g1,g5,g6,g7,g9,g10,g11,g12,g13,g14,g15,x10,hz',hz2,hh]
   refine cE hfu2 ?_
   simp -implicitDefEqProofs[af,g0,g1,g5,g6,g7,g9,g10,g11,g12,g13,g14,g15,x10,hvl,hvt]
   intro _
   refine hmp.mono ?_
   rintro r7 G3 ⟨EG,rfl⟩
   simp -implicitDefEqProofs[af,g0,g1,g5,g6,g7,g9,g10,g11,g12,g13,g14,g15,x10]
   intro _
  all_goals
   refine bG (UB G3 a p i (.slice (some ⟨bb,oo,none⟩) m c2) (.slice ad1 l.length c1) (.slice ad6 k c6) k) _ ⟨0,rfl,by omega,rfl,by simp[g0],by simp[g1],by simp[g5],by simp[g6],by simp[g7],by simp[g9],by simp⟩ ?_
   have B9:=BG.exts EG
   have S9:=SG.ext EG
   have r9:G3.f p=lL A:=by rw[EG.f p hpG,hrG]
   have p9:p<G3.n:=cV hpG EG.n
   clear g0 g1 g5 g6 g7 g9 g10 g11 g12 g13 g14 g15 x10 W1 W2 W3 S1 S2 S3 E
   rintro n2 ⟨T,⟨x,G4⟩⟩ ⟨j,rfl,hj,hG4,g0,g1,g5,g6,g7,g9,g17⟩
   simp at hG4 g0 g1 g5 g6 g7 g9 g17
   subst hG4
   simp -implicitDefEqProofs[g0,g1,g5,g6,g7,g9,g17]
   refine bR (λhc2=>?_) (λhc2=>?_)
   rotate_left
   .simp -implicitDefEqProofs[g0,g1,g5,g6,g7,g9,g17,w3]
    exact⟨m-(i+1),by omega,i+1,b',_,_,_,A,rfl,by omega,B9,by simpa using hpo4,hp0,p9,r9,hA30,OK4,GD4,by rw[F4,hfu],SN',by simp[g0],by simp[g1],by simp[g5],by simp[g6],by simp⟩
   have hjk:j<k:=by omega
   have w7:=bO (i:=j) (by omega)
   have htj:L[j]? =some L[j]:=aq (by omega)
   obtain⟨u,hu⟩:=nm L[j]
   rw[<-hu]at htj
   obtain⟨_,bo,oi,co,ro,ee,hbo,hdo,hlo,_⟩:=S9.at 6 iA htj
   have p1:co.drop (oi+j*6+1)= .int .i64 u.state::(aP u).tail.tail++ro:=by rw[<-eh,hdo];rfl
   have p4:co.drop (oi+j*6+4)= .int .i64 u.gX:: .int .i64 u.first::ro:=by rw[<-eh,hdo];rfl
   have yv:oi+j*6+1+1<=co.length:=by omega
   have lo4:oi+j*6+4+1<=co.length:=by omega
   have lo1':oi+j*6+2<=co.length:=by omega
   have lo4':oi+j*6+5<=co.length:=by omega
   subst ee
   by_cases hs1:u.state=1
   .have hun:u∈bV b':=by rw[<-hL];exact dE htj
    have hso:=GD4.sound u (gS.1 hun).1
    unfold kR at hso
    rw[if_pos hs1,de]at hso
    have hso':¬u.gX<=b'.now:=by omega
    simp -implicitDefEqProofs[g0,g1,g5,g6,g7,g9,g17,hjk,hbo,p1,p4,yv,lo4,lo1',lo4',hs1]
    refine cE (PT B9) ?_
    simp -implicitDefEqProofs[aF,hso',g0,g1,g5,g6,g7,g9,g17,w7,hjk,hbo,p1,p4,yv,lo4,lo1',lo4',hs1]
    intro _
    exact⟨k-(j+1),by omega,j+1,rfl,by omega,rfl,by simp[g0],by simp[g1],by simp[g5],by simp[g6],by simp[g7],by simp[g9],by simp⟩
   .simp -implicitDefEqProofs[g0,g1,g5,g6,g7,g9,g17,hjk,hbo,p1,p4,yv,lo4,lo1',lo4',hs1,w7]
    exact⟨k-(j+1),by omega,j+1,rfl,by omega,rfl,by simp[g0],by simp[g1],by simp[g5],by simp[g6],by simp[g7],by simp[g9],by simp⟩
end Go.Proofs.Ybk.K
namespace Go.Proofs.YtbcdmljanolkeaaGreatDoor.AmBookOwners
open Go Go.Am Go.RowKit
def vN(l:List Int):l.flatMap Ybk.V.ab=l.map (Value.int .i64):=by
 induction l with
 |nil=>rfl
 |cons n r ih=>rw[ic,ih];rfl
def vW{h:aa}{v:Value}{len:Nat}{zs:List Int}(H:qP 3 h v len ((zs.map (Value.int .i64)).take (len*1)))(hl:len<=zs.length):Ybk.V.a8 h v (zs.take len):=by
 rw[Nat.mul_one]at H;obtain⟨ad,c,rfl,hc,z⟩:=H;have e:(zs.take len).length=len:=by rw[dh];omega
 refine⟨ad,c,by rw[e],hc,?_⟩;rcases z with z|⟨b,cs,rfl,h2,h3⟩
 .exact .inl (by rw[z];rfl)
 .exact .inr ⟨b,0,false,_,cs,rfl,h2,by rw[vN,List.map_take];rfl,Nat.zero_le _,h3⟩
def walk{W:World}(L:Ybk.K.isLaid W){a:Option Addr}{len cap:Nat}{zs:List Int}(w:IntsW W a len cap zs/\∀z∈zs,(Lit.int .i64 z).wf=true)(y:len*8<=140737488351232)
  {a':Option Addr} {len' cap':Nat} {l:List Ybk.K.CmdR} (w':l.length=cap'/\RowX W 5 a' len' cap' (l.flatMap Ybk.K.cmdC)/\len'<=maxLen):
  Calls Tryz.prog 8 #[.slice a len cap,.slice a' len' cap'] W (λe w'=>e= .returned (.bool true)/\Below W.heap.size W w'):=by
 obtain⟨h,ρ,L0,G⟩:=Ybk.K.start_of L;obtain⟨h1,v,ρ1,L1,E1,M1,V1,R1,N1⟩:=uD (e:=3) (sz:=1) Ybk.uh (by decide) L0 (RowX.Bk w.1);obtain⟨h2,u,ρ2,L2,E2,M2,V2,R2,N2⟩:=uD (e:=31) (sz:=5) (by rw[Ybk.K.im];kernel_rfl) (by decide) L1 w'.2.1;have l1:len<=zs.length:=by
  rcases w.1 with⟨_,h,_,_⟩|⟨_,_,h,h2,_⟩<;>omega
 have l2:len'<=l.length:=by
  rw[w'.1];rcases w'.2.1 with⟨_,h,_,_⟩|⟨_,_,h,_⟩<;>omega
 have hm:maxLen<=9223372036854775807:=by decide
 have l3:=w'.2.2;rw[<-Ybk.K.im];exact A0 L2 (Ybk.K.aiK (zs.take len) (l.take len') v u (by rw[dh];omega) (by rw[dh];omega) h2 ((G.ext E1).ext E2) (vW (R1.ext E2) l1) (Ybk.K.Af R2 l2)) ⟨rfl,λi y hi=>by
  match i,hi with
  |0,hi=>simp at hi;subst hi;exact⟨_,rfl,V1.mono λb pl q=>M2 _ _ q⟩
  |1,hi=>simp at hi;subst hi;exact⟨_,rfl,V2⟩
  |i+2,hi=>simp at hi⟩
end Go.Proofs.YtbcdmljanolkeaaGreatDoor.AmBookOwners

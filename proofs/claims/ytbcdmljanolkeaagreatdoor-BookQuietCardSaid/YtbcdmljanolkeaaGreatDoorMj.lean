import Derived.Test.YtbcdmljanolkeaaGreatDoorMg
import Derived.ChangeShapes
set_option linter.unusedVariables false
set_option linter.unusedSimpArgs false
set_option linter.unusedSectionVars false
set_option linter.constructorNameAsVariable false
set_option linter.defProp false
set_option maxRecDepth 20000
namespace Go.Proofs.Ybk.K
open Go Go.Am
set_option maxHeartbeats 4000000
open V (au aR ai ao aZ ab bg aK aE cA cG a8 bL)
open F (cC)
def J6(h:aa)(a a2:Nat)(cv lv:Value)(m n:Nat)(σ:St):Prop:=∃(i:Nat)(b:aI),n=m-i/\i<=m/\iE h σ.m.h a a2 b b/\eF i b/\b.fuel=100/\V.lz b.v/\
 σ.t.get 0=some lv/\σ.t.get 1=some cv/\σ.t.get 5=some (.pointer (some ⟨a,0,none⟩))/\σ.t.get 6=some (.pointer (some ⟨a2,0,none⟩))/\σ.t.get 7=some (.int .i64 (i:Nat))
def Ct{N:Nat}{h0 h:aa}{a a2:Nat}{b:aI}(OK:eF N b)(hN:N<=1047000)(hv:V.lz b.v)(T:iE h0 h a a2 b b):al PP 18 [.pointer (some ⟨a,0,none⟩),.pointer (some ⟨a2,0,none⟩)] h (λr h'=>h'=h/\r= .bool true):=by
 obtain⟨vc,ov,o,B⟩:=T.fst;obtain⟨vc2,ov2,o2,B2⟩:=T.snd;refine(zY hv (by have:=OK.len;omega) B B2).mono ?_;rintro r h' ⟨e,rfl⟩;exact⟨e,by rw[Rh]⟩
def ajs(l:List Int)(cs:List CmdR)(lv cv:Value)(hl:l.length<=4611686018427387904)(hcl:cs.length<=9223372036854775807)(h:aa)(G:cC h)(Hl:a8 h lv l)(Hc:vo h cv cs):
  al PP 6 [lv,cv] h (λr h'=>Ext h h'/\r= .bool true):=by
 refine aC Tryz.func6 aht ?_;simp only[aA,Tryz.f6];have hfew:=Av cv cs 20 hcl h Hc;obtain⟨ad1,c1,rfl⟩:=Hl.shape;obtain⟨ad2,c2,rfl⟩:=Hc.shape;simp -implicitDefEqProofs;refine hfew.mono ?_;clear hfew;rintro r H0 ⟨rfl,rfl⟩;simp -implicitDefEqProofs[af];intro _;by_cases q:pa cs 20=true;rotate_left
 .simp only[mq]at q;simp -implicitDefEqProofs[af,q];refine(vk H0 G).mono ?_;rintro r H2 ⟨E,rfl⟩;simp -implicitDefEqProofs[af];intro _;exact E
 simp -implicitDefEqProofs[af,q];refine(rz 100 (by decide) (by decide) H0).mono ?_;rintro r H1 ⟨a,vc,ov,rfl,B⟩;simp -implicitDefEqProofs[af];intro _;refine(rz 100 (by decide) (by decide) H1).mono ?_;rintro r H2 ⟨a2,vc2,ov2,rfl,B2⟩;have T0:=ano B B2;simp -implicitDefEqProofs[af];intro _;obtain⟨q1,q2⟩:(∀c∈cs,c.text.length<=300)/\cs.length<=20:=by
  unfold pa at q;simp at q;exact⟨q.1,by omega⟩
 obtain⟨m,hm⟩:=nm cs.length;rw[<-hm]at Hc q2 ⊢;refine bG (J6 H0 a a2 (.slice ad2 m c2) (.slice ad1 l.length c1) m) _ ⟨0,eP 100,rfl,by omega,T0,wq 100 (by decide) (by decide),rfl,PM 100,by simp⟩ ?_;clear B vc ov B2 vc2 ov2 q T0;rintro n0 ⟨T,⟨x,F⟩⟩ ⟨i,b,rfl,hi,TT,OKb,hfu,hsm,g0,g1,g5,g6,g7⟩;simp at TT g0 g1 g5 g6 g7;simp -implicitDefEqProofs[g0,g1,g5,g6,g7];refine bR (λhc=>?_) (λhc=>?_);rotate_left
 .simp -implicitDefEqProofs;refine(vk F (G.ext TT.e)).mono ?_;rintro r H2 ⟨E,rfl⟩;simp -implicitDefEqProofs[af];intro _;exact TT.e.trans E
 have hil:i<m:=by omega
 have hti:cs[i]? =some cs[i]:=aq (by omega);obtain⟨_,bb,oo,wb,cl,r,rfl,hb,hd,hlc,_⟩:=(Hc.ext TT.e).at 5 oV hti;obtain⟨t,ht⟩:=nm cs[i];rw[<-ht]at hd hti;have htx:=q1 t (dE hti);have hlc':oo+i*5+5<=cl.length:=by omega
 have hd5:List.take 5 (List.drop (oo+i*5) cl)=cmdC t:=by rw[hd];rfl
 have hfit:=AA t htx (i:Nat) l hl _ F (Hl.ext TT.e);simp only[cH]at hfit;simp -implicitDefEqProofs[g0,g1,g5,g6,g7,hil,hb,hd5,hlc'];refine hfit.mono ?_;clear hfit;rintro r1 H2 ⟨E2,t',rfl,htx'⟩;have T2:=TT.ext E2;simp -implicitDefEqProofs[af,cH,cmdC];intro _;have hdo:=RN OKb (by omega) 200 (by rw[hfu];decide) t' (by omega) G T2;simp only[cH,cmdC]at hdo;refine hdo.mono ?_;clear hdo;rintro r3 H4 ⟨T4,ad4,n4,cc4,ad5,n5,c5,rfl,e4,S4,e5,S5⟩;have Q:=um 200 b t';have QL:=BO 200 b t';have OK4:=oY 200 t' OKb;have F4:=Ak 200 b t';have SM4:=IF 200 b t' hsm;have hrec:j4 200 b t'=if(bZ 200 b t').2.code≠0 then[]else kQ (bZ 200 b t').1 b t':=rfl;obtain⟨b',R,hbR⟩:∃b' R,bZ 200 b t'=(b',R):=⟨_,_,rfl⟩;obtain⟨rs,hrs⟩:=nm (j4 200 b t');rw[hbR]at Q QL OK4 F4 SM4 T4 e4 S4 hrec;rw[<-hrs]at hrec e5 S5;simp only at Q QL OK4 F4 SM4 T4 e4 S4 hrec;rw[hbR];clear S4 S5 hlc hlc' hd hd5 hb;have w3:=bO (i:=i) (by omega);simp -implicitDefEqProofs[af];intro _;by_cases hA:R.code=0/\rs≠[]
 .obtain⟨k1,k2⟩:=hA;have k3:0<n5:=by rw[e5];exact sf.2 k2
  have k3':(0:Int)<n5:=by omega
  simp -implicitDefEqProofs[k1,k3,k3'];have hdo:=ann OKb (by omega) 200 (by rw[hfu];decide) t' (by omega) G T4;simp only[cH,cmdC]at hdo;refine hdo.mono ?_;clear hdo;rintro r3 H5 ⟨T5,_⟩;rw[hbR]at T5;simp only at T5;simp -implicitDefEqProofs[af];intro _;refine cE (Ct OK4 (by omega) SM4 T5) ?_;simp -implicitDefEqProofs[af];intro _;exact⟨m-(i+1),by omega,i+1,b',rfl,by omega,T5,OK4,by rw[F4,hfu],SM4,by simp[w3]⟩
 .have hb':b'=b:=by
   by_cases z:R.code=0
   .refine QL ?_;rw[if_neg (by rw[z];decide)]at hrec;rw[<-hrec];exact Classical.byContradiction λq=>hA ⟨z,q⟩
   .exact(Q.bad z).1
  have hrs0:rs=[]:=by
   by_cases z:R.code=0
   .exact Classical.byContradiction λq=>hA ⟨z,q⟩
   .rw[hrec,if_pos z]
  have k3:n5=0:=by rw[e5,hrs0];rfl
  subst k3
  rw[hb']at T4
  by_cases z:R.code=0
  .simp -implicitDefEqProofs[z]
   refine cE (Ct OKb (by omega) hsm T4) ?_
   simp -implicitDefEqProofs[af]
   intro _
   exact⟨m-(i+1),by omega,i+1,b,rfl,by omega,T4,OKb.mono (by omega),hfu,hsm,by simp[w3]⟩
  .obtain⟨_,z1,z2⟩:=Q.bad z
   have z3:n4=0:=by rw[e4,z2];rfl
   subst z3
   simp -implicitDefEqProofs[z,z1]
   refine cE (Ct OKb (by omega) hsm T4) ?_
   simp -implicitDefEqProofs[af]
   intro _
   exact⟨m-(i+1),by omega,i+1,b,rfl,by omega,T4,OKb.mono (by omega),hfu,hsm,by simp[w3]⟩
end Go.Proofs.Ybk.K
namespace Go.Proofs.YtbcdmljanolkeaaGreatDoor.AmBookQuiet
open Go Go.Am Go.RowKit
def vN(l:List Int):l.flatMap Ybk.V.ab=l.map (Value.int .i64):=by
 induction l with
 |nil=>rfl
 |cons n r ih=>rw[ic,ih];rfl
def vW{h:aa}{v:Value}{len:Nat}{zs:List Int}(H:qP 3 h v len ((zs.map (Value.int .i64)).take (len*1)))(hl:len<=zs.length):Ybk.V.a8 h v (zs.take len):=by
 rw[Nat.mul_one]at H;obtain⟨ad,c,rfl,hc,z⟩:=H;have e:(zs.take len).length=len:=by rw[dh];omega
 refine⟨ad,c,by rw[e],hc,?_⟩;rcases z with z|⟨b,cs,rfl,h2,h3⟩
 .exact .inl (by rw[z];rfl)
 .exact .inr ⟨b,0,false,_,cs,rfl,h2,by rw[vN,List.map_take];rfl,Nat.zero_le _,h3⟩
def walk{W:World}(L:Ybk.K.isLaid W){a:Option Addr}{len cap:Nat}{zs:List Int}(w:IntsW W a len cap zs/\∀z∈zs,(Lit.int .i64 z).wf=true)(y:len*8<=140737488351232)
  {a':Option Addr} {len' cap':Nat} {l:List Ybk.K.CmdR} (w':l.length=cap'/\RowX W 5 a' len' cap' (l.flatMap Ybk.K.cmdC)/\len'<=maxLen):
  Calls Tryz.prog 6 #[.slice a len cap,.slice a' len' cap'] W (λe w'=>e= .returned (.bool true)/\Below W.heap.size W w'):=by
 obtain⟨h,ρ,L0,G⟩:=Ybk.K.start_of L;obtain⟨h1,v,ρ1,L1,E1,M1,V1,R1,N1⟩:=uD (e:=3) (sz:=1) Ybk.uh (by decide) L0 (RowX.Bk w.1);obtain⟨h2,u,ρ2,L2,E2,M2,V2,R2,N2⟩:=uD (e:=31) (sz:=5) (by rw[Ybk.K.im];kernel_rfl) (by decide) L1 w'.2.1;have l1:len<=zs.length:=by
  rcases w.1 with⟨_,h,_,_⟩|⟨_,_,h,h2,_⟩<;>omega
 have l2:len'<=l.length:=by
  rw[w'.1];rcases w'.2.1 with⟨_,h,_,_⟩|⟨_,_,h,_⟩<;>omega
 have hm:maxLen<=9223372036854775807:=by decide
 have l3:=w'.2.2;rw[<-Ybk.K.im];exact A0 L2 (Ybk.K.ajs (zs.take len) (l.take len') v u (by rw[dh];omega) (by rw[dh];omega) h2 ((G.ext E1).ext E2) (vW (R1.ext E2) l1) (Ybk.K.Af R2 l2)) ⟨rfl,λi y hi=>by
  match i,hi with
  |0,hi=>simp at hi;subst hi;exact⟨_,rfl,V1.mono λb pl q=>M2 _ _ q⟩
  |1,hi=>simp at hi;subst hi;exact⟨_,rfl,V2⟩
  |i+2,hi=>simp at hi⟩
end Go.Proofs.YtbcdmljanolkeaaGreatDoor.AmBookQuiet

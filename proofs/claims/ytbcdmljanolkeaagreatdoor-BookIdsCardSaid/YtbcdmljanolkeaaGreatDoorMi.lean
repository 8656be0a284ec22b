import Derived.Test.YtbcdmljanolkeaaGreatDoorMh
import Derived.ChangeShapes
set_option linter.unusedVariables false
set_option linter.unusedSimpArgs false
set_option linter.unusedSectionVars false
set_option linter.constructorNameAsVariable false
set_option linter.defProp false
set_option maxRecDepth 20000
namespace Go.Proofs.Ybk.K
open Go Go.Am
set_option maxHeartbeats 4000000
open V (aq aU aj au bg ab bD aN aB cF cJ bq bR)
open F (cz)
def Sk (h:aa) (a:Nat) (cv lv:Value) (m n:Nat) (σ:St):Prop:=∃(i:Nat) (b:aG) (vc:List Value) (ov:Value) (o:Option Nat),n=m-i∧i≤m∧bz h σ.m.h a b vc ov o∧eh i b∧b.fuel=300∧gW 0 b.l∧
 σ.t.get 0=some lv∧σ.t.get 1=some cv∧σ.t.get 5=some (.pointer (some ⟨a,0,none⟩))∧σ.t.get 6=some (.int .i64 (i:Nat))
def Sl (H:aa) (b':aG) (lv cv rv:Value) (a i m n:Nat) (σ:St):Prop:=∃(j:Nat),n=m-j∧j≤m∧σ.m.h=H∧
 σ.t.get 0=some lv∧σ.t.get 1=some cv∧σ.t.get 5=some (.pointer (some ⟨a,0,none⟩))∧σ.t.get 6=some (.int .i64 (i:Nat))∧σ.t.get 11=some rv∧σ.t.get 12=some (.int .i64 (((b'.l.take j).filter fun o=>decide (o.state≠3)).length:Nat))∧σ.t.get 13=some (.int .i64 (j:Nat))
theorem YT (l:List Int) (cs:List CmdR) (lv cv:Value) (hl:l.length≤4611686018427387904) (hcl:cs.length≤9223372036854775807) (h:aa) (G:cz h) (Hl:bq h lv l) (Hc:uN h cv cs):
  ao PP 3 [lv,cv] h (fun r h'=>Ext h h'∧r= .bool true):=by
 refine aC mix (aD Tryz.func3) rfl rfl rfl afh ?_;simp only[ai,Tryz.f3];have hfew:=zL cv cs 25 hcl h Hc;obtain⟨ad1,c1,rfl⟩:=Hl.shape;obtain⟨ad2,c2,rfl⟩:=Hc.shape;simp -implicitDefEqProofs;refine hfew.mono ?_;clear hfew;rintro r H0 ⟨rfl,rfl⟩;simp -implicitDefEqProofs[af];intro _;by_cases q:oz cs 25=true;rotate_left
 ·simp only[mz]at q;simp -implicitDefEqProofs[af,q];refine(qk H0 G).mono ?_;rintro r H2 ⟨E,rfl⟩;simp -implicitDefEqProofs[af];intro _;exact E
 simp -implicitDefEqProofs[af,q];refine(oH 300 (by decide) (by decide) H0).mono ?_;rintro r H1 ⟨a,vc,ov,rfl,B⟩;simp -implicitDefEqProofs[af];intro _;obtain⟨q1,q2⟩:(∀c∈cs,c.text.length≤300)∧cs.length≤25:=by
  unfold oz at q;simp at q;exact⟨q.1,by omega⟩
 obtain⟨m,hm⟩:∃m,m=cs.length:=⟨_,rfl⟩;rw[←hm]at Hc q2 ⊢;refine bL (Sk H0 a (.slice ad2 m c2) (.slice ad1 l.length c1) m) _ ⟨0,dX 300,vc,ov,none,rfl,by omega,B,tX 300 (by decide) (by decide),rfl,trivial,by simp⟩ ?_;clear B vc ov q;rintro n0 ⟨T,⟨x,F⟩⟩ ⟨i,b,vc,ov,o,rfl,hi,B,OKb,hfu,hok,g0,g1,g5,g6⟩;simp at B g0 g1 g5 g6;simp -implicitDefEqProofs[g0,g1,g5,g6];refine bY (fun hc=>?_) (fun hc=>?_);rotate_left
 ·simp -implicitDefEqProofs;refine(qk F (G.ext B.ext)).mono ?_;rintro r H2 ⟨E,rfl⟩;simp -implicitDefEqProofs[af];intro _;exact B.ext.trans E
 have hil:i<m:=by omega
 have hti:cs[i]? =some cs[i]:=av (by omega);obtain⟨_,bb,oo,wb,cl,r,rfl,hb,hd,hlc,_⟩:=(Hc.ext B.ext).at 5 oe hti;obtain⟨t,ht⟩:∃t,t=cs[i]:=⟨_,rfl⟩;rw[←ht]at hd hti;have htx:=q1 t (dY hti);have hlc':oo+i*5+5≤cl.length:=by omega
 have hd5:List.take 5 (List.drop (oo+i*5) cl)=cmdC t:=by rw[hd];rfl
 have hfit:=zQ t htx (i:Nat) l hl _ F (Hl.ext B.ext);simp only[cm]at hfit;simp -implicitDefEqProofs[g0,g1,g5,g6,hil,hb,hd5,hlc'];refine hfit.mono ?_;clear hfit;rintro r1 H2 ⟨E2,t',rfl,htx'⟩;have B2:=B.exts E2;simp -implicitDefEqProofs[af,cm,cmdC];intro _;refine(xX (by have:=OKb.len;omega) B2).mono ?_;rintro r2 H3 ⟨E3,W3⟩;have B3:=B2.exts E3;obtain⟨ad3,rfl,_⟩:=W3;simp -implicitDefEqProofs[af];intro _;have hdo:=w6 OKb (by omega) 600 (by rw[hfu];decide) t' (by omega) G B3;simp only[cm,cmdC]at hdo;refine hdo.mono ?_;clear hdo;rintro r3 H4 HD;obtain⟨⟨vc',ov',o',B4,C4,D4⟩,ad4,n4,cc4,ad5,n5,c5,rfl,e4,S4,e5,S5⟩:=HD.r;have I:=He 600 b t' hok;have OK4:=lX 600 t' OKb;have F4:=vg 600 b t';clear HD S4 S5 e4 e5;obtain⟨b',R,hbR⟩:∃b' R,bG 600 b t'=(b',R):=⟨_,_,rfl⟩;rw[hbR]at I OK4 F4 B4;simp only at I OK4 F4 B4;rw[hbR];simp -implicitDefEqProofs[af];intro _;refine(xX (by have:=OK4.len;omega) B4).mono ?_;rintro r2 H5 ⟨E5,W5⟩;have B5:=B4.exts E5;have S5:=W5.sl;obtain⟨ad6,rfl,_⟩:=W5;simp -implicitDefEqProofs[af];intro _;obtain⟨I1,I2⟩:=I;have hlen:=OKb.len;have hlen':=OK4.len;have w1:IntKind.wrap .i64 ((b.l.length:Int)+1)=(b.l.length:Int)+1:=bK (by omega);have ne1:¬(b.l.length:Int)+1=b.l.length:=by omega
 by_cases hL:b'.l.length=b.l.length;rotate_left;obtain⟨j1,j2,j3,j4⟩:=I2 hL;simp -implicitDefEqProofs[hL,j1,j2,j3,j4,w1,ne1];try rw[←j3]
 rotate_left;simp -implicitDefEqProofs[hL];try rw[←hL]
 all_goals
  obtain⟨k,hk⟩:∃k,k=b'.l.length:=⟨_,rfl⟩
  rw[←hk]
  clear I2 hlc hlc' hd hd5 hb htx htx' hti ne1 w1 E2 E3 B2 B3 C4 D4
  refine bL (Sl H5 b' (.slice ad1 l.length c1) (.slice (some ⟨bb,oo,none⟩) m c2) (.slice ad6 k k) a i k) _ ⟨0,rfl,by omega,rfl,by simp⟩ ?_
  rintro n1 ⟨T1,⟨x1,F1⟩⟩ ⟨j,rfl,hj,hF,e0,e1,e5,e6,e11,e12,e13⟩
  simp at hF e0 e1 e5 e6 e11 e12 e13
  subst hF
  simp -implicitDefEqProofs[e0,e1,e5,e6,e11,e12,e13]
  refine bY (fun hc1=>?_) (fun hc1=>?_)
  ·have hjk:j<k:=by omega
   have htj:b'.l[j]? =some b'.l[j]:=av (by omega)
   rw[←hk]at S5
   obtain⟨_,bo,off,wo,co,ro,rfl,hbo,hdo,hlo,_⟩:=S5.at 6 ir htj
   obtain⟨od,hod⟩:∃od,od=b'.l[j]:=⟨_,rfl⟩
   rw[←hod]at hdo htj
   obtain⟨u1,u2,u3,u4⟩:=xV I1 htj
   have u1':od.id=(j:Int)+1:=by omega
   have w2:IntKind.wrap .i64 ((j:Int)+1)=(j:Int)+1:=bK (by omega)
   have hD0:List.drop (off+j*6) co= .int .i64 od.id::(aM od).tail++ro:=by rw[hdo];rfl
   have hD1:List.drop (off+j*6+1) co= .int .i64 od.state::(aM od).tail.tail++ro:=by rw[←fx,hdo];rfl
   have hD4:List.drop (off+j*6+4) co= .int .i64 od.fZ:: .int .i64 od.first::ro:=by rw[←fx,hdo];rfl
   have hD5:List.drop (off+j*6+5) co= .int .i64 od.first::ro:=by rw[←fx,hdo];rfl
   have b0:off+j*6+1≤co.length:=by omega
   have b1:off+j*6+1+1≤co.length:=by omega
   have b4:off+j*6+4+1≤co.length:=by omega
   have b5:off+j*6+5+1≤co.length:=by omega
   have b1':off+j*6+2≤co.length:=by omega
   have b4':off+j*6+5≤co.length:=by omega
   have b5':off+j*6+6≤co.length:=by omega
   have n1:¬od.state<1:=by omega
   have n2:¬(3:Int)<od.state:=by omega
   have ht1:(b'.l.take (j+1)).filter (fun o=>decide (o.state≠3))=(b'.l.take j).filter (fun o=>decide (o.state≠3))++(if od.state=3 then[]else[od]):=by
    rw[fI,htj,nr];by_cases z:od.state=3<;>simp[z]
   by_cases s3:od.state=3
   ·obtain⟨v1,v2⟩:=u4 s3
    rw[if_pos s3,pj]at ht1
    simp -implicitDefEqProofs[e0,e1,e5,e6,e11,e12,e13,hjk,hbo,hD0,hD1,hD4,hD5,b0,b1,b4,b5,b1',b4',b5',u1',w2,s3,v1,v2]
    exact⟨k-(j+1),by omega,j+1,rfl,by omega,rfl,by simp,by simp,by simp,by simp,by simp,by rw[ht1];simp,by simp⟩
   ·rw[if_neg s3]at ht1
    simp -implicitDefEqProofs[e0,e1,e5,e6,e11,e12,e13,hjk,hbo,hD0,hD1,hD4,hD5,b0,b1,b4,b5,b1',b4',b5',u1',w2,s3,n1,n2]
    have hcj:((b'.l.take j).filter fun o=>decide (o.state≠3)).length≤j:=eW (List.length_filter_le _ _) (by rw[cQ];omega)
    have w4:IntKind.wrap .i64 ((((b'.l.take j).filter fun o=>decide (o.state≠3)).length:Int)+1)=(((b'.l.take j).filter fun o=>decide (o.state≠3)).length:Int)+1:=bK (by omega)
    simp only[ne_eq,decide_not]at w4
    exact⟨k-(j+1),by omega,j+1,rfl,by omega,rfl,by simp,by simp,by simp,by simp,by simp,by rw[ht1];simp[w4],by simp⟩
  ·obtain rfl:j=k:=by omega
   simp -implicitDefEqProofs[e0,e1,e5,e6,e11,e12,e13]
   refine(pK (by omega) B5).mono ?_
   rintro r6 H6 ⟨E6,L6⟩
   obtain⟨ad7,c7,rfl⟩:=L6.shape
   simp -implicitDefEqProofs[af]
   intro _
   have hcnt:(b8 b').length=((b'.l.take j).filter fun o=>decide (o.state≠3)).length:=by
    rw[hk,kH];exact ZW I1
   simp -implicitDefEqProofs[hcnt]
   have w3:=bU (i:=i) (by omega)
   exact⟨m-(i+1),by omega,i+1,b',_,_,_,rfl,by omega,B5.exts E6,OK4,by rw[F4,hfu],I1,by simp[w3]⟩
end Go.Proofs.Ybk.K
namespace Go.Proofs.YtbcdmljanolkeaaGreatDoor.AmBookIds
open Go Go.Am Go.RowKit
theorem rW (l:List Int):l.flatMap Ybk.V.ab=l.map (Value.int .i64):=by
 induction l with
 |nil=>rfl
 |cons n r ih=>rw[gF,ih];rfl
theorem pI {h:aa} {v:Value} {len:Nat} {zs:List Int} (H:ph 3 h v len ((zs.map (Value.int .i64)).take (len*1))) (hl:len≤zs.length):Ybk.V.bq h v (zs.take len):=by
 rw[Nat.mul_one]at H;obtain⟨ad,c,rfl,hc,z⟩:=H;have e:(zs.take len).length=len:=by rw[cQ];omega
 refine⟨ad,c,by rw[e],hc,?_⟩;rcases z with z|⟨b,cs,rfl,h2,h3⟩
 ·exact .inl (by rw[z];rfl)
 ·exact .inr ⟨b,0,false,_,cs,rfl,h2,by rw[rW,List.map_take];rfl,Nat.zero_le _,h3⟩
theorem walk {W:World} (L:Ybk.K.isLaid W) {a:Option Addr} {len cap:Nat} {zs:List Int} (w:IntsW W a len cap zs∧∀z∈zs,(Lit.int .i64 z).wf=true) (y:len*8≤140737488351232)
  {a':Option Addr} {len' cap':Nat} {l:List Ybk.K.CmdR} (w':l.length=cap'∧RowX W 5 a' len' cap' (l.flatMap Ybk.K.cmdC)∧len'≤maxLen):
  Calls Tryz.prog 3 #[.slice a len cap,.slice a' len' cap'] W (fun e w'=>e= .returned (.bool true)∧Below W.heap.size W w'):=by
 obtain⟨h,ρ,L0,G⟩:=Ybk.K.start_of L;obtain⟨h1,v,ρ1,L1,E1,M1,V1,R1,N1⟩:=pF (e:=3) (sz:=1) Ybk.px (by decide) L0 (RowX.ud w.1);obtain⟨h2,u,ρ2,L2,E2,M2,V2,R2,N2⟩:=pF (e:=31) (sz:=5) (by rw[Ybk.K.gM];kernel_rfl) (by decide) L1 w'.2.1;have l1:len≤zs.length:=by
  rcases w.1 with⟨_,h,_,_⟩|⟨_,_,h,h2,_⟩<;>omega
 have l2:len'≤l.length:=by
  rw[w'.1];rcases w'.2.1 with⟨_,h,_,_⟩|⟨_,_,h,_⟩<;>omega
 have hm:maxLen≤9223372036854775807:=by decide
 have l3:=w'.2.2;rw[←Ybk.K.gM];exact xy L2 (Ybk.K.YT (zs.take len) (l.take len') v u (by rw[cQ];omega) (by rw[cQ];omega) h2 ((G.ext E1).ext E2) (pI (R1.ext E2) l1) (Ybk.K.zA R2 l2)) ⟨rfl,fun i y hi=>by
  match i,hi with
  |0,hi=>simp at hi;subst hi;exact⟨_,rfl,V1.mono fun b pl q=>M2 _ _ q⟩
  |1,hi=>simp at hi;subst hi;exact⟨_,rfl,V2⟩
  |i+2,hi=>simp at hi⟩
end Go.Proofs.YtbcdmljanolkeaaGreatDoor.AmBookIds

import Derived.Test.YtbcdmljanolkeaaGreatDoorMc
import Derived.Laws.RangeString
import Derived.Lib.ItoaNum
set_option linter.unusedVariables false
set_option linter.unusedSimpArgs false
set_option linter.unusedSectionVars false
set_option linter.constructorNameAsVariable false
set_option linter.defProp false
set_option maxRecDepth 20000
namespace Go.Proofs.Ybk.K
open Go Go.Am
set_option maxHeartbeats 4000000
open V (aq aU aj au bg ab bD aN aB cF cJ bq bR)
def iU (h:aa) (v:aj) (us:List Bool) (cs:List Value):Prop:=∃vc uv,cs=vc++[uv]∧fw h v vc∧aK 4 eX h uv us
theorem iU.ext {h h':aa} {v:aj} {us:List Bool} {cs:List Value} (H:iU h v us cs) (E:Ext h h'):iU h' v us cs:=by
 obtain⟨vc,uv,rfl,h1,h2⟩:=H;exact⟨vc,uv,rfl,h1.ext E,h2.ext E⟩
theorem iU.eY {h h':aa} {v:aj} {us:List Bool} {cs:List Value} (H:iU h v us cs) {S:List Nat} (C:cP S h h') (hs:ic S h):iU h' v us cs:=by
 obtain⟨vc,uv,rfl,h1,h2⟩:=H;exact⟨vc,uv,rfl,h1.eY C hs,h2.eY C hs⟩
theorem iU.wk {h h':aa} {v:aj} {us:List Bool} {cs:List Value} (H:iU h v us cs) (W:Wk h h'):iU h' v us cs:=by
 obtain⟨vc,uv,rfl,h1,h2⟩:=H;exact⟨vc,uv,rfl,h1.wk W,h2.wk W⟩
structure tb (v:aj) (us:List Bool):Prop where
 may:gY v
 us:us.length≤1073741824
theorem xp (v:aj) (us:List Bool) (M:tb v us) (cs:List Value) (p:aV) (a:Int) (ha: -4611686018427387904≤a∧a≤4611686018427387904) (h:aa) (H:iU h v us cs):
  ao PP 205 [.agg ⟨cs⟩,fh p,.int .i64 a] h (rG h (cS v us p a)):=by
 refine aC mix (aD Tryz.func205) rfl rfl rfl aeh ?_;simp only[ai,Tryz.f205];obtain⟨vc,uv,rfl,hv,hu⟩:=H;have hmay:=mS p h;have htake:=fun size hz=>alc v M.may vc uv us M.us a ha size hz h hv.dF hu.sl;have hnu:cu uv=true:=by obtain⟨ad,c,rfl⟩:=hu.shape;rfl
 have hkinds:=fun lv l hin hl h' E hs=>ZA v vc uv lv hnu l hin hl p.du h' (hv.ext E).dF hs;obtain⟨s,k,pp,rfl,h1,h2,h3⟩:=hv;obtain⟨ad1,c1,e1⟩:=h1.shape;obtain⟨ad2,c2,e2⟩:=h2.shape;obtain⟨ad3,c3,e3⟩:=h3.shape;obtain⟨ad4,c4,e4⟩:=hu.shape;subst e1;subst e2;subst e3;subst e4;simp only[fh,al,dp,dA]at hmay hkinds;unfold cS rG;simp -implicitDefEqProofs[fh,al];refine hmay.mono ?_;rintro r h' ⟨e,rfl⟩;replace e:=e.symm;subst e;simp -implicitDefEqProofs[af];intro _;by_cases q1:ez p=true
 ·have hsz:p.size≤8:=by unfold ez at q1;simp at q1;omega
  simp -implicitDefEqProofs[q1];refine(htake p.size (by omega)).mono ?_;rintro r h' ⟨E,R⟩;cases q2:oY v us a p.size with
  |none=>
   rw[q2]at R;subst R;simp -implicitDefEqProofs[af];intro _;exact E
  |some l=>
   rw[q2]at R;obtain⟨s,S,rfl⟩:=R;obtain⟨ad5,c5,rfl⟩:=S.shape;obtain⟨el,t1,t2,t3⟩:=yE q2;have hll:l.length≤1048576:=(by rw[el,uh];omega);simp -implicitDefEqProofs[af];intro _;refine(hkinds _ l (fun x hx=>by rw[el]at hx;have:=OP hx;omega) hll h' E S.sl).mono ?_;rintro r h'' ⟨E2,rfl⟩;by_cases q3:sf v l p.du=true
   ·simp -implicitDefEqProofs[af,q3];intro _;exact⟨E.trans E2,S.ext E2⟩
   ·simp -implicitDefEqProofs[af,q3];intro _;exact E.trans E2
 ·simp -implicitDefEqProofs[q1];exact Ext.bJ h
def RX (h:aa) (v:aj) (us:List Bool) (cs:List Value) (p:aV) (m n:Nat) (σ:St):Prop:=∃(i:Nat) (o:Option Nat) (w:Value),n=m-i∧i≤m∧Ext h σ.m.h∧Ow 3 ab h σ.m.h o (((List.range i).filter fun k:Nat=>(cS v us p k).isSome).map fun k:Nat=>(k:Int)) w∧
 σ.t.get 2=some (.pointer (some ⟨2,0,some 0⟩))∧σ.t.get 3=some (.pointer (some ⟨3,0,some 0⟩))∧σ.t.get 5=some w∧σ.t.get 12=some (.int .i64 (m:Nat))∧σ.t.get 13=some (.int .i64 (i:Nat))∧σ.m.x.look 2=some (239,cs)∧σ.m.x.look 3=some (29,al p)
theorem YH (v:aj) (us:List Bool) (M:tb v us) (cs:List Value) (p:aV) (h:aa) (H:iU h v us cs):
  ao PP 247 [.agg ⟨cs⟩,fh p] h (fun r h'=>Ext h h'∧aK 3 ab h' r (ij v us p)):=by
 refine ao.jT (post:=fun v' h'=>Ext h h'∧cL 3 ab h h' v' (ij v us p)) ?_ (fun v h' ⟨E,W⟩=>by
  obtain⟨h'',w,E',S⟩:=W.dB E;exact⟨h'',w,E',S⟩)
 refine aC mix (aD Tryz.func247) rfl rfl rfl aeG ?_;simp only[ai,Tryz.f247];have hse:=fun(a:Int) ha h' E=>xp v us M cs p a ha h' (H.ext E);have hlen:=M.may.len;obtain⟨vc,uv,rfl,hv,hu⟩:=H;obtain⟨s,k,pp,rfl,h1,h2,h3⟩:=hv;obtain⟨ad1,c1,e1⟩:=h1.shape;obtain⟨ad2,c2,e2⟩:=h2.shape;obtain⟨ad3,c3,e3⟩:=h3.shape;obtain⟨ad4,c4,e4⟩:=hu.shape;subst e1;subst e2;subst e3;subst e4;obtain⟨C,hC⟩:∃C,C=[Value.slice ad1 v.ag.length c1,.int .i64 v.aW,.int .i64 v.bC,.slice ad2 v.aE.length c2,.slice ad3 v.aI.length c3]++[Value.slice ad4 us.length c4]:=⟨_,rfl⟩;rw[←hC]at hse;have hCl:C.length=6:=by rw[hC];rfl
 have hCt:C.take 6=C:=bZ (by omega);simp only[fh,al]at hse;simp -implicitDefEqProofs[fh,al];refine bL (RX h v us C p v.ag.length) _ ⟨0,none,_,rfl,by omega,Ext.bJ h,Ow.nil,by simp[hC,al]⟩ ?_;rintro n ⟨T,⟨x,G⟩⟩ ⟨i,o,w,rfl,hi,E,W,g2,g3,g5,g12,g13,x2,x3⟩;simp at E W g2 g3 g5 g12 g13 x2 x3;have hwn:cu w=true:=by rw[W.1];rfl
 simp only[cu,iY,Option.isNone_iff_eq_none]at hwn;simp -implicitDefEqProofs[g2,g3,g5,g12,g13,x2,x3];refine bY (fun hc=>?_) (fun hc=>?_)
 ·have w1:=bU (i:=i) (by omega);have hfl:(((List.range i).filter fun k:Nat=>(cS v us p k).isSome).map fun k:Nat=>(k:Int)).length≤i:=by
   rw[cN];have:=List.length_filter_le (fun k:Nat=>(cS v us p k).isSome) (List.range i);simpa using this
  obtain⟨acc,hacc⟩:∃acc,acc=(((List.range i).filter fun k:Nat=>(cS v us p k).isSome).map fun k:Nat=>(k:Int)):=⟨_,rfl⟩;have hnx:(((List.range (i+1)).filter fun k:Nat=>(cS v us p k).isSome).map fun k:Nat=>(k:Int))=if(cS v us p i).isSome then acc++[(i:Int)]else acc:=by
   rw[nY,nr,lk,←hacc];by_cases q:(cS v us p i).isSome=true
   ·simp[q]
   ·simp[q]
  rw[←hacc]at W hfl;obtain⟨rfl,_⟩:=id W;simp -implicitDefEqProofs[g2,g3,g5,g12,g13,x2,x3,hCl,hCt,al];refine(hse i (by omega) G E).mono ?_;rintro r h' ⟨E2,R⟩;have W2:=W.ext E2;cases q2:cS v us p i with
  |none=>
   rw[q2]at R;subst R;rw[q2]at hnx;simp only[Option.isSome_none,ff,if_false]at hnx;simp -implicitDefEqProofs[af,g2,g3,g5,g12,g13,x2,x3,w1];intro _;exact⟨v.ag.length-(i+1),by omega,i+1,o,_,rfl,by omega,E.trans E2,by rw[hnx];exact W2,by simp[x2,x3,al]⟩
  |some l=>
   rw[q2]at R hnx;simp only[Option.isSome_some,if_true]at hnx;obtain⟨s,S,rfl⟩:=R;obtain⟨ad5,c5,rfl⟩:=S.shape;have hA:=jB rT W2 (i:Int) (by omega);simp only[ab]at hA;have hr1:List.range 1=[0]:=rfl;simp -implicitDefEqProofs[af,g2,g3,g5,g12,g13,x2,x3,w1,aP,hr1,hA];intro _;refine⟨v.ag.length-(i+1),by omega,i+1,some (h'.n+1),.slice (some ⟨h'.n+1,0,none⟩) (acc.length+1) (acc.length+1),rfl,by omega,jD (E.trans E2) W2 _ _,?_,by simp[x2,x3,al]⟩;rw[hnx];exact Ow.one W2 (E.trans E2).n _ (i:Int) rfl
 ·have e:i=v.ag.length:=by omega
  subst e;have hfin:cL 3 ab h G w (ij v us p):=W.own;obtain⟨acc,hacc⟩:∃acc,acc=ij v us p:=⟨_,rfl⟩;rw[←hacc]at hfin ⊢;obtain⟨ad,rfl,_⟩:=id hfin;simp -implicitDefEqProofs[g2,g3,g5,g12,g13,x2,x3];exact⟨E,hfin⟩
def u9 (v:aj) (a b:Int) (i k:Nat):Bool:=decide (a+i≠b+k)&& !lu (iT v (a+i).toNat) (iT v (b+k).toNat) v.bC
def Be (v:aj) (a b:Int) (Q i:Nat):Bool:=(List.range Q).all (u9 v a b i)
theorem Um (v:aj) (p:aV) (a:Int) (q:aV) (b:Int):dS v p a q b=(List.range p.size.toNat).all (Be v a b q.size.toNat):=rfl
def RU (h:aa) (v:aj) (cs:List Value) (p q:aV) (a b:Int) (n:Nat) (σ:St):Prop:=∃i:Nat,n=p.size.toNat-i∧i≤p.size.toNat∧Ext h σ.m.h∧(List.range i).all (Be v a b q.size.toNat)=true∧
 σ.t.get 2=some (.int .i64 a)∧σ.t.get 4=some (.int .i64 b)∧σ.t.get 5=some (.pointer (some ⟨5,0,some 0⟩))∧σ.t.get 6=some (.pointer (some ⟨6,0,some 0⟩))∧σ.t.get 8=some (.pointer (some ⟨8,0,some 0⟩))∧σ.t.get 11=some (.int .i64 (a+(i:Int)))∧
 σ.m.x.look 5=some (239,cs)∧σ.m.x.look 6=some (29,al p)∧σ.m.x.look 8=some (29,al q)
def RV (h:aa) (v:aj) (cs:List Value) (p q:aV) (a b:Int) (i:Nat) (n:Nat) (σ:St):Prop:=∃k:Nat,n=q.size.toNat-k∧k≤q.size.toNat∧Ext h σ.m.h∧(List.range k).all (u9 v a b i)=true∧
 σ.t.get 2=some (.int .i64 a)∧σ.t.get 4=some (.int .i64 b)∧σ.t.get 5=some (.pointer (some ⟨5,0,some 0⟩))∧σ.t.get 6=some (.pointer (some ⟨6,0,some 0⟩))∧σ.t.get 8=some (.pointer (some ⟨8,0,some 0⟩))∧σ.t.get 11=some (.int .i64 (a+(i:Int)))∧σ.t.get 12=some (.int .i64 (b+(k:Int)))∧
 σ.m.x.look 5=some (239,cs)∧σ.m.x.look 6=some (29,al p)∧σ.m.x.look 8=some (29,al q)
theorem zj (v:aj) (us:List Bool) (M:tb v us) (cs:List Value) (p:aV) (a:Int) (q:aV) (b:Int) (ha:0≤a∧a+p.size≤v.ag.length) (hb:0≤b∧b+q.size≤v.ag.length) (hp:0≤p.size) (hq:0≤q.size) (h:aa) (H:iU h v us cs):
  ao PP 222 [.agg ⟨cs⟩,fh p,.int .i64 a,fh q,.int .i64 b] h (fun r h'=>Ext h h'∧r= .bool (dS v p a q b)):=by
 refine aC mix (aD Tryz.func222) rfl rfl rfl aez ?_;simp only[ai,Tryz.f222];have hlen:=M.may.len;have hrad:=M.may.bC;obtain⟨vc,uv,rfl,hv,hu⟩:=H;obtain⟨s,k,pp,rfl,h1,h2,h3⟩:=hv;obtain⟨ad1,c1,e1⟩:=h1.shape;obtain⟨ad2,c2,e2⟩:=h2.shape;obtain⟨ad3,c3,e3⟩:=h3.shape;obtain⟨ad4,c4,e4⟩:=hu.shape;subst e1;subst e2;subst e3;subst e4;obtain⟨C,hC⟩:∃C,C=[Value.slice ad1 v.ag.length c1,.int .i64 v.aW,.int .i64 v.bC,.slice ad2 v.aE.length c2,.slice ad3 v.aI.length c3]++[Value.slice ad4 us.length c4]:=⟨_,rfl⟩;have hCl:C.length=6:=by rw[hC];rfl
 have hC0:C.take 1=[.slice ad1 v.ag.length c1]:=by rw[hC];rfl
 have hC2:C.drop 2= .int .i64 v.bC::C.drop 3:=by rw[hC];rfl
 have w0:IntKind.wrap .i64 (a+p.size)=a+p.size:=bK (by omega);have w9:IntKind.wrap .i64 (b+q.size)=b+q.size:=bK (by omega);rw[Um];simp -implicitDefEqProofs[fh,al];refine bL (RU h v C p q a b) _ ⟨0,rfl,by omega,Ext.bJ h,rfl,by simp[hC,al]⟩ ?_;rintro n ⟨T,⟨x,G⟩⟩ ⟨i,rfl,hi,E,aQ,g2,g4,g5,g6,g8,g11,x5,x6,x8⟩;simp at E g2 g4 g5 g6 g8 g11 x5 x6 x8;simp -implicitDefEqProofs[g2,g4,g5,g6,g8,g11,x5,x6,x8,al,w0];refine bY (fun hc=>?_) (fun hc=>?_)
 ·have hip:i<p.size.toNat:=by omega
  simp -implicitDefEqProofs[g2,g4,g5,g6,g8,g11,x5,x6,x8,al];refine bL (RV h v C p q a b i) _ ⟨0,rfl,by omega,E,rfl,by simp[x5,x6,al,x8]⟩ ?_;clear g2 g4 g5 g6 g8 g11 x5 x6 x8;rintro n ⟨T,⟨x,G⟩⟩ ⟨k,rfl,hk,E,hall2,g2,g4,g5,g6,g8,g11,g12,x5,x6,x8⟩;simp at E g2 g4 g5 g6 g8 g11 g12 x5 x6 x8;simp -implicitDefEqProofs[g2,g4,g5,g6,g8,g11,g12,x5,x6,x8,al,w9];refine bY (fun hc=>?_) (fun hc=>?_)
  ·have hkq:k<q.size.toNat:=(by omega);have fin:u9 v a b i k=false→(List.range p.size.toNat).all (Be v a b q.size.toNat)=false:=fun hf=>V.all_false hip (V.all_false hkq hf);obtain⟨A,hA⟩:∃A:Nat,a+(i:Int)=A:=⟨(a+i).toNat,by omega⟩;obtain⟨Bn,hB⟩:∃Bn:Nat,b+(k:Int)=Bn:=⟨(b+k).toNat,by omega⟩;have hAl:A<v.ag.length:=(by omega);have hBl:Bn<v.ag.length:=(by omega);have hcell:u9 v a b i k=(decide (A≠Bn)&& !lu (iT v A) (iT v Bn) v.bC):=by
    unfold u9;rw[hA,hB,jN,jN];have e:decide ((A:Int)≠(Bn:Int))=decide (A≠Bn):=(by rw[decide_eq_decide];omega);rw[e]
   have w1:IntKind.wrap .i64 ((Bn:Int)+1)=b+((k+1:Nat):Int):=(by rw[bK (by omega)];omega);rw[hA]at g11;rw[hB]at g12;rw[hA,hB];by_cases q1:A=Bn
   ·have hf:=fin (by rw[hcell];simp[q1]);have q1':(A:Int)=(Bn:Int):=(by omega);simp -implicitDefEqProofs[g2,g4,g5,g6,g8,g11,g12,x5,x6,x8,al,q1,q1',hf];exact E
   ·have q1':¬(A:Int)=(Bn:Int):=(by omega);have hs0:=uC hAl;have hs1:=uC hBl;obtain⟨t,ht⟩:∃t,t=iT v A:=⟨_,rfl⟩;obtain⟨u,hu⟩:∃u,u=iT v Bn:=⟨_,rfl⟩;rw[←ht]at hs0;rw[←hu]at hs1;obtain⟨_,bb,o,cells,r,rfl,bI,hd,hlc,_⟩:=(h1.ext E).at 4 V.gK hs0;obtain⟨_,b',o',cells',r',e,hb',hd',hlc',_⟩:=(h1.ext E).at 4 V.gK hs1;simp only[aw,Addr.mk.injEq,and_true]at e;obtain⟨rfl,rfl⟩:=e;rw[bI]at hb';simp only[aZ.row.injEq,true_and]at hb';obtain rfl:=hb';have k0:(cells.drop (o+A*4)).take 4=au t:=(by rw[hd];rfl);have k1:(cells.drop (o+Bn*4)).take 4=au u:=(by rw[hd'];rfl);simp only[au]at k0 k1;have hcl:=GL t u v.bC (by omega) G;simp only[bD,au]at hcl;simp -implicitDefEqProofs[g2,g4,g5,g6,g8,g11,g12,x5,x6,x8,al,q1,q1',hC0,hC2,hCl,hAl,hBl,bI,k0,k1,hlc,hlc'];refine hcl.mono ?_;rintro r h' ⟨E2,rfl⟩;by_cases q2:lu t u v.bC=true
    ·have hf:=fin (by rw[hcell,←ht,←hu,q2];simp);simp -implicitDefEqProofs[af,q2,hf];intro _;exact E.trans E2
    ·simp -implicitDefEqProofs[af,q2,g2,g4,g5,g6,g8,g11,g12,x5,x6,x8,al,w1];intro _;exact⟨q.size.toNat-(k+1),by omega,k+1,rfl,by omega,E.trans E2,V.all_succ hall2 (by rw[hcell,←ht,←hu];simp[q1,q2]),by simp[hA,x5,x6,al,x8]⟩
  ·have e:k=q.size.toNat:=(by omega);subst e;have w1:IntKind.wrap .i64 (a+(i:Int)+1)=a+((i+1:Nat):Int):=(by rw[bK (by omega)];omega);simp -implicitDefEqProofs[g2,g4,g5,g6,g8,g11,g12,x5,x6,x8,al,w1];exact⟨p.size.toNat-(i+1),by omega,i+1,rfl,by omega,E,V.all_succ aQ hall2,by simp[x5,x6,al,x8]⟩
 ·have e:i=p.size.toNat:=by omega
  subst e;simp -implicitDefEqProofs[g2,g4,g5,g6,g8,g11,x5,x6,x8,al,aQ];exact E
def lD (x:Int):List Int→Nat→Int
 |[],_=>-1
 |a::r,i=>if x=a then(i:Int)else lD x r (i+1)
def RT (s:Value) (l:List Int) (x:Int) (h:aa) (m n:Nat) (σ:St):Prop:=∃i:Nat,n=m-i∧i≤m∧σ.m.h=h∧σ.t.get 0=some s∧σ.t.get 1=some (.int .i64 x)∧σ.t.get 7=some (.int .i64 (m:Nat))∧σ.t.get 8=some (.int .i64 (i:Nat))∧lD x l 0=lD x (l.drop i) i
theorem Y2 (s:Value) (l:List Int) (x:Int) (hl:l.length≤1073741824) (h:aa) (hs:bq h s l):ao PP 218 [s,.int .i64 x] h (fun v h'=>h'=h∧v= .int .i64 (lD x l 0)):=by
 refine aC mix (aD Tryz.func218) rfl rfl rfl Og ?_;simp only[ai,Tryz.f218];obtain⟨ad,c,rfl⟩:=hs.shape;obtain⟨m,hm⟩:∃m,m=l.length:=⟨_,rfl⟩;rw[←hm]at hs ⊢;simp -implicitDefEqProofs;refine bL (RT (.slice ad m c) l x h m) _ ⟨0,rfl,by omega,rfl,by simp,by simp,by simp,by simp,rfl⟩ ?_;rintro n ⟨T,⟨y,H⟩⟩ ⟨i,rfl,hi,hH,g0,g1,g7,g8,hq⟩;simp at hH g0 g1 g7 g8;subst hH;simp -implicitDefEqProofs[g0,g1,g7,g8];refine bY (fun hc=>?_) (fun hc=>?_)
 ·have hil:i<m:=by omega
  have hti:l[i]? =some l[i]:=av (by omega);obtain⟨_,b,o,wb,cs,r,rfl,hb,hd,hlc,_⟩:=hs.at 1 V.dV hti;obtain⟨t,ht⟩:∃t,t=l[i]:=⟨_,rfl⟩;rw[←ht]at hd hti;have w1:=bU (i:=i) (by omega);have hlc':o+i+1≤cs.length:=by omega
  have hdr:l.drop i=t::l.drop (i+1):=by rw[ht];exact ie (by omega)
  rw[Nat.mul_one]at hd;by_cases h1:x=t
  ·have hp:lD x l 0=(i:Int):=(by rw[hq,hdr,lD,if_pos h1]);simp -implicitDefEqProofs[g0,g1,g7,g8,hil,hb,hd,hlc',ab,h1];rw[←h1,hp]
  ·have hp:lD x l 0=lD x (l.drop (i+1)) (i+1):=(by rw[hq,hdr,lD,if_neg h1]);simp -implicitDefEqProofs[g0,g1,g7,g8,hil,hb,hd,hlc',ab,h1,w1];exact⟨m-(i+1),by omega,i+1,rfl,by omega,rfl,by simp[g0],by simp[g1],by simp[g7],by simp,hp⟩
 ·have hp:lD x l 0= -1:=by rw[hq,List.drop_of_length_le (by omega)];rfl
  simp -implicitDefEqProofs[g0,g1,g7,g8,hp]
theorem YV (x:Int) (l:List Int) (i:Nat):0≤lD x l i↔x∈l:=by
 induction l generalizing i with
 |nil=>simp[lD]
 |cons a r ih=>
  rw[lD];split
  ·rename_i h;simp[h]
  ·rename_i h;rw[ih,cE];simp[h]
theorem GX (s:Value) (l:List Int) (x:Int) (hl:l.length≤1073741824) (h:aa) (hs:bq h s l):ao PP 162 [s,.int .i64 x] h (fun v h'=>h'=h∧v= .bool (decide (x∈l))):=by
 refine aC mix (aD Tryz.func162) rfl rfl rfl Od ?_;simp only[ai,Tryz.f162];obtain⟨ad,c,rfl⟩:=hs.shape;simp -implicitDefEqProofs;refine(Y2 _ l x hl h hs).mono ?_;rintro v h' ⟨rfl,rfl⟩;have e:decide (x∈l)=decide (0≤lD x l 0):=by rw[decide_eq_decide,YV]
 simp -implicitDefEqProofs[af,e]
def tG (v:aj) (s k:Nat):Bool:=match v.aI[k]? with
 |some p=>lu (iT v s) ⟨0,p.x,p.y,0⟩ p.r
 |none=>false
def tP (v:aj) (s:Nat):List Int:=if v.aE.contains (s:Int)then[-1]else[]
def lq (v:aj) (s i:Nat):List Int:=tP v s++((List.range i).filter (tG v s)).map fun k:Nat=>(k:Int)
theorem Vg (v:aj) (s:Nat):tC v s=lq v s v.aI.length:=rfl
theorem Vi (v:aj) (s i:Nat):lq v s (i+1)=if tG v s i=true then lq v s i++[(i:Int)]else lq v s i:=by
 unfold lq;rw[nY,nr,lk,←eD];by_cases q:tG v s i=true
 ·simp[q]
 ·simp[q]
theorem Vh (v:aj) (s i:Nat):(lq v s i).length≤i+1:=by
 unfold lq;rw[bF,cN];have:=List.length_filter_le (tG v s) (List.range i);rw[qy]at this;have h2:(tP v s).length≤1:=by unfold tP;split<;>simp
 omega
def RR (h:aa) (v:aj) (cs:List Value) (s:Nat) (pv:Value) (m n:Nat) (σ:St):Prop:=∃(i:Nat) (o:Option Nat) (w:Value),n=m-i∧i≤m∧Ext h σ.m.h∧Ow 3 ab h σ.m.h o (lq v s i) w∧
 σ.t.get 1=some (.int .i64 (s:Nat))∧σ.t.get 2=some (.pointer (some ⟨2,0,some 0⟩))∧σ.t.get 5=some w∧σ.t.get 16=some pv∧σ.t.get 17=some (.int .i64 (m:Nat))∧σ.t.get 18=some (.int .i64 (i:Nat))∧σ.m.x.look 2=some (63,cs)
def SS (h:aa) (v:aj) (cs:List Value) (s:Nat) (σ:St):Prop:=∃(o:Option Nat) (w:Value),Ext h σ.m.h∧Ow 3 ab h σ.m.h o (lq v s 0) w∧σ.t.get 1=some (.int .i64 (s:Nat))∧σ.t.get 2=some (.pointer (some ⟨2,0,some 0⟩))∧σ.t.get 5=some w∧σ.m.x.look 2=some (63,cs)
theorem Vj (v:aj) (M:gY v) (cs:List Value) (s:Nat) (hs:s<v.ag.length) (h:aa) (H:fw h v cs):
  ao PP 210 [.agg ⟨cs⟩,.int .i64 (s:Nat)] h (fun r h'=>Ext h h'∧cL 3 ab h h' r (tC v s)):=by
 refine aC mix (aD Tryz.func210) rfl rfl rfl aen ?_;simp only[ai,Tryz.f210];have hpl:=M.AY;have hcon:=fun kv hk=>GX kv v.aE (s:Int) (by have:=M.Ak;omega) h hk;obtain⟨sv,k,pp,rfl,h1,h2,h3⟩:=H;obtain⟨ad1,c1,e1⟩:=h1.shape;obtain⟨ad2,c2,e2⟩:=h2.shape;obtain⟨ad3,c3,e3⟩:=h3.shape;subst e1;subst e2;subst e3;obtain⟨C,hC⟩:∃C,C=[Value.slice ad1 v.ag.length c1,.int .i64 v.aW,.int .i64 v.bC,.slice ad2 v.aE.length c2,.slice ad3 v.aI.length c3]:=⟨_,rfl⟩;have hCl:C.length=5:=by rw[hC];rfl
 have hC0:C.take 1=[.slice ad1 v.ag.length c1]:=by rw[hC];rfl
 have hC3:C.drop 3= .slice ad2 v.aE.length c2::C.drop 4:=by rw[hC];rfl
 have hC4:C.drop 4=[.slice ad3 v.aI.length c3]:=by rw[hC];rfl
 rw[←hC];have hr1:List.range 1=[0]:=rfl;simp -implicitDefEqProofs[hCl,hC3];refine(hcon _ h2.sl).mono ?_;rintro r h' ⟨e,rfl⟩;replace e:=e.symm;subst e;simp -implicitDefEqProofs[af];intro _;refine wT (SS h v C s) ?_ ?_
 ·by_cases q1:(s:Int)∈v.aE
  ·have hb:lq v s 0=[-1]:=(by simp[lq,tP,q1]);simp -implicitDefEqProofs[q1,aP,hr1,dq,dM,dC];refine⟨some (h.n+1),.slice (some ⟨h.n+1,0,none⟩) 1 1,(Ext.new _ _).bN _,?_,by simp[hC]⟩;rw[hb];exact⟨rfl,by simp[ab],by omega,by simp⟩
  ·have hb:lq v s 0=[]:=(by simp[lq,tP,q1]);simp -implicitDefEqProofs[q1];refine⟨none,.slice none 0 0,Ext.bJ h,?_,by simp[hC]⟩;rw[hb];exact Ow.nil
 ·rintro⟨T,⟨x,G⟩⟩ ⟨o,w,E,W,g1,g2,g5,x2⟩;simp at E W g1 g2 g5 x2;have hwn:cu w=true:=by rw[W.1];rfl
  simp only[cu,iY,Option.isNone_iff_eq_none]at hwn;simp -implicitDefEqProofs[g1,g2,g5,x2,hCl,hC4];refine bL (RR h v C s (.slice ad3 v.aI.length c3) v.aI.length) _ ⟨0,o,w,rfl,by omega,E,W,by simp[hwn,x2]⟩ ?_;clear g1 g2 g5 x2 E W hwn;rintro n ⟨T,⟨x,G⟩⟩ ⟨i,o,w,rfl,hi,E,W,g1,g2,g5,g16,g17,g18,x2⟩;simp at E W g1 g2 g5 g16 g17 g18 x2;have hwn:cu w=true:=by rw[W.1];rfl
  simp only[cu,iY,Option.isNone_iff_eq_none]at hwn;simp -implicitDefEqProofs[g1,g2,g5,g16,g17,g18,x2,hwn];refine bY (fun hc=>?_) (fun hc=>?_)
  ·have hip:i<v.aI.length:=(by omega);have w1:=bU (i:=i) (by omega);have hpi:v.aI[i]? =some v.aI[i]:=av hip;obtain⟨p,hp⟩:∃p,p=v.aI[i]:=⟨_,rfl⟩;rw[←hp]at hpi;have bp:=M.gv hpi;obtain⟨_,b,o1,cells,r,rfl,hb,hd,hlc,_⟩:=(h3.ext E).at 3 V.pQ hpi;have k0:(cells.drop (o1+i*3)).take 3=bg p:=(by rw[hd];rfl);have hss:=uC hs;obtain⟨t,ht⟩:∃t,t=iT v s:=⟨_,rfl⟩;rw[←ht]at hss;obtain⟨_,b',o2,cells',r',rfl,hb',hd',hlc',_⟩:=(h1.ext E).at 4 V.gK hss;have k1:(cells'.drop (o2+s*4)).take 4=au t:=(by rw[hd'];rfl);simp only[au,bg]at k0 k1;have hcl:=GL t ⟨0,p.x,p.y,0⟩ p.r (by omega) G;simp only[bD,au]at hcl;have hcP:tG v s i=lu t ⟨0,p.x,p.y,0⟩ p.r:=(by unfold tG;rw[hpi,ht]);have hsu:=Vi v s i;rw[hcP]at hsu;have hll:=Vh v s i;simp -implicitDefEqProofs[g1,g2,g5,g16,g17,g18,x2,hwn,hip,hb,k0,hlc,hC0,hCl,hs,hb',k1,hlc',bg];refine hcl.mono ?_;rintro r h' ⟨E2,rfl⟩;have W2:=W.ext E2;by_cases q1:lu t ⟨0,p.x,p.y,0⟩ p.r=true
   ·rw[if_pos q1]at hsu;obtain⟨acc,hacc⟩:∃acc,acc=lq v s i:=⟨_,rfl⟩;rw[←hacc]at W2 hsu hll;obtain⟨rfl,_⟩:=id W2;have hA:=jB rT W2 (i:Int) (by omega);simp only[ab]at hA;simp -implicitDefEqProofs[af,q1,g1,g2,g5,g16,g17,g18,x2,w1,aP,hr1,hA];intro _;refine⟨v.aI.length-(i+1),by omega,i+1,some (h'.n+1),.slice (some ⟨h'.n+1,0,none⟩) (acc.length+1) (acc.length+1),rfl,by omega,jD (E.trans E2) W2 _ _,?_,by simp[x2]⟩;rw[hsu];exact Ow.one W2 (E.trans E2).n _ (i:Int) rfl
   ·rw[if_neg q1]at hsu;simp -implicitDefEqProofs[af,q1,g1,g2,g5,g16,g17,g18,x2,w1,hwn];intro _;exact⟨v.aI.length-(i+1),by omega,i+1,o,w,rfl,by omega,E.trans E2,by rw[hsu];exact W2,by simp[hwn,x2]⟩
  ·have e:i=v.aI.length:=(by omega);subst e;rw[←Vg]at W;have hfin:=W.own;simp -implicitDefEqProofs[g1,g2,g5,g16,g17,g18,x2,hwn];exact⟨E,hfin⟩
theorem nT {α:Type} (f:α→Value) (l:List α) (i:Nat) (b:α) (hi:i<l.length):(l.map f).take i++f b::(l.map f).drop (i+1)=(l.set i b).map f:=by
 rw[←List.map_take,←List.map_drop,List.set_eq_take_append_cons_drop,if_pos hi,lk,eT]
theorem aaq (l:List Int):l.map (Value.int .i64)=l.flatMap ab:=by
 induction l with
 |nil=>rfl
 |cons a r ih=>rw[eT,gF,ih];rfl
theorem aar (l:List Bool):l.map Value.bool=l.flatMap eX:=by
 induction l with
 |nil=>rfl
 |cons a r ih=>rw[eT,gF,ih];rfl
def ml (v:aj) (m i:Nat):List Bool:=(List.range m).map fun k=>if k<i then(tC v k).isEmpty else false
theorem al5 (v:aj) (m i:Nat) (hi:i<m):(ml v m i).set i (tC v i).isEmpty=ml v m (i+1):=by
 unfold ml;apply List.ext_getElem
 ·simp
 ·intro j h1 h2;rw[List.getElem_set];split
  ·rename_i e;subst e;simp
  ·rename_i e;simp only[List.getElem_map,List.getElem_range];by_cases q:j<i
   ·rw[if_pos q,if_pos (by omega)]
   ·rw[if_neg q,if_neg (by omega)]
theorem uK (v:aj) (m i:Nat):(ml v m i).length=m:=by simp[ml]
theorem v8 {v:aj} (h:aN v=true):ml v v.ag.length v.ag.length=cd v:=by
 unfold ml cd;rw[if_pos h];refine List.map_congr_left fun k hk=>?_;rw[dv]at hk;rw[if_pos hk]
def RC (h:aa) (v:aj) (cs:List Value) (m n:Nat) (σ:St):Prop:=∃i:Nat,n=m-i∧i≤m∧Ext h σ.m.h∧σ.m.h.f h.n= .row true 4 ((ml v m i).map Value.bool)∧h.n<σ.m.h.n∧
 σ.t.get 1=some (.pointer (some ⟨1,0,some 0⟩))∧σ.t.get 3=some (.slice (some ⟨h.n,0,none⟩) m m)∧σ.t.get 13=some (.int .i64 (m:Nat))∧σ.t.get 14=some (.int .i64 (i:Nat))∧σ.m.x.look 1=some (63,cs)
theorem Qu (v:aj) (M:aN v=true) (cs:List Value) (h:aa) (H:fw h v cs):
  ao PP 155 [.agg ⟨cs⟩] h (fun r h'=>Ext h h'∧aK 4 eX h' r (cd v)):=by
 refine ao.jT (post:=fun v' h'=>Ext h h'∧cL 4 eX h h' v' (cd v)) ?_ (fun v h' ⟨E,W⟩=>by
  obtain⟨h'',w,E',S⟩:=W.dB E;exact⟨h'',w,E',S⟩)
 refine aC mix (aD Tryz.func155) rfl rfl rfl adv ?_;simp only[ai,Tryz.f155];have F:=k8 M;have hlen:=F.len;have hm:=V.mS v cs F.small h H.dF;have hby:=fun s hs h' E=>Vj v F cs s hs h' (H.ext E);obtain⟨sv,k,pp,rfl,h1,h2,h3⟩:=H;obtain⟨ad1,c1,e1⟩:=h1.shape;obtain⟨ad2,c2,e2⟩:=h2.shape;obtain⟨ad3,c3,e3⟩:=h3.shape;subst e1;subst e2;subst e3;obtain⟨C,hC⟩:∃C,C=[Value.slice ad1 v.ag.length c1,.int .i64 v.aW,.int .i64 v.bC,.slice ad2 v.aE.length c2,.slice ad3 v.aI.length c3]:=⟨_,rfl⟩;have hCl:C.length=5:=by rw[hC];rfl
 have hCt:C.take 5=C:=bZ (by omega);have hC0:C.take 1=[.slice ad1 v.ag.length c1]:=by rw[hC];rfl
 rw[←hC]at hm hby ⊢;simp -implicitDefEqProofs[hCl,hCt];refine hm.mono ?_;rintro r h' ⟨e,rfl⟩;replace e:=e.symm;subst e;have hz:=yM (.bool false) v.ag.length;have hmx:v.ag.length≤140737488355328:=by omega
 have h00:¬(v.ag.length:Int)<0:=by omega
 have hu0:List.replicate v.ag.length (Value.bool false)=(ml v v.ag.length 0).map Value.bool:=by
  unfold ml;apply List.ext_getElem
  ·simp
  ·intro j h1 h2;simp
 simp -implicitDefEqProofs[af,M,hCl,hC0,oQ,dC,hz,hmx,h00];intro _;rw[hu0];refine bL (RC h v C v.ag.length) _ ⟨0,rfl,by omega,Ext.new _ _,by simp[hC]⟩ ?_;rintro n ⟨T,⟨x,G⟩⟩ ⟨i,rfl,hi,E,hrow,hn,g1,g3,g13,g14,x1⟩;simp at E hrow hn g1 g3 g13 g14 x1;simp -implicitDefEqProofs[g1,g3,g13,g14,x1];refine bY (fun hc=>?_) (fun hc=>?_)
 ·have him:i<v.ag.length:=by omega
  have w1:=bU (i:=i) (by omega);simp -implicitDefEqProofs[g1,g3,g13,g14,x1,hCl,hCt];refine(hby i him G E).mono ?_;rintro r h' ⟨E2,W⟩;obtain⟨ad,rfl,_⟩:=id W;obtain⟨L,hL⟩:∃L,L=tC v i:=⟨_,rfl⟩;rw[←hL]at W ⊢;have hrow2:h'.f h.n= .row true 4 ((ml v v.ag.length i).map Value.bool):=by rw[E2.f _ hn,hrow]
  obtain⟨cells,hcells⟩:∃cells,cells=(ml v v.ag.length i).map Value.bool:=⟨_,rfl⟩;rw[←hcells]at hrow2;have hcl:cells.length=v.ag.length:=by rw[hcells,cN,uK]
  have hil:i+1≤cells.length:=by omega
  have hem:L.isEmpty=decide (L.length=0):=by cases L<;>simp
  have hts:=nT Value.bool (ml v v.ag.length i) i L.isEmpty (by rw[uK];exact him);rw[hL,al5 v _ i him,←hL,←hcells,hem]at hts;simp -implicitDefEqProofs[af,g1,g3,g13,g14,x1,w1,him,hrow2,hil];intro _;refine⟨v.ag.length-(i+1),by omega,i+1,rfl,by omega,(E.trans E2).dh (a8 _) _,?_,de hn E2.n,by simp[x1]⟩;rw[←hts];by_cases q:L=[]
  ·subst q;simp
  ·have q2:¬L.length=0:=fun e=>q (nu.1 e);simp[q]
 ·have e:i=v.ag.length:=by omega
  subst e;rw[v8 M,aar]at hrow;have hul:(cd v).length=v.ag.length:=by rw[←v8 M,uK]
  simp -implicitDefEqProofs[g1,g3,g13,g14,x1];exact⟨E,_,by rw[hul],.inr ⟨_,rfl,hrow,a8 _,hn⟩⟩
def qQ (v:aj) (k:Nat):Bool:= !(cd v).getD k true
theorem Zm (v:aj):ik v=((List.range (cd v).length).filter (qQ v)).map fun k:Nat=>(k:Int):=rfl
def kL (v:aj) (i:Nat):List Int:=((List.range i).filter (qQ v)).map fun k:Nat=>(k:Int)
theorem Zk (v:aj) (i:Nat):kL v (i+1)=if qQ v i=true then kL v i++[(i:Int)]else kL v i:=by
 unfold kL;rw[nY,nr,lk];by_cases q:qQ v i=true
 ·simp[q]
 ·simp[q]
theorem Zj (v:aj) (i:Nat):(kL v i).length≤i:=by
 unfold kL;rw[cN];have:=List.length_filter_le (qQ v) (List.range i);rwa[qy]at this
def Rx (h:aa) (v:aj) (uv:Value) (m n:Nat) (σ:St):Prop:=∃(i:Nat) (o:Option Nat) (w:Value),n=m-i∧i≤m∧Ext h σ.m.h∧aK 4 eX σ.m.h uv (cd v)∧Ow 3 ab h σ.m.h o (kL v i) w∧
 σ.t.get 3=some w∧σ.t.get 7=some uv∧σ.t.get 8=some (.int .i64 (m:Nat))∧σ.t.get 9=some (.int .i64 (i:Nat))
theorem Zo (v:aj) (M:aN v=true) (cs:List Value) (h:aa) (H:fw h v cs):
  ao PP 115 [.agg ⟨cs⟩] h (fun r h'=>Ext h h'∧aK 3 ab h' r (ik v)):=by
 refine ao.jT (post:=fun v' h'=>Ext h h'∧cL 3 ab h h' v' (ik v)) ?_ (fun v h' ⟨E,W⟩=>by
  obtain⟨h'',w,E',S⟩:=W.dB E;exact⟨h'',w,E',S⟩)
 refine aC mix (aD Tryz.func115) rfl rfl rfl acY ?_;simp only[ai,Tryz.f115];have F:=k8 M;have hlen:=F.len;have hu:=Qu v M cs h H;obtain⟨sv,k,pp,rfl,h1,h2,h3⟩:=H;obtain⟨ad1,c1,e1⟩:=h1.shape;obtain⟨ad2,c2,e2⟩:=h2.shape;obtain⟨ad3,c3,e3⟩:=h3.shape;subst e1;subst e2;subst e3;have hul:(cd v).length=v.ag.length:=by rw[←v8 M,uK]
 have hr1:List.range 1=[0]:=rfl;simp -implicitDefEqProofs;refine hu.mono ?_;rintro r G ⟨E,S⟩;obtain⟨ad,c,rfl⟩:=S.shape;rw[Zm];obtain⟨m,hm⟩:∃m,m=(cd v).length:=⟨_,rfl⟩;have hmm:m=v.ag.length:=hm.trans hul;rw[←hm]at S ⊢;simp -implicitDefEqProofs[af];intro _;refine bL (Rx h v (.slice ad m c) m) _ ⟨0,none,_,rfl,by omega,E,S,Ow.nil,by simp⟩ ?_;clear E S;rintro n ⟨T,⟨x,G⟩⟩ ⟨i,o,w,rfl,hi,E,S,W,g3,g7,g8,g9⟩;simp at E S W g3 g7 g8 g9;have hwn:cu w=true:=by rw[W.1];rfl
 simp only[cu,iY,Option.isNone_iff_eq_none]at hwn;simp -implicitDefEqProofs[g3,g7,g8,g9,hwn];refine bY (fun hc=>?_) (fun hc=>?_)
 ·have him:i<m:=by omega
  have w1:=bU (i:=i) (by omega);have hti:(cd v)[i]? =some (cd v)[i]:=av (by omega);obtain⟨_,b,o1,cells,r,rfl,hb,hd,hlc,_⟩:=S.at 1 zr hti;rw[Nat.mul_one]at hd;have hlc':o1+i+1≤cells.length:=by omega
  obtain⟨t,ht⟩:∃t,t=(cd v)[i]:=⟨_,rfl⟩;rw[←ht]at hd hti;have hnk:qQ v i= !t:=by unfold qQ;rw[bB,hti];rfl
  have hsu:=Zk v i;have hll:=Zj v i;rw[hnk]at hsu;have S0:=S;obtain⟨acc,hacc⟩:∃acc,acc=kL v i:=⟨_,rfl⟩;rw[←hacc]at W hsu hll;have hA:=jB rT W (i:Int) (by omega);simp only[ab]at hA;obtain⟨rfl,_⟩:=id W;cases t with
  |false=>
   simp only[Bool.not_false,if_true]at hsu;simp -implicitDefEqProofs[g3,g7,g8,g9,him,hb,hd,hlc',eX,w1,aP,hr1,hA];refine⟨m-(i+1),by omega,i+1,some (G.n+1),.slice (some ⟨G.n+1,0,none⟩) (acc.length+1) (acc.length+1),rfl,by omega,jD E W _ _,?_,?_,by simp⟩
   ·refine aK.eY S (S:=o.toList) ?_ ?_
    ·refine⟨zk _ _ _,by rw[df];show G.n≤G.n+1+1;omega,fun b hb hs=>?_⟩;rw[qz _ _ _ (show b<G.n+1 by omega) (fun q=>hs (by simp[q]))];simp[show¬b=G.n by omega]
    ·intro b hb;obtain rfl:o=some b:=(by simpa using hb);exact⟨_,_,W.row⟩
   ·rw[hsu];exact Ow.one W E.n _ (i:Int) rfl
  |true=>
   simp only[Bool.not_true,ff,if_false]at hsu;simp -implicitDefEqProofs[g3,g7,g8,g9,him,hb,hd,hlc',eX,w1];exact⟨m-(i+1),by omega,i+1,o,_,rfl,by omega,E,S,by rw[hsu];exact W,by simp⟩
 ·have e:i=m:=by omega
  subst e;have W2:Ow 3 ab h G o (((List.range i).filter (qQ v)).map fun k:Nat=>(k:Int)) w:=W;have hfin:=W2.own;simp -implicitDefEqProofs[g3,g7,g8,g9,hwn];exact⟨E,hfin⟩
theorem JD (v:aj) (M:aN v=true) (cs:List Value) (h:aa) (H:fw h v cs):
  ao PP 204 [.agg ⟨cs⟩] h (fun r h'=>Ext h h'∧∃hc,iU h' v (cd v) hc∧r= .tuple #[.agg ⟨hc⟩,.bool true]):=by
 refine aC mix (aD Tryz.func204) rfl rfl rfl aeg ?_;simp only[ai,Tryz.f204];have F:=k8 M;have hu:=Qu v M cs h H;have hm:=fun h' E=>V.mS v cs F.small h' (H.ext E).dF;have H0:=H;obtain⟨sv,k,pp,rfl,h1,h2,h3⟩:=H;obtain⟨ad1,c1,e1⟩:=h1.shape;obtain⟨ad2,c2,e2⟩:=h2.shape;obtain⟨ad3,c3,e3⟩:=h3.shape;subst e1;subst e2;subst e3;simp -implicitDefEqProofs;refine hu.mono ?_;rintro r G ⟨E,S⟩;obtain⟨ad,c,rfl⟩:=S.shape;simp -implicitDefEqProofs[aJ];intro _;refine(hm G E).mono ?_;rintro r h' ⟨e,rfl⟩;replace e:=e.symm;subst e;simp -implicitDefEqProofs[aJ,M];intro _;exact⟨E,[Value.slice ad1 v.ag.length c1,.int .i64 v.aW,.int .i64 v.bC,.slice ad2 v.aE.length c2,.slice ad3 v.aI.length c3],.slice ad (cd v).length c,rfl,H0.ext E,S⟩
end Go.Proofs.Ybk.K
namespace Go.Am
open Go
structure Kp (h h':aa):Prop where
 g:h'.g=h.g
 n:h.n≤h'.n
 f:∀b,b<h.n→∀e cs,h.f b= .row false e cs→h'.f b= .row false e cs
theorem Kp.refl (h:aa):Kp h h:=⟨rfl,a8 _,fun _ _ _ _ q=>q⟩
theorem Ext.kp {h h':aa} (E:Ext h h'):Kp h h':=⟨E.g,E.n,fun b hb e cs q=>by rw[E.f b hb];exact q⟩
theorem Kp.trans {h h' h'':aa} (a:Kp h h') (b:Kp h' h''):Kp h h'':=
 ⟨b.g.trans a.g,eW a.n b.n,fun i hi e cs q=>b.f i (de hi a.n) e cs (a.f i hi e cs q)⟩
theorem cP.kp {S:List Nat} {h h':aa} (C:cP S h h') (hs:ic S h):Kp h h':=
 ⟨C.g,C.n,fun b hb e cs q=>by
  rw[C.f b hb (fun z=>by obtain⟨e',cs',q'⟩:=hs b z;rw[q]at q';cases q')];exact q⟩
theorem Kp.set {h h':aa} (K:Kp h h') {b:Nat} (hb:∀e cs,h'.f b≠.row false e cs) (x:aZ):Kp h (h'.set b x):=
 ⟨K.g,K.n,fun i hi e cs q=>by
  have:=K.f i hi e cs q;rw[gT,if_neg (fun z=>hb e cs (by rw[←z];exact this))];exact this⟩
theorem Kp.new {h h':aa} (K:Kp h h') (x:aZ):Kp h (h'.new x):=K.trans (Ext.new h' x).kp
theorem Kp.app {h h':aa} (K:Kp h h') {o:Option Nat} (ho:∀b,o=some b→∀e cs,h'.f b≠.row false e cs) (c:aZ):Kp h (cg h' o c):=by
 cases o with
 |none=>exact K.new c
 |some b=>exact(K.set (ho b rfl) .dead).new c
section
variable {α:Type} {e:TypeId} {enc:α→List Value} {h0 h h':aa} {o:Option Nat} {v:Value} {xs:List α}
theorem aK.kp (H:aK e enc h v xs) (K:Kp h h'):aK e enc h' v xs:=by
 obtain⟨ad,c,q,n,z⟩:=H;refine⟨ad,c,q,n,?_⟩;rcases z with z|⟨b,off,cells,rest,z1,z2,z3,z4,z5⟩
 ·exact .inl z
 ·exact .inr ⟨b,off,cells,rest,z1,K.f b z5 _ _ z2,z3,z4,de z5 K.n⟩
theorem Ow.nf (W:Ow e enc h0 h o xs v):∀b,o=some b→∀e' cs,h.f b≠.row false e' cs:=by
 rintro b rfl e' cs q;have:=W.row;rw[q]at this;cases this
theorem ZB (W:Ow e enc h0 h o xs v) (c c':aZ):Kp h (cg (h.new c) o c'):=by
 refine((Kp.refl h).new c).app (fun b hb e' cs q=>?_) c';have hlt:=(W.lt b hb).2;have:(h.new c).f b=h.f b:=by rw[qF,if_neg (by omega)]
 rw[this]at q;exact W.nf b hb e' cs q
end
section
variable {P:Program} {cfg:az}
def wV (M:St→Prop) (Q:Ex→St→Prop):Ex→St→Prop
 | .normal,σ=>M σ
 |e,σ=>Q e σ
theorem WD {M:St→Prop} {Q:Ex→St→Prop} {σ:St}:wV M Q .normal σ=M σ:=rfl
theorem WE {M:St→Prop} {Q:Ex→St→Prop} {σ:St}:wV M Q .ret σ=Q .ret σ:=rfl
theorem WC {M:St→Prop} {Q:Ex→St→Prop} {σ:St} (i:Nat):wV M Q (.exit i) σ=Q (.exit i) σ:=rfl
theorem wi (n:Nat) (M:St→Prop):∀{c:Code} {Q:Ex→St→Prop} {σ:St},vc P cfg (tQ n c) (wV M Q) σ→(∀σ',M σ'→vc P cfg (uH n c) Q σ')→vc P cfg c Q σ:=by
 induction n with
 |zero=>intro c Q σ h1 h2;have:=h2 σ h1;rw[qg]at this;exact this
 |succ n ih=>
  intro c Q σ h1 h2;cases c with
  |seq a b=>
   refine yK a _ _ (fun e σ' h=>?_) σ h1;cases e with
   |normal=>exact ih h h2
   |exit j=>exact h
   |ret=>exact h
  |_=>exact h2 σ h1
end
attribute [simp ↓] WD WE WC
end Go.Am
namespace Go.Proofs.Ybk.K
open Go Go.Am
set_option maxHeartbeats 4000000
open V (aq aU aj au bg ab bD aN aB cF cJ bq bR)
theorem fw.kp {h h':aa} {v:aj} {cs:List Value} (H:fw h v cs) (K:Kp h h'):fw h' v cs:=by
 obtain⟨s,k,p,rfl,h1,h2,h3⟩:=H;exact⟨s,k,p,rfl,h1.kp K,h2.kp K,h3.kp K⟩
theorem iU.kp {h h':aa} {v:aj} {us:List Bool} {cs:List Value} (H:iU h v us cs) (K:Kp h h'):iU h' v us cs:=by
 obtain⟨vc,uv,rfl,h1,h2⟩:=H;exact⟨vc,uv,rfl,h1.kp K,h2.kp K⟩
def eZ:List (Int×Int)→Nat→List MapEntry
 |[],_=>[]
 |p::r,i=>⟨.int .i64 p.1,.int .i64 p.2,i⟩::eZ r (i+1)
theorem XE (l k:List (Int×Int)) (i:Nat):eZ (l++k) i=eZ l i++eZ k (i+l.length):=by
 induction l generalizing i with
 |nil=>rfl
 |cons a r ih=>simp only[dp,eZ,ih,eE];rw[show i+1+r.length=i+(r.length+1) by omega]
def l6:List (Int×Int)→Int→Nat→Option (Nat×Int)
 |[],_,_=>none
 |p::r,k,i=>if p.1=k then some (i,p.2)else l6 r k (i+1)
theorem XZ (k:Int) (l:List (Int×Int)) (i j:Nat):Instr.findNow (.int .i64) (.int .i64 k) (eZ l i) j=some ((l6 l k j).map fun p=>(p.1,.int .i64 p.2)):=by
 induction l generalizing i j with
 |nil=>rfl
 |cons p r ih=>
  simp only[eZ,Instr.findNow,l6,Instr.sameNow,if_true];by_cases q:p.1=k
  ·have:(k==p.1)=true:=(by simp[q]);rw[this,if_pos q];rfl
  ·have:(k==p.1)=false:=(by simp;omega);rw[this,if_neg q];exact ih (i+1) (j+1)
theorem aaf (l:List (Int×Int)) (k:Int) (i:Nat):(l6 l k i).map (fun p=>p.2)=(l.find? fun p=>decide (p.1=k)).map fun p=>p.2:=by
 induction l generalizing i with
 |nil=>rfl
 |cons p r ih=>
  rw[l6,List.find?_cons];by_cases q:p.1=k
  ·simp[q]
  ·simp[q,ih]
theorem aag {l:List (Int×Int)} {k:Int} (h:∀p∈l,p.1≠k) (i:Nat):l6 l k i=none:=by
 induction l generalizing i with
 |nil=>rfl
 |cons p r ih=>
  rw[l6,if_neg (h p (by simp))];exact ih (fun q hq=>h q (by simp[hq])) _
theorem gM:PP=Tryz.prog:=by unfold PP;rfl
theorem GI (e:Bool) (k:Int):(Instr.checkKey e 10000 3 (.int .i64 k)).aR PP=some ():=by
 rw[gM];cases e<;>kernel_rfl
theorem Jh (k:Int) (l:List (Int×Int)) (i:Nat):(Instr.findKey 3 (.int .i64 k) (eZ l i)).aR PP=some ((l6 l k 0).map fun p=>(p.1,.int .i64 p.2)):=by
 simp only[Instr.findKey,cH,oV Qc,dZ];rw[XZ];rfl
theorem zM (k:Int) (l:List (Int×Int)):(pC 3 3 (.int .i64 k) (eZ l 0).toArray true).aR PP=some (.tuple #[.int .i64 (((l6 l k 0).map fun p=>p.2).getD 0),.bool (l6 l k 0).isSome]):=by
 have hz:(zeroValue 3).aR PP=some (.int .i64 0):=by rw[gM];kernel_rfl
 simp only[pC,cH,GI,dZ,Jh];cases hp:l6 l k 0 with
 |none=>
  show(zeroValue 3 >>= fun a=>pure (Value.tuple #[a,.bool false]):Sem Value).aR PP=_;rw[cH,hz];rfl
 |some p=>simp[cH,sR]
theorem amx (k:Int) (l:List (Int×Int)):(s8 3 (.int .i64 k) (eZ l 0).toArray).aR PP=some ((l6 l k 0).map fun p=>(p.1,.int .i64 p.2)):=by
 simp only[s8,cH,GI,dZ,Jh]
def jM (h:aa) (s:bO) (cs:List Value):Prop:=∃hc lv mb,cs=hc++[lv,.map (some mb)]∧iU h s.v s.us hc∧aK 29 al h lv s.l∧h.f mb= .obj (.map (eZ s.pins 0).toArray s.pins.length)∧mb<h.n
def rD (cs:List Value):Prop:=∃a1 n1 c1 g r a2 n2 c2 a3 n3 c3 a4 n4 c4 a5 n5 c5 mb,cs=[.slice a1 n1 c1,.int .i64 g,.int .i64 r,.slice a2 n2 c2,.slice a3 n3 c3,.slice a4 n4 c4,.slice a5 n5 c5,.map (some mb)]
def Te (v:aj) (us:List Bool) (l:List aV) (acc:List (Int×Int)):Prop:=∀p∈acc,0≤p.1∧p.1<l.length∧((cS v us (l.getD p.1.toNat default) p.2).isSome=true)
theorem q8 {v:aj} {us:List Bool} {p:aV} {a:Int} (h:(cS v us p a).isSome=true):ez p=true∧1≤p.size∧p.size≤8∧0≤a∧a+p.size≤v.ag.length:=by
 unfold cS at h;split at h
 ·rename_i hm;split at h
  ·rename_i l hl;have:=yE hl;have hs:p.size≤8:=(by have hm':=hm;unfold ez at hm';simp at hm';omega);exact⟨hm,this.2.1,hs,this.2.2.1,this.2.2.2⟩
  ·cases h
 ·cases h
theorem YY (v:aj) (us:List Bool) (l:List aV) (acc:List (Int×Int)) (p f:Int) (r:List (Int×Int)):jo v us l acc ((p,f)::r)=(if kO acc p || decide (p<0) || decide ((l.length:Int)≤p)then none
  else if(cS v us (l.getD p.toNat default) f).isNone then none
  else if acc.all fun q=>dS v (l.getD p.toNat default) f (l.getD q.1.toNat default) q.2 then jo v us l (acc++[(p,f)]) r else none):=rfl
def rC (acc:List (Int×Int)):Prop:=acc.Pairwise fun a b=>a.1<b.1
theorem Pc {acc:List (Int×Int)} (h:rC acc) {p f:Int} (hn:kO acc p=false):rC (acc++[(p,f)]):=by
 unfold rC at h ⊢;rw[nZ];refine⟨h,List.pairwise_singleton _ _,fun a ha b hb=>?_⟩;obtain rfl:=eo.1 hb;rcases List.eq_nil_or_concat acc with e|⟨r,q,e⟩
 ·subst e;cases ha
 ·rw[List.concat_eq_append]at e;subst e;unfold kO at hn;rw[List.getLast?_append]at hn;simp at hn;rcases ei.1 ha with z|z
  ·have:=(nZ.1 h).2.2 a z q (by simp);simp only;omega
  ·obtain rfl:=eo.1 z;exact hn
theorem aim {acc:List (Int×Int)} (h:rC acc) {p:Int} (hn:kO acc p=false):∀q∈acc,q.1≠p:=by
 intro q hq;have:=Pc h (f:=0) hn;unfold rC at this;have:=(nZ.1 this).2.2 q hq (p,0) (by simp);simp only at this;omega
def RE (h:aa) (v:aj) (us:List Bool) (l:List aV) (pins:List (Int×Int)) (hc:List Value) (lv pv:Value) (mb:Nat) (z6:List Value) (m n:Nat) (σ:St):Prop:=∃i:Nat,n=m-i∧i≤m∧Ext h σ.m.h∧iU σ.m.h v us hc∧h.n≤mb∧mb<σ.m.h.n∧σ.m.h.f mb= .obj (.map (eZ (pins.take i) 0).toArray i)∧
 jo v us l [] pins=jo v us l (pins.take i) (pins.drop i)∧Te v us l (pins.take i)∧rC (pins.take i)∧
 σ.t.get 1=some lv∧σ.t.get 2=some pv∧σ.t.get 6=some (.pointer (some ⟨6,0,some 0⟩))∧σ.t.get 8=some (.pointer (some ⟨8,0,some 0⟩))∧σ.t.get 10=some (.pointer (some ⟨10,0,some 0⟩))∧σ.t.get 34=some pv∧σ.t.get 35=some (.int .i64 (m:Nat))∧σ.t.get 36=some (.int .i64 (i:Nat))∧
 σ.m.x.look 6=some (242,z6)∧σ.m.x.look 8=some (239,hc)∧σ.m.x.look 10=some (242,hc++[lv,.map (some mb)])
def SP (H:aa) (lv pv:Value) (m i:Nat) (p f:Int) (z6 hc c10:List Value) (σ:St):Prop:=σ.m.h=H∧σ.t.get 1=some lv∧σ.t.get 2=some pv∧σ.t.get 6=some (.pointer (some ⟨6,0,some 0⟩))∧σ.t.get 8=some (.pointer (some ⟨8,0,some 0⟩))∧σ.t.get 10=some (.pointer (some ⟨10,0,some 0⟩))∧σ.t.get 11=some (.int .i64 (i:Nat))∧σ.t.get 12=some (.pointer (some ⟨12,0,some 0⟩))∧
 σ.t.get 34=some pv∧σ.t.get 35=some (.int .i64 (m:Nat))∧σ.t.get 36=some (.int .i64 (i:Nat))∧σ.m.x.look 6=some (242,z6)∧σ.m.x.look 8=some (239,hc)∧σ.m.x.look 10=some (242,c10)∧σ.m.x.look 12=some (69,[.int .i64 p,.int .i64 f])
def SN (H:aa) (lv pv:Value) (m i:Nat) (p f:Int) (z:Bool) (z6 hc c10:List Value) (σ:St):Prop:=σ.m.h=H∧σ.t.get 1=some lv∧σ.t.get 2=some pv∧σ.t.get 6=some (.pointer (some ⟨6,0,some 0⟩))∧σ.t.get 8=some (.pointer (some ⟨8,0,some 0⟩))∧σ.t.get 10=some (.pointer (some ⟨10,0,some 0⟩))∧σ.t.get 11=some (.int .i64 (i:Nat))∧σ.t.get 12=some (.pointer (some ⟨12,0,some 0⟩))∧
 σ.t.get 34=some pv∧σ.t.get 35=some (.int .i64 (m:Nat))∧σ.t.get 36=some (.int .i64 (i:Nat))∧σ.t.get 65=some (.bool z)∧σ.m.x.look 6=some (242,z6)∧σ.m.x.look 8=some (239,hc)∧σ.m.x.look 10=some (242,c10)∧σ.m.x.look 12=some (69,[.int .i64 p,.int .i64 f])
def RF (h:aa) (v:aj) (us:List Bool) (l:List aV) (pins:List (Int×Int)) (X:aV) (q:Nat) (f:Int) (hc c10:List Value) (lv pv tv:Value) (mb:Nat) (z6:List Value) (m i n:Nat) (σ:St):Prop:=∃k:Nat,n=i-k∧k≤i∧Ext h σ.m.h∧iU σ.m.h v us hc∧mb<σ.m.h.n∧σ.m.h.f mb= .obj (.map (eZ (pins.take i) 0).toArray i)∧
 ((pins.take k).all fun y=>dS v X f (l.getD y.1.toNat default) y.2)=true∧
 σ.t.get 1=some lv∧σ.t.get 2=some pv∧σ.t.get 6=some (.pointer (some ⟨6,0,some 0⟩))∧σ.t.get 8=some (.pointer (some ⟨8,0,some 0⟩))∧σ.t.get 10=some (.pointer (some ⟨10,0,some 0⟩))∧σ.t.get 12=some (.pointer (some ⟨12,0,some 0⟩))∧σ.t.get 34=some pv∧σ.t.get 35=some (.int .i64 (m:Nat))∧σ.t.get 36=some (.int .i64 (i:Nat))∧
 σ.t.get 84=some tv∧σ.t.get 85=some (.int .i64 (i:Nat))∧σ.t.get 86=some (.int .i64 (k:Nat))∧σ.m.x.look 6=some (242,z6)∧σ.m.x.look 8=some (239,hc)∧σ.m.x.look 10=some (242,c10)∧σ.m.x.look 12=some (69,[.int .i64 (q:Nat),.int .i64 f])
def wC (h:aa) (r:Option bO) (v:Value) (h':aa):Prop:=Ext h h'∧∃cs,rD cs∧v= .tuple #[.agg ⟨cs⟩,.bool r.isSome]∧∀s,r=some s→jM h' s cs
theorem ahb (v:aj) (M:aN v=true) (cs:List Value) (lv pv:Value) (l:List aV) (pins:List (Int×Int)) (hl:l.length≤1073741824) (hp:pins.length≤1073741824) (hpf:∀p∈pins,-4611686018427387904≤p.2∧p.2≤4611686018427387904) (h:aa) (H:fw h v cs) (hs:aK 29 al h lv l) (hps:aK 69 kQ h pv pins):
  ao PP 170 [.agg ⟨cs⟩,lv,pv] h (wC h (fL v l pins)):=by
 refine aC mix (aD Tryz.func170) rfl rfl rfl adP ?_;simp only[ai,Tryz.f170];have F:=k8 M;have hin:=JD v M cs h H;have aQ:=fun h' E=>Cp lv l hl h' (hs.ext (h':=h') E).sl;have hul:(cd v).length≤1073741824:=by rw[←v8 M,uK];have:=F.len;omega
 have HM:tb v (cd v):=⟨F,hul⟩;have hset:fL v l pins=if fV l then(jo v (cd v) l [] pins).map fun a=>⟨v,cd v,l,a⟩else none:=by unfold fL;rw[M,tu]
 obtain⟨sv,k,pp,rfl,h1,h2,h3⟩:=H;obtain⟨ad1,c1,e1⟩:=h1.shape;obtain⟨ad2,c2,e2⟩:=h2.shape;obtain⟨ad3,c3,e3⟩:=h3.shape;subst e1;subst e2;subst e3;obtain⟨ad5,c5,e5⟩:=hs.shape;obtain⟨ad6,c6,e6⟩:=hps.shape;subst e5;subst e6;simp -implicitDefEqProofs;refine hin.mono ?_;rintro r G ⟨E,hc,HF,rfl⟩;have hcs:∃a1 n1 c1 g r a2 n2 c2 a3 n3 c3 a4 n4 c4,hc=[.slice a1 n1 c1,.int .i64 g,.int .i64 r,.slice a2 n2 c2,.slice a3 n3 c3,.slice a4 n4 c4]:=by
  obtain⟨vc,uv,rfl,⟨s,k,p,rfl,h1,h2,h3⟩,h4⟩:=HF;obtain⟨b1,d1,rfl⟩:=h1.shape;obtain⟨b2,d2,rfl⟩:=h2.shape;obtain⟨b3,d3,rfl⟩:=h3.shape;obtain⟨b4,d4,rfl⟩:=h4.shape;exact⟨_,_,_,_,_,_,_,_,_,_,_,_,_,_,rfl⟩
 obtain⟨b1,n1,d1,g,rr,b2,n2,d2,b3,n3,d3,b4,n4,d4,rfl⟩:=hcs;simp -implicitDefEqProofs[af];intro _;obtain⟨mb,hmb⟩:∃mb,mb=G.n:=⟨_,rfl⟩;obtain⟨G1,hG1⟩:∃G1,G1=G.new (.obj (.map #[] 0)):=⟨_,rfl⟩;have E1:Ext G G1:=by rw[hG1];exact Ext.new _ _
 have hmb1:G1.n=mb+1:=by rw[hG1,hmb];rfl
 have hmf:G1.f mb= .obj (.map #[] 0):=by rw[hG1,hmb];simp
 rw[←hG1,←hmb];refine(aQ _ (E.trans E1)).mono ?_;rintro r h' ⟨e,rfl⟩;replace e:=e.symm;subst e;have HF1:=HF.ext E1;by_cases qa:fV l=true
 ·rw[if_pos qa]at hset;rw[hset];obtain⟨us,hus⟩:∃us,us=cd v:=⟨_,rfl⟩;rw[←hus]at HF1 HM ⊢;obtain⟨hc,hhc⟩:∃hc,hc=[Value.slice b1 n1 d1,.int .i64 g,.int .i64 rr,.slice b2 n2 d2,.slice b3 n3 d3,.slice b4 n4 d4]:=⟨_,rfl⟩;rw[←hhc]at HF1;have hcl:hc.length=6:=by rw[hhc];rfl
  have hct:hc.take 6=hc:=bZ (by omega);obtain⟨m,hm⟩:∃m,m=pins.length:=⟨_,rfl⟩;have fin:∀(H:aa) (r:Option (List (Int×Int))),Ext h H→(∀a,r=some a→iU H v us hc∧aK 29 al H (.slice ad5 l.length c5) l∧H.f mb= .obj (.map (eZ a 0).toArray a.length)∧mb<H.n)→
    wC h (r.map fun a=>(⟨v,us,l,a⟩:bO)) (.tuple #[.agg ⟨hc++[.slice ad5 l.length c5,.map (some mb)]⟩,.bool (r.map fun a=>(⟨v,us,l,a⟩:bO)).isSome]) H:=by
   intro H r EH hr;refine⟨EH,_,?_,rfl,fun s hs=>?_⟩
   ·rw[hhc];exact⟨_,_,_,_,_,_,_,_,_,_,_,_,_,_,_,_,_,_,rfl⟩
   ·cases r with
    |none=>cases hs
    |some a=>
     simp only[fJ,aw]at hs;subst hs;obtain⟨f1,f2,f3,f4⟩:=hr a rfl;exact⟨hc,_,mb,rfl,f1,f2,f3,f4⟩
  simp -implicitDefEqProofs[af,qa];intro _;rw[←hm];refine bL (RE h v us l pins hc (.slice ad5 l.length c5) (.slice ad6 m c6) mb [.slice none 0 0,.int .i64 0,.int .i64 0,.slice none 0 0,.slice none 0 0,.slice none 0 0,.slice none 0 0,.map none] m) _ ⟨0,rfl,by omega,by simpa using E.trans E1,by simpa using HF1,by rw[hmb];exact E.n,by simp;omega,by simpa[eZ]using hmf,by simp,by intro p hp;simp at hp,by simp[rC,hhc]⟩ ?_;rintro n ⟨T,⟨x,H⟩⟩ ⟨i,rfl,hi,EH,HH,hmb0,hmbn,hmbf,hgo,hPO,hR,g1,g2,g6,g8,g10,g34,g35,g36,x6,x8,x10⟩;simp at EH HH hmbn hmbf g1 g2 g6 g8 g10 g34 g35 g36 x6 x8 x10;simp -implicitDefEqProofs[g1,g2,g6,g8,g10,g34,g35,g36,x6,x8,x10];refine iM (fun hc'=>?_) (fun hc'=>?_)<;>simp only[dP,lp]at hc'
  ·have him:i<m:=(by omega);have hpi:pins[i]? =some pins[i]:=av (by omega);obtain⟨pf,hpf'⟩:∃pf,pf=pins[i]:=⟨_,rfl⟩;rw[←hpf']at hpi;obtain⟨p,f⟩:=pf;have hfr:=hpf (p,f) (dY hpi);simp only at hfr;have hdrop:pins.drop i=(p,f)::pins.drop (i+1):=(by rw[hpf'];exact ie (by omega));have htake:pins.take (i+1)=pins.take i++[(p,f)]:=(by rw[fI,hpi];rfl);have hpsH:=hps.ext EH;rw[←hm]at hpsH;obtain⟨_,bp,op,cells,r,rfl,hb,hd,hlc,hbn⟩:=hpsH.at 2 vK hpi;have hk0:(cells.drop (op+i*2)).take 2=[.int .i64 p,.int .i64 f]:=(by rw[hd];rfl);have hnu:kO (pins.take i) p=(decide (0<i)&&decide (p≤(pins.getD (i-1) default).1)):=by
    rcases Nat.eq_zero_or_pos i with e|e
    ·subst e;simp[kO]
    ·obtain⟨j,rfl⟩:∃j,i=j+1:=⟨i-1,by omega⟩;have hj:pins[j]? =some pins[j]:=av (by omega);have hlast:(pins.take (j+1)).getLast? =some pins[j]:=by
      rw[List.getLast?_eq_getElem?,cQ,Nat.min_eq_left (by omega)];simp[List.getElem?_take,hj]
     unfold kO;rw[hlast];simp[bB,hj]
   have hstep:=hgo;rw[hdrop,YY]at hstep;have bad:∀(cond:(kO (pins.take i) p || decide (p<0) || decide ((l.length:Int)≤p))=true∨(cS v us (l.getD p.toNat default) f).isNone=true∨((pins.take i).all fun q=>dS v (l.getD p.toNat default) f (l.getD q.1.toNat default) q.2)=false),jo v us l [] pins=none:=by
    intro cond;rw[hstep];by_cases z1:(kO (pins.take i) p || decide (p<0) || decide ((l.length:Int)≤p))=true
    ·rw[if_pos z1]
    ·rw[if_neg z1];by_cases z2:(cS v us (l.getD p.toNat default) f).isNone=true
     ·rw[if_pos z2]
     ·rw[if_neg z2];rcases cond with q|q|q
      ·exact absurd q z1
      ·exact absurd q z2
      ·rw[if_neg (by rw[q];decide)]
   have finN:∀(H:aa),Ext h H→jo v us l [] pins=none→wC h ((jo v us l [] pins).map fun a=>(⟨v,us,l,a⟩:bO)) (.tuple #[.agg ⟨hc++[.slice ad5 l.length c5,.map (some mb)]⟩,.bool false]) H:=by
    intro H EH hn;have:=fin H none EH (fun a ha=>by cases ha);rw[hn];exact this
   have tail:∀(H:aa),True:=fun _=>trivial;have w1:=bU (i:=i) (by omega);have hcL:(hc++[Value.slice ad5 l.length c5,Value.map (some mb)]).length=8:=(by simp[hcl]);obtain⟨A,hA⟩:∃A,A=hc++[Value.slice ad5 l.length c5,Value.map (some mb)]:=⟨_,rfl⟩;have hAl:A.length=8:=(by rw[hA];exact hcL);have hAt:A.take 8=A:=bZ (by omega);have hA7:A.drop 7=[.map (some mb)]:=(by rw[hA,hhc];rfl);have hAo:A.all one=true:=(by rw[hA,hhc];rfl);rw[←hA]at x10 finN;simp only[zD,QE,PN];rw[BD,Qz];refine QA 1 (SP H (.slice ad5 l.length c5) (.slice (some ⟨bp,op,none⟩) m c6) m i p f [.slice none 0 0,.int .i64 0,.int .i64 0,.slice none 0 0,.slice none 0 0,.slice none 0 0,.slice none 0 0,.map none] hc A) ?_ ?_
   ·simp only[sa,rZ];simp -implicitDefEqProofs[g1,g2,g6,g8,g10,g34,g35,g36,x6,x8,x10,him,hb,hk0,hlc];exact⟨rfl,by simp[x6,x8,x10,hA]⟩
   clear g1 g2 g6 g8 g10 g34 g35 g36 x6 x8 x10;rintro⟨T,⟨x,H2⟩⟩ ⟨e,g1,g2,g6,g8,g10,g11,g12,g34,g35,g36,x6,x8,x10,x12⟩;replace e:H=H2:=e.symm;subst e;simp at g1 g2 g6 g8 g10 g11 g12 g34 g35 g36 x6 x8 x10 x12;simp only[sZ,qg];rw[BD];refine QA 1 (SN H (.slice ad5 l.length c5) (.slice (some ⟨bp,op,none⟩) m c6) m i p f (kO (pins.take i) p || decide (p<0) || decide ((l.length:Int)≤p)) [.slice none 0 0,.int .i64 0,.int .i64 0,.slice none 0 0,.slice none 0 0,.slice none 0 0,.slice none 0 0,.map none] hc A) ?_ ?_
   ·simp only[sa,rZ];rw[hnu];by_cases z0:0<i
    ·obtain⟨j,hj⟩:∃j,j=i-1:=⟨_,rfl⟩;have hjm:j<m:=(by omega);have hpj:pins[j]? =some pins[j]:=av (by omega);obtain⟨pf2,hpf2⟩:∃pf,pf=pins[j]:=⟨_,rfl⟩;rw[←hpf2]at hpj;obtain⟨p2,f2⟩:=pf2;obtain⟨_,bp',op',cells',r',e,hb',hd',hlc',_⟩:=hpsH.at 2 vK hpj;simp only[aw,Addr.mk.injEq,and_true]at e;obtain⟨rfl,rfl⟩:=e;rw[hb]at hb';simp only[aZ.row.injEq,true_and]at hb';obtain rfl:=hb';have hk1:cells.drop (op+j*2)= .int .i64 p2:: .int .i64 f2::r':=hd';have hk1l:op+j*2+1≤cells.length:=(by omega);have w2:IntKind.wrap .i64 ((i:Int)-1)=(j:Int):=(by rw[bK (by omega)];omega);have z0':(0:Int)<(i:Int):=(by omega);have hgd:(pins.getD (i-1) default).1=p2:=(by rw[←hj,bB,hpj];rfl);rw[hgd];by_cases z2:p≤p2
     ·simp -implicitDefEqProofs[g1,g2,g6,g8,g10,g11,g12,g34,g35,g36,x6,x8,x10,x12,him,hb,hlc,z0,z0',w2,hjm,hk1,hk1l,z2];exact⟨rfl,by simp[x6,x8,x10,x12]⟩
     by_cases z3:p<0
     ·simp -implicitDefEqProofs[g1,g2,g6,g8,g10,g11,g12,g34,g35,g36,x6,x8,x10,x12,him,hb,hlc,z0,z0',w2,hjm,hk1,hk1l,z2,z3];exact⟨rfl,by simp[x6,x8,x10,x12]⟩
     ·simp -implicitDefEqProofs[g1,g2,g6,g8,g10,g11,g12,g34,g35,g36,x6,x8,x10,x12,him,hb,hlc,z0,z0',w2,hjm,hk1,hk1l,z2,z3];exact⟨rfl,by simp[x6,x8,x10,x12]⟩
    ·have z0':¬(0:Int)<(i:Int):=(by omega);by_cases z3:p<0
     ·simp -implicitDefEqProofs[g1,g2,g6,g8,g10,g11,g12,g34,g35,g36,x6,x8,x10,x12,him,hb,hlc,z0,z0',z3];exact⟨rfl,by simp[x6,x8,x10,x12]⟩
     ·simp -implicitDefEqProofs[g1,g2,g6,g8,g10,g11,g12,g34,g35,g36,x6,x8,x10,x12,him,hb,hlc,z0,z0',z3];exact⟨rfl,by simp[x6,x8,x10,x12]⟩
   clear g1 g2 g6 g8 g10 g11 g12 g34 g35 g36 x6 x8 x10;rintro⟨T,⟨x,H2⟩⟩ ⟨e,g1,g2,g6,g8,g10,g11,g12,g34,g35,g36,g65,x6,x8,x10,x12⟩;replace e:H=H2:=e.symm;subst e;simp at g1 g2 g6 g8 g10 g11 g12 g34 g35 g36 g65 x6 x8 x10 x12;simp only[sZ,qg];obtain⟨z,hz⟩:∃z,z=(kO (pins.take i) p || decide (p<0) || decide ((l.length:Int)≤p)):=⟨_,rfl⟩;rw[←hz]at g65;cases z with
   |true=>
    have hbad:=finN H EH (bad (.inl hz.symm));simp -implicitDefEqProofs[g1,g2,g6,g8,g10,g11,g12,g34,g35,g36,g65,x6,x8,x10,x12,hAl,hAt,hAo];exact hbad
   |false=>
    have hz':=hz.symm;simp only[Bool.or_eq_false_iff,lp]at hz';obtain⟨⟨hn0,hp0⟩,hpl⟩:=hz';obtain⟨q,rfl⟩:∃q:Nat,p=q:=⟨p.toNat,by omega⟩;have hql:q<l.length:=(by omega);have hti:l[q]? =some l[q]:=av hql;obtain⟨X,hX⟩:∃X,X=l[q]:=⟨_,rfl⟩;rw[←hX]at hti;have hgX:l.getD (q:Int).toNat default=X:=(by rw[jN,bB,hti];rfl);obtain⟨_,bl,ol,cl,rl,rfl,hbl,hdl,hlcl,hbln⟩:=(hs.ext EH).at 2 me hti;have hkl:(cl.drop (ol+q*2)).take 2=[.int .i64 X.size,.int .i64 X.du]:=(by rw[hdl];rfl);have hse:=xp v us HM hc X f hfr H HH;simp only[fh,al]at hse;rw[hgX]at bad;simp -implicitDefEqProofs[g1,g2,g6,g8,g10,g11,g12,g34,g35,g36,g65,x6,x8,x10,x12,hAl,hAt,hcl,hct,hql,hbl,hkl,hlcl];refine hse.mono ?_;rintro r H3 ⟨E3,R⟩;have EH3:=EH.trans E3;cases hsx:cS v us X f with
    |none=>
     rw[hsx]at R;subst R;have hbad:=finN H3 EH3 (bad (.inr (.inl (by rw[hsx];rfl))));simp -implicitDefEqProofs[af,g1,g2,g6,g8,g10,g11,g12,g34,g35,g36,g65,x6,x8,x10,x12,hAl,hAt,hAo];intro _;exact hbad
    |some ls=>
     rw[hsx]at R;obtain⟨sl,Ssl,rfl⟩:=R;obtain⟨ad7,c7,rfl⟩:=Ssl.shape;have hsome:(cS v us X f).isSome=true:=(by rw[hsx];rfl);have hXin:=q8 hsome;have HH3:=HH.ext E3;have hmbf3:H3.f mb= .obj (.map (eZ (pins.take i) 0).toArray i):=(by rw[E3.f _ hmbn];exact hmbf);have hmbn3:mb<H3.n:=de hmbn E3.n;have hb3:H3.f bp= .row false 69 cells:=(by rw[E3.f bp hbn];exact hb);have him':i≤m:=(by omega);simp -implicitDefEqProofs[af,g1,g2,g6,g8,g10,g11,g12,g34,g35,g36,g65,x6,x8,x10,x12,hAl,hAt,hAo,hb3,him'];intro _;refine bL (RF h v us l pins X q f hc A (.slice (some ⟨bl,ol,none⟩) l.length c5) (.slice (some ⟨bp,op,none⟩) m c6) (.slice (some ⟨bp,op,none⟩) i i) mb [.slice none 0 0,.int .i64 0,.int .i64 0,.slice none 0 0,.slice none 0 0,.slice none 0 0,.slice none 0 0,.map none] m i) _ ⟨0,rfl,by omega,by simpa using EH3,by simpa using HH3,by simpa using hmbn3,by simpa using hmbf3,by simp⟩ ?_;clear g1 g2 g6 g8 g10 g11 g12 g34 g35 g36 g65 x6 x8 x10 x12 hmbf3 hmbn3 hb3 HH3;rintro n ⟨T,⟨x,H4⟩⟩ ⟨k,rfl,hk,EH4,HH4,hmbn4,hmbf4,hall4,g1,g2,g6,g8,g10,g12,g34,g35,g36,g84,g85,g86,x6,x8,x10,x12⟩;simp at EH4 HH4 hmbn4 hmbf4 g1 g2 g6 g8 g10 g12 g34 g35 g36 g84 g85 g86 x6 x8 x10 x12;simp -implicitDefEqProofs[g1,g2,g6,g8,g10,g12,g34,g35,g36,g84,g85,g86,x6,x8,x10,x12];refine bY (fun hc2=>?_) (fun hc2=>?_)
     ·have hki:k<i:=(by omega);have hpk:pins[k]? =some pins[k]:=av (by omega);obtain⟨pf3,hpf3⟩:∃pf,pf=pins[k]:=⟨_,rfl⟩;rw[←hpf3]at hpk;have hmem:pf3∈pins.take i:=by
       rw[List.mem_take_iff_getElem];exact⟨k,by omega,hpf3.symm⟩
      have hPOk:=hPO pf3 hmem;obtain⟨p3,f3⟩:=pf3;simp only at hPOk;obtain⟨y,rfl⟩:∃y:Nat,p3=y:=⟨p3.toNat,by omega⟩;have hyl:y<l.length:=(by omega);have hty:l[y]? =some l[y]:=av hyl;obtain⟨Y,hY⟩:∃Y,Y=l[y]:=⟨_,rfl⟩;rw[←hY]at hty;have hgY:l.getD (y:Int).toNat default=Y:=(by rw[jN,bB,hty];rfl);rw[hgY]at hPOk;have hYin:=q8 hPOk.2.2;have hps4:=hps.ext EH4;rw[←hm]at hps4;obtain⟨_,bp',op',cells',r',e,hb4,hd4,hlc4,_⟩:=hps4.at 2 vK hpk;simp only[aw,Addr.mk.injEq,and_true]at e;obtain⟨rfl,rfl⟩:=e;have hkk:(cells'.drop (op+k*2)).take 2=[.int .i64 (y:Int),.int .i64 f3]:=(by rw[hd4];rfl);obtain⟨_,bl',ol',cl',rl',e,hbl4,hdl4,hlcl4,_⟩:=(hs.ext EH4).at 2 me hti;simp only[aw,Addr.mk.injEq,and_true]at e;obtain⟨rfl,rfl⟩:=e;obtain⟨_,bl2,ol2,cl2,rl2,e,hbl5,hdl5,hlcl5,_⟩:=(hs.ext EH4).at 2 me hty;simp only[aw,Addr.mk.injEq,and_true]at e;obtain⟨rfl,rfl⟩:=e;rw[hbl4]at hbl5;simp only[aZ.row.injEq,true_and]at hbl5;obtain rfl:=hbl5;have hkX:(cl'.drop (ol+q*2)).take 2=[.int .i64 X.size,.int .i64 X.du]:=(by rw[hdl4];rfl);have hkY:(cl'.drop (ol+y*2)).take 2=[.int .i64 Y.size,.int .i64 Y.du]:=(by rw[hdl5];rfl);have hap:=zj v us HM hc X f Y f3 ⟨hXin.2.2.2.1,hXin.2.2.2.2⟩ ⟨hYin.2.2.2.1,hYin.2.2.2.2⟩ (by omega) (by omega) H4 HH4;simp only[fh,al]at hap;have w3:=bU (i:=k) (by omega);simp -implicitDefEqProofs[g1,g2,g6,g8,g10,g12,g34,g35,g36,g84,g85,g86,x6,x8,x10,x12,hki,hb4,hkk,hlc4,hcl,hct,hql,hyl,hbl4,hkX,hkY,hlcl4,hlcl5];refine hap.mono ?_;rintro r H5 ⟨E5,rfl⟩;by_cases hq:dS v X f Y f3=true
      ·simp -implicitDefEqProofs[af,aJ,hq,g1,g2,g6,g8,g10,g12,g34,g35,g36,g84,g85,g86,x6,x8,x10,x12,w3];intro _;have htk:pins.take (k+1)=pins.take k++[((y:Int),f3)]:=(by rw[fI,hpk];rfl);refine⟨i-(k+1),by omega,k+1,rfl,by omega,EH4.trans E5,HH4.ext E5,de hmbn4 E5.n,by rw[E5.f _ hmbn4];exact hmbf4,?_,by simp[x6,x8,x10,x12]⟩;rw[htk,List.all_append,hall4];simp only[List.all_cons,List.all_nil,Bool.and_true,tu,hgY];exact hq
      ·have hbad:=finN H5 (EH4.trans E5) (bad (.inr (.inr (by
        rw[←mz,cq];intro hh;have:=hh _ hmem;simp only[hgY]at this;exact hq this))))
       simp -implicitDefEqProofs[af,aJ,hq,g1,g2,g6,g8,g10,g12,g34,g35,g36,g84,g85,g86,x6,x8,x10,x12,hAl,hAt,hAo]
       intro _
       exact hbad
     ·have e:k=i:=(by omega);subst e;have hwh:=amx (q:Int) (pins.take k);rw[aag (aim hR hn0)]at hwh;simp only[Option.map_none]at hwh;simp -implicitDefEqProofs[g1,g2,g6,g8,g10,g12,g34,g35,g36,g84,g85,g86,x6,x8,x10,x12,hAl,hAt,hA7,hmbf4,hwh,w1];have hgo2:jo v us l [] pins=jo v us l (pins.take (k+1)) (pins.drop (k+1)):=by
       rw[hstep,←hz,hgX,htake];simp only[ff,if_false];rw[if_neg (by rw[hsx];simp),if_pos hall4]
      have hents:(eZ (pins.take (k+1)) 0).toArray=(eZ (pins.take k) 0).toArray.push {key:=.int .i64 (q:Int),val:=.int .i64 f,born:=k}:=by
       rw[htake,XE];simp[eZ,show min k pins.length=k by omega]
      refine⟨m-(k+1),by omega,k+1,rfl,by omega,EH4.dh hmb0 _,HH4.kp ((Kp.refl H4).set (fun e cs q=>by rw[hmbf4]at q;cases q) _),hmb0,hmbn4,?_,hgo2,?_,?_,by simp[x6,x8,x10,hA]⟩
      ·simp[hents]
      ·rw[htake];intro y hy;rcases ei.1 hy with z|z
       ·exact hPO y z
       ·obtain rfl:=eo.1 z;exact⟨hp0 |> fun z=>by omega,by simp only;omega,by simp only;rw[hgX];exact hsome⟩
      ·rw[htake];exact Pc hR hn0
  ·have e:i=m:=(by omega);subst e;have hgo2:jo v us l [] pins=some pins:=(by rw[hgo,List.drop_of_length_le (by omega),bZ (by omega)];rfl);have hfin:=fin H (some pins) EH (fun a ha=>by
    obtain rfl:=bP ha;refine⟨HH,?_,?_,hmbn⟩
    ·exact hs.ext EH
    ·rw[hmbf,hm,bZ (a8 _)])
   rw[hgo2];simp only[fJ,Option.isSome_some]at hfin ⊢;have hA:(hc++[Value.slice ad5 l.length c5,Value.map (some mb)]).length=8:=(by simp[hcl]);obtain⟨A,hAA⟩:∃A,A=hc++[Value.slice ad5 l.length c5,Value.map (some mb)]:=⟨_,rfl⟩;rw[←hAA]at hfin hA x10 ⊢;have hAt:A.take 8=A:=bZ (by omega);have hAo:A.all one=true:=(by rw[hAA,hhc];rfl);simp -implicitDefEqProofs[g1,g2,g6,g8,g10,g34,g35,g36,x6,x8,x10,hA,hAt,hAo];exact hfin
 ·rw[if_neg qa]at hset;rw[hset];simp -implicitDefEqProofs[af,qa];intro _;exact⟨E.trans E1,_,⟨_,_,_,_,_,_,_,_,_,_,_,_,_,_,_,_,_,_,rfl⟩,rfl,fun s hs=>by cases hs⟩
theorem jM.ext {h h':aa} {s:bO} {cs:List Value} (H:jM h s cs) (E:Ext h h'):jM h' s cs:=by
 obtain⟨hc,lv,mb,rfl,h1,h2,h3,h4⟩:=H;exact⟨hc,lv,mb,rfl,h1.ext E,h2.ext E,by rw[E.f _ h4];exact h3,de h4 E.n⟩
theorem jM.eY {h h':aa} {s:bO} {cs:List Value} (H:jM h s cs) {S:List Nat} (C:cP S h h') (hs:ic S h):jM h' s cs:=by
 obtain⟨hc,lv,mb,rfl,h1,h2,h3,h4⟩:=H;exact⟨hc,lv,mb,rfl,h1.eY C hs,h2.eY C hs,C.obj hs h3 h4,de h4 C.n⟩
theorem jM.shape {h:aa} {s:bO} {cs:List Value} (H:jM h s cs):rD cs:=by
 obtain⟨hc,lv,mb,rfl,⟨vc,uv,rfl,⟨sv,k,p,rfl,h1,h2,h3⟩,h4⟩,h5,_⟩:=H;obtain⟨b1,d1,rfl⟩:=h1.shape;obtain⟨b2,d2,rfl⟩:=h2.shape;obtain⟨b3,d3,rfl⟩:=h3.shape;obtain⟨b4,d4,rfl⟩:=h4.shape;obtain⟨b5,d5,rfl⟩:=h5.shape;exact⟨_,_,_,_,_,_,_,_,_,_,_,_,_,_,_,_,_,_,rfl⟩
structure uR (s:bO):Prop where
 aQ:tb s.v s.us
 len:s.l.length≤1073741824
theorem AU (s:bO) (k:Int):eI s k=(l6 s.pins k 0).map fun p=>p.2:=by
 rw[aaf];rfl
def rM (s:bO) (p:List Int) (k:Nat):Bool:=match eI s k with
 |some x=>decide (p.getD k 0≠x)
 |none=>false
theorem QO (s:bO) (p:List Int) (k:Nat):eg s p k=(if rM s p k=true then true else if p.getD k 0= -1 then false else if(cS s.v s.us (s.l.getD k default) (p.getD k 0)).isNone=true then true
  else(List.range k).any fun j=>decide (p.getD j 0≠-1)&& !dS s.v (s.l.getD k default) (p.getD k 0) (s.l.getD j default) (p.getD j 0)):=rfl
theorem amI {s:bO} {p:List Int} {k:Nat} (h:eg s p k=false) (hk:p.getD k 0≠-1):(cS s.v s.us (s.l.getD k default) (p.getD k 0)).isSome=true:=by
 rw[QO]at h;split at h
 ·cases h
 ·split at h
  ·cases h
  ·rename_i q;cases hs:cS s.v s.us (s.l.getD k default) (p.getD k 0)with
   |none=>rw[hs]at q;exact absurd rfl q
   |some l=>rfl
def rL (s:bO) (p:List Int) (k j:Nat):Bool:=decide (p.getD j 0≠-1)&& !dS s.v (s.l.getD k default) (p.getD k 0) (s.l.getD j default) (p.getD j 0)
def RW (h:aa) (cs:List Value) (pv:Value) (s:bO) (p:List Int) (k n:Nat) (σ:St):Prop:=∃j:Nat,n=k-j∧j≤k∧Ext h σ.m.h∧(List.range j).any (rL s p k)=false∧σ.t.get 1=some pv∧σ.t.get 2=some (.int .i64 (k:Nat))∧σ.t.get 3=some (.pointer (some ⟨3,0,some 0⟩))∧σ.t.get 52=some (.int .i64 (k:Nat))∧σ.t.get 53=some (.int .i64 (j:Nat))∧σ.m.x.look 3=some (242,cs)
def SU (h:aa) (cs:List Value) (pv:Value) (s:bO) (p:List Int) (k:Nat) (σ:St):Prop:=σ.m.h=h∧σ.t.get 1=some pv∧σ.t.get 2=some (.int .i64 (k:Nat))∧σ.t.get 3=some (.pointer (some ⟨3,0,some 0⟩))∧σ.m.x.look 3=some (242,cs)∧rM s p k=false∧p.getD k 0≠-1
theorem ai4 (s:bO) (M:uR s) (cs:List Value) (pv:Value) (p:List Int) (hlen:p.length=s.l.length) (hpf:∀x∈p,-4611686018427387904≤x∧x≤4611686018427387904) (k:Nat) (hk:k<p.length) (hbefore:∀j,j<k→eg s p j=false) (h:aa) (H:jM h s cs) (hp:bq h pv p):
  ao PP 223 [.agg ⟨cs⟩,pv,.int .i64 (k:Nat)] h (fun r h'=>Ext h h'∧r= .bool (eg s p k)):=by
 refine aC mix (aD Tryz.func223) rfl rfl rfl aeA ?_;simp only[ai,Tryz.f223];have hMl:=M.len;have hp0:=hp;obtain⟨ad6,c6,rfl⟩:=hp.shape;obtain⟨C,hC⟩:∃C,C=cs:=⟨_,rfl⟩;have hCs:=H.shape;have hCl:C.length=8:=by obtain⟨a1,n1,c1,g,r,a2,n2,c2,a3,n3,c3,a4,n4,c4,a5,n5,c5,mb,rfl⟩:=hCs;rw[hC];rfl
 have hCo:C.all one=true:=by obtain⟨a1,n1,c1,g,r,a2,n2,c2,a3,n3,c3,a4,n4,c4,a5,n5,c5,mb,rfl⟩:=hCs;rw[hC];rfl
 have hH:iU h s.v s.us (C.take 6):=by
  obtain⟨hc,lv,mb,e,h1,_⟩:=id H;obtain⟨vc,uv,e2,⟨sv,kk,pp,e3,_⟩,_⟩:=id h1;have:C.take 6=hc:=by rw[hC,e,e2,e3];rfl
  rw[this];exact h1
 obtain⟨hc,lv,mb,e,h1,h2,h3,h4⟩:=id H;have hdr:C.drop 6=lv::[.map (some mb)]:=by
  obtain⟨vc,uv,e2,⟨sv,kk,pp,e3,_⟩,_⟩:=id h1;rw[hC,e,e2,e3];rfl
 have hdr7:C.drop 7=[.map (some mb)]:=by
  obtain⟨vc,uv,e2,⟨sv,kk,pp,e3,_⟩,_⟩:=id h1;rw[hC,e,e2,e3];rfl
 obtain⟨ad5,c5,rfl⟩:=h2.shape;obtain⟨hc6,hh6⟩:∃x,x=C.take 6:=⟨_,rfl⟩;rw[←hh6]at hH;rw[←hC];clear e hC hCs H;have hkt:p[k]? =some p[k]:=av hk;obtain⟨f,hf⟩:∃f,f=p[k]:=⟨_,rfl⟩;rw[←hf]at hkt;have hgf:p.getD k 0=f:=by rw[bB,hkt];rfl
 have hfb:=hpf f (dY hkt);obtain⟨_,bp,op,wp,cells,r,rfl,hb,hd,hlc,hbn⟩:=hp0.at 1 V.dV hkt;rw[Nat.mul_one]at hd;have hlc':op+k+1≤cells.length:=by omega
 have hkl:k<s.l.length:=by omega
 have hti:s.l[k]? =some s.l[k]:=av hkl;obtain⟨X,hX⟩:∃X,X=s.l[k]:=⟨_,rfl⟩;rw[←hX]at hti;have hgX:s.l.getD k default=X:=by rw[bB,hti];rfl
 obtain⟨_,bl,ol,cl,rl,rfl,hbl,hdl,hlcl,hbln⟩:=h2.at 2 me hti;have hkX:(cl.drop (ol+k*2)).take 2=[.int .i64 X.size,.int .i64 X.du]:=by rw[hdl];rfl
 have hlook:(pC 3 3 (.int .i64 (k:Int)) (eZ s.pins 0).toArray true).aR PP=some (.tuple #[.int .i64 ((eI s k).getD 0),.bool (eI s k).isSome]):=by
  rw[zM,AU,Option.isSome_map]
 have hbp:rM s p k=match eI s k with
  |some x=>decide (f≠x)
  |none=>false:=by unfold rM;rw[hgf]
 have hgoal:=QO s p k;rw[hgf,hgX]at hgoal;refine wi 3 (SU h C (.slice (some ⟨bp,op,none⟩) p.length c6) s p k) ?_ ?_
 ·simp only[sa,rZ];cases hpin:eI s k with
  |none=>
   rw[hpin]at hlook hbp;have hb0:rM s p k=false:=hbp;rw[hb0]at hgoal;simp only[Option.getD_none,Option.isSome_none]at hlook;by_cases q1:f= -1
   ·have hw:eg s p k=false:=(by rw[hgoal];simp[q1]);simp -implicitDefEqProofs[hCl,hdr7,h3,hlook,hk,hb,hd,hlc',ab,q1,hw];exact Ext.bJ h
   ·simp -implicitDefEqProofs[hCl,hdr7,h3,hlook,hk,hb,hd,hlc',ab,q1];exact⟨rfl,by simp,by simp,by simp,by simp,hb0,by rw[hgf];exact q1⟩
  |some x=>
   rw[hpin]at hlook hbp;simp only[iJ,Option.isSome_some]at hlook;by_cases q0:f=x
   ·have hb0:rM s p k=false:=(by rw[hbp];simp[q0]);rw[hb0]at hgoal;by_cases q1:f= -1
    ·have hw:eg s p k=false:=(by rw[hgoal];simp[q1]);have q2:x= -1:=(by omega);simp -implicitDefEqProofs[hCl,hdr7,h3,hlook,hk,hb,hd,hlc',ab,q1,q2,hw];exact Ext.bJ h
    ·rw[q0]at q1 hd;simp -implicitDefEqProofs[hCl,hdr7,h3,hlook,hk,hb,hd,hlc',ab,q1];exact⟨rfl,by simp,by simp,by simp,by simp,hb0,by rw[hgf,q0];exact q1⟩
   ·have hb0:rM s p k=true:=(by rw[hbp];simp[q0]);have hw:eg s p k=true:=(by rw[hgoal,hb0];rfl);simp -implicitDefEqProofs[hCl,hdr7,h3,hlook,hk,hb,hd,hlc',ab,q0,hw];exact Ext.bJ h
 ·rintro⟨T,⟨x,H2⟩⟩ ⟨e,g1,g2,g3,x3,hb0,q1⟩;replace e:h=H2:=e.symm;subst e;simp at g1 g2 g3 x3;rw[hgf]at q1;rw[hb0]at hgoal;simp only[ff,if_false]at hgoal;rw[if_neg q1]at hgoal;have hse:=xp s.v s.us M.aQ hc6 X f hfb h hH;simp only[fh,al]at hse;have hc6l:C.take 6=hc6:=hh6.symm;simp only[sZ,qg];simp -implicitDefEqProofs[g1,g2,g3,x3,hCl,hc6l,hdr,hk,hb,hd,hlc',ab,hkl,hbl,hkX,hlcl];refine hse.mono ?_;rintro r H3 ⟨E3,R⟩;cases hsx:cS s.v s.us X f with
  |none=>
   rw[hsx]at R hgoal;subst R;have hw:eg s p k=true:=(by rw[hgoal];rfl);simp -implicitDefEqProofs[aJ,hw];intro _;exact E3
  |some ls=>
   rw[hsx]at R hgoal;obtain⟨sl,Ssl,rfl⟩:=R;obtain⟨ad7,c7,rfl⟩:=Ssl.shape;simp only[Option.isNone_some,ff,if_false]at hgoal;have hsome:(cS s.v s.us X f).isSome=true:=(by rw[hsx];rfl);have hXin:=q8 hsome;have hgoal2:eg s p k=(List.range k).any (rL s p k):=by
    rw[hgoal];unfold rL;rw[hgf,hgX]
   simp -implicitDefEqProofs[aJ,g1,g2,g3,x3];intro _;refine bL (RW h C (.slice (some ⟨bp,op,none⟩) p.length c6) s p k) _ ⟨0,rfl,by omega,E3,rfl,by simp[x3]⟩ ?_;clear g1 g2 g3 x3;rintro n ⟨T,⟨x,H4⟩⟩ ⟨j,rfl,hj,E4,hany,g1,g2,g3,g52,g53,x3⟩;simp at E4 g1 g2 g3 g52 g53 x3;simp -implicitDefEqProofs[g1,g2,g3,g52,g53,x3];refine bY (fun hc2=>?_) (fun hc2=>?_)
   ·have hjk:j<k:=(by omega);have w1:=bU (i:=j) (by omega);have hjp:j<p.length:=(by omega);have hjt:p[j]? =some p[j]:=av hjp;obtain⟨y,hy⟩:∃y,y=p[j]:=⟨_,rfl⟩;rw[←hy]at hjt;have hgy:p.getD j 0=y:=(by rw[bB,hjt];rfl);obtain⟨_,bp',op',wp',cells',r',e,hb4,hd4,hlc4,_⟩:=(cU.ext hp0 E4).at 1 V.dV hjt;simp only[aw,Addr.mk.injEq,and_true]at e;obtain⟨rfl,rfl⟩:=e;rw[Nat.mul_one]at hd4;have hlc4':op+j+1≤cells'.length:=(by omega);have hb4k:cells'=cells:=(by rw[E4.f _ hbn,hb]at hb4;simp only[aZ.row.injEq,true_and]at hb4;exact hb4.2.symm);have hrow:H4.f bp= .row wp 3 cells:=(by rw[E4.f _ hbn,hb]);rw[hb4k]at hd4 hlc4';by_cases q2:y= -1
    ·have hbj:rL s p k j=false:=(by unfold rL;rw[hgy,q2];rfl);simp -implicitDefEqProofs[g1,g2,g3,g52,g53,x3,hjp,hrow,hd4,hlc4',ab,q2,w1];refine⟨k-(j+1),by omega,j+1,rfl,by omega,E4,?_,by simp[x3]⟩;rw[nY,List.any_append,hany];simp[hbj]
    ·have hjl:j<s.l.length:=(by omega);have htj:s.l[j]? =some s.l[j]:=av hjl;obtain⟨Y,hY⟩:∃Y,Y=s.l[j]:=⟨_,rfl⟩;rw[←hY]at htj;have hgY:s.l.getD j default=Y:=(by rw[bB,htj];rfl);have hsY:=amI (hbefore j hjk) (by rw[hgy];exact q2);rw[hgy,hgY]at hsY;have hYin:=q8 hsY;have hbj:rL s p k j= !dS s.v X f Y y:=(by unfold rL;rw[hgy,hgf,hgX,hgY];simp[q2]);have hrl:H4.f bl= .row false 29 cl:=(by rw[E4.f _ hbln,hbl]);obtain⟨_,bl',ol',cl',rl',e,hbl5,hdl5,hlcl5,_⟩:=h2.at 2 me htj;simp only[aw,Addr.mk.injEq,and_true]at e;obtain⟨rfl,rfl⟩:=e;rw[hbl]at hbl5;simp only[aZ.row.injEq,true_and]at hbl5;obtain rfl:=hbl5;have hkY:(cl.drop (ol+j*2)).take 2=[.int .i64 Y.size,.int .i64 Y.du]:=(by rw[hdl5];rfl);have hap:=zj s.v s.us M.aQ hc6 X f Y y ⟨hXin.2.2.2.1,hXin.2.2.2.2⟩ ⟨hYin.2.2.2.1,hYin.2.2.2.2⟩ (by omega) (by omega) H4 (hH.ext E4);simp only[fh,al]at hap;simp -implicitDefEqProofs[g1,g2,g3,g52,g53,x3,hjp,hk,hrow,hd4,hd,hlc',hlc4',ab,q2,hCl,hc6l,hdr,hkl,hjl,hrl,hkX,hkY,hlcl,hlcl5];refine hap.mono ?_;rintro r H5 ⟨E5,rfl⟩;by_cases hq:dS s.v X f Y y=true
     ·simp -implicitDefEqProofs[aJ,hq,g1,g2,g3,g52,g53,x3,w1];intro _;refine⟨k-(j+1),by omega,j+1,rfl,by omega,E4.trans E5,?_,by simp[x3]⟩;rw[nY,List.any_append,hany];simp[hbj,hq]
     ·have hw:eg s p k=true:=by
       rw[hgoal2,kV];exact⟨j,dv.2 hjk,by rw[hbj];simp[hq]⟩
      simp -implicitDefEqProofs[aJ,hq,hw]
      intro _
      exact E4.trans E5
   ·have e:j=k:=(by omega);subst e;have hw:eg s p j=false:=(by rw[hgoal2,hany]);simp -implicitDefEqProofs[g1,g2,g3,g52,g53,x3,hw];exact E4
theorem rD.len {C:List Value} (H:rD C):C.length=8:=by obtain⟨a1,n1,c1,g,r,a2,n2,c2,a3,n3,c3,a4,n4,c4,a5,n5,c5,mb,rfl⟩:=H;rfl
theorem rD.one {C:List Value} (H:rD C):C.all one=true:=by obtain⟨a1,n1,c1,g,r,a2,n2,c2,a3,n3,c3,a4,n4,c4,a5,n5,c5,mb,rfl⟩:=H;rfl
theorem JF {v:aj} {l:List aV} {pins:List (Int×Int)} {s:bO} (h:fL v l pins=some s):s.v=v∧s.us=cd v∧s.l=l∧aN v=true∧fV l=true:=by
 unfold fL at h;split at h
 ·rename_i q;rw[bX]at q;cases hg:jo v (cd v) l [] pins with
  |none=>rw[hg]at h;cases h
  |some a=>
   rw[hg]at h;simp only[fJ,aw]at h;subst h;exact⟨rfl,rfl,rfl,q.1,q.2⟩
 ·cases h
theorem yI {v:aj} (M:aN v=true):(cd v).length=v.ag.length:=by rw[←v8 M,uK]
theorem Ac {v:aj} {l:List aV} {pins:List (Int×Int)} {s:bO} (h:fL v l pins=some s):uR s:=by
 obtain⟨rv,ru,rl,M,A⟩:=JF h;have F:=k8 M;have:=F.len;refine⟨⟨by rw[rv];exact F,by rw[ru,yI M];omega⟩,?_⟩;rw[rl];unfold fV at A;rw[bX]at A;have:=of_decide_eq_true A.1;omega
def zO (s:bO) (p:List Int) (k:Nat):Prop:=∀j,j<k→eg s p j=false
theorem X6 {s:bO} {p:List Int} {k:Nat} (hk:k<p.length) (hw:eg s p k=true) (hb:zO s p k):oB s p=k:=by
 unfold oB;have:(List.range p.length).find? (eg s p)=some k:=by
  rw[List.find?_range_eq_some];exact⟨hw,dv.2 hk,fun j hj=>by rw[hb j hj];rfl⟩
 rw[this]
theorem X7 {s:bO} {p:List Int} (hb:zO s p p.length):oB s p= -1:=by
 unfold oB;have:(List.range p.length).find? (eg s p)=none:=by
  rw[List.find?_range_eq_none];intro j hj;rw[hb j hj];rfl
 rw[this]
def RG (h:aa) (cs:List Value) (pv:Value) (s:bO) (p:List Int) (m n:Nat) (σ:St):Prop:=∃k:Nat,n=m-k∧k≤m∧Ext h σ.m.h∧zO s p k∧σ.t.get 1=some pv∧σ.t.get 2=some (.pointer (some ⟨2,0,some 0⟩))∧σ.t.get 7=some (.int .i64 (m:Nat))∧σ.t.get 8=some (.int .i64 (k:Nat))∧σ.m.x.look 2=some (242,cs)
theorem X8 (s:bO) (M:uR s) (cs:List Value) (pv:Value) (p:List Int) (hlen:p.length=s.l.length) (hpf:∀x∈p,-4611686018427387904≤x∧x≤4611686018427387904) (h:aa) (H:jM h s cs) (hp:bq h pv p):
  ao PP 171 [.agg ⟨cs⟩,pv] h (fun r h'=>Ext h h'∧r= .int .i64 (oB s p)):=by
 refine aC mix (aD Tryz.func171) rfl rfl rfl adS ?_;simp only[ai,Tryz.f171];have hMl:=M.len;have hw:=fun k hk hb h' E=>ai4 s M cs pv p hlen hpf k hk hb h' (H.ext (h':=h') E) (cU.ext hp E);have hCs:=H.shape;have hCl:=hCs.len;have hCo:=hCs.one;have hCt:cs.take 8=cs:=bZ (by omega);obtain⟨ad,c,rfl⟩:=hp.shape;obtain⟨m,hm⟩:∃m,m=p.length:=⟨_,rfl⟩;rw[←hm]at hw;simp -implicitDefEqProofs[hCl];rw[←hm];refine bL (RG h cs (.slice ad m c) s p m) _ ⟨0,rfl,by omega,Ext.bJ h,(fun j hj=>by omega),by simp⟩ ?_;rintro n ⟨T,⟨x,G⟩⟩ ⟨k,rfl,hk,E,hb,g1,g2,g7,g8,x2⟩;simp at E g1 g2 g7 g8 x2;simp -implicitDefEqProofs[g1,g2,g7,g8,x2];refine bY (fun hc2=>?_) (fun hc2=>?_)
 ·have hkm:k<m:=by omega
  have w1:=bU (i:=k) (by omega);simp -implicitDefEqProofs[g1,g2,g7,g8,x2,hCl,hCt];refine(hw k hkm hb G E).mono ?_;rintro r G2 ⟨E2,rfl⟩;by_cases q:eg s p k=true
  ·have hf:=X6 (by omega) q hb;simp -implicitDefEqProofs[af,q,g1,g2,g7,g8,x2];intro _;exact⟨E.trans E2,hf.symm⟩
  ·simp -implicitDefEqProofs[af,q,g1,g2,g7,g8,x2,w1];intro _;refine⟨m-(k+1),by omega,k+1,rfl,by omega,E.trans E2,fun j hj=>?_,by simp[x2]⟩;rcases Nat.lt_or_ge j k with z|z
   ·exact hb j z
   ·have:j=k:=(by omega);subst this;simpa using q
 ·have e:k=m:=by omega
  rw[e,hm]at hb;have hf:=X7 hb;simp -implicitDefEqProofs[g1,g2,g7,g8,x2];exact⟨E,hf.symm⟩
def yL (v:aj) (l:List aV) (p:List Int) (pins:List (Int×Int)):Int:=match fL v l pins with
 |some s=>if p.length=l.length then oB s p else l.length
 |none=>l.length
theorem aax (v:aj) (l:List aV) (p:List Int) (pins:List (Int×Int)):iR v l p pins=decide (yL v l p pins= -1):=by
 unfold iR yL;cases fL v l pins with
 |none=>rfl
 |some s=>
  simp only;by_cases q:p.length=l.length
  ·simp only[q,if_true]
  ·simp only[q,if_false]
structure kU (h:aa) (v:aj) (l:List aV) (pins:List (Int×Int)) (cs:List Value) (lv pv:Value):Prop where
 may:aN v=true
 ll:l.length≤1073741824
 pl:pins.length≤1073741824
 pf:∀p∈pins,-4611686018427387904≤p.2∧p.2≤4611686018427387904
 dF:fw h v cs
 ls:aK 29 al h lv l
 ps:aK 69 kQ h pv pins
theorem kU.ext {h h':aa} {v:aj} {l:List aV} {pins:List (Int×Int)} {cs:List Value} {lv pv:Value} (H:kU h v l pins cs lv pv) (E:Ext h h'):kU h' v l pins cs lv pv:=
 ⟨H.may,H.ll,H.pl,H.pf,H.dF.ext E,H.ls.ext E,H.ps.ext E⟩
theorem kU.Ad {h:aa} {v:aj} {l:List aV} {pins:List (Int×Int)} {cs:List Value} {lv pv:Value} (H:kU h v l pins cs lv pv):ao PP 170 [.agg ⟨cs⟩,lv,pv] h (wC h (fL v l pins)):=
 ahb v H.may cs lv pv l pins H.ll H.pl H.pf h H.dF H.ls H.ps
theorem fw.shape {h:aa} {v:aj} {cs:List Value} (H:fw h v cs):∃a1 n1 c1 g r a2 n2 c2 a3 n3 c3,cs=[.slice a1 n1 c1,.int .i64 g,.int .i64 r,.slice a2 n2 c2,.slice a3 n3 c3]:=by
 obtain⟨s,k,p,rfl,h1,h2,h3⟩:=H;obtain⟨b1,d1,rfl⟩:=h1.shape;obtain⟨b2,d2,rfl⟩:=h2.shape;obtain⟨b3,d3,rfl⟩:=h3.shape;exact⟨_,_,_,_,_,_,_,_,_,_,_,rfl⟩
theorem fw.len {h:aa} {v:aj} {cs:List Value} (H:fw h v cs):cs.length=5:=by obtain⟨a1,n1,c1,g,r,a2,n2,c2,a3,n3,c3,rfl⟩:=H.shape;rfl
theorem fw.one {h:aa} {v:aj} {cs:List Value} (H:fw h v cs):cs.all one=true:=by obtain⟨a1,n1,c1,g,r,a2,n2,c2,a3,n3,c3,rfl⟩:=H.shape;rfl
theorem ahZ (v:aj) (l:List aV) (pins:List (Int×Int)) (p:List Int) (cs:List Value) (lv pv fv:Value) (hpf:∀x∈p,-4611686018427387904≤x∧x≤4611686018427387904) (h:aa) (H:kU h v l pins cs lv pv) (hp:bq h fv p):
  ao PP 124 [.agg ⟨cs⟩,lv,fv,pv] h (fun r h'=>Ext h h'∧r= .int .i64 (yL v l p pins)):=by
 refine aC mix (aD Tryz.func124) rfl rfl rfl ac7 ?_;simp only[ai,Tryz.f124];have hin:=H.Ad;have hcl:=H.dF.len;have hct:cs.take 5=cs:=bZ (by omega);have hll:=H.ll;obtain⟨ad,c,rfl⟩:=hp.shape;obtain⟨ad2,c2,rfl⟩:=H.ls.shape;obtain⟨ad3,c3,rfl⟩:=H.ps.shape;unfold yL;simp -implicitDefEqProofs[hcl,hct];refine hin.mono ?_;rintro r G ⟨E,C,hC,rfl,hS⟩;have hCl:=hC.len;have hCo:=hC.one;have hCt:C.take 8=C:=bZ (by omega);cases q:fL v l pins with
 |none=>
  simp -implicitDefEqProofs[af,hCl,hCo];intro _;exact E
 |some s=>
  have hSet:=hS s q;obtain⟨rv,ru,rl,M,A⟩:=JF q;by_cases q2:p.length=l.length
  ·have q2':(p.length:Int)=(l.length:Int):=(by omega);have hf:=X8 s (Ac q) C (.slice ad p.length c) p (by rw[rl];exact q2) hpf G hSet (cU.ext hp E);rw[q2]at hf;simp -implicitDefEqProofs[af,hCl,hCo,hCt,q2];intro _;refine hf.mono ?_;rintro r G2 ⟨E2,rfl⟩;simp -implicitDefEqProofs[af];intro _;exact E.trans E2
  ·have q2':¬(p.length:Int)=(l.length:Int):=(by omega);simp -implicitDefEqProofs[af,hCl,hCo,hCt,q2,q2'];intro _;exact E
theorem OW (v:aj) (l:List aV) (pins:List (Int×Int)) (p:List Int) (cs:List Value) (lv pv fv:Value) (hpf:∀x∈p,-4611686018427387904≤x∧x≤4611686018427387904) (h:aa) (H:kU h v l pins cs lv pv) (hp:bq h fv p):
  ao PP 80 [.agg ⟨cs⟩,lv,fv,pv] h (fun r h'=>Ext h h'∧r= .bool (iR v l p pins)):=by
 refine aC mix (aD Tryz.func80) rfl rfl rfl afV ?_;simp only[ai,Tryz.f80];have hw:=ahZ v l pins p cs lv pv fv hpf h H hp;have hcl:=H.dF.len;have hct:cs.take 5=cs:=bZ (by omega);obtain⟨ad,c,rfl⟩:=hp.shape;obtain⟨ad2,c2,rfl⟩:=H.ls.shape;obtain⟨ad3,c3,rfl⟩:=H.ps.shape;rw[aax];simp -implicitDefEqProofs[hcl,hct];refine hw.mono ?_;rintro r G ⟨E,rfl⟩;simp -implicitDefEqProofs[af];intro _;exact E
theorem ahJ (v:aj) (l:List aV) (pins:List (Int×Int)) (cs:List Value) (lv pv:Value) (h:aa) (H:kU h v l pins cs lv pv):
  ao PP 249 [.agg ⟨cs⟩,lv,pv] h (fun r h'=>Ext h h'∧r= .bool (fL v l pins).isSome):=by
 refine aC mix (aD Tryz.func249) rfl rfl rfl aeI ?_;simp only[ai,Tryz.f249];have hin:=H.Ad;have hcl:=H.dF.len;have hct:cs.take 5=cs:=bZ (by omega);obtain⟨ad2,c2,rfl⟩:=H.ls.shape;obtain⟨ad3,c3,rfl⟩:=H.ps.shape;simp -implicitDefEqProofs[hcl,hct];refine hin.mono ?_;rintro r G ⟨E,C,hC,rfl,hS⟩;have hCl:=hC.len;have hCo:=hC.one;simp -implicitDefEqProofs[af,hCl,hCo];intro _;exact E
def SE (h:aa) (lv pv:Value) (p:List Int) (m n:Nat) (σ:St):Prop:=∃k:Nat,n=m-k∧k≤m∧σ.m.h=h∧(p.take k).all (fun f=>decide (0≤f))=true∧σ.t.get 0=some lv∧σ.t.get 1=some pv∧σ.t.get 7=some pv∧σ.t.get 8=some (.int .i64 (m:Nat))∧σ.t.get 9=some (.int .i64 (k:Nat))
theorem zU (l:List aV) (p:List Int) (lv pv:Value) (hpl:p.length≤1073741824) (hll:l.length≤1073741824) (h:aa) (hl:tj h lv l) (hp:bq h pv p):ao PP 79 [lv,pv] h (fun r h'=>h'=h∧r= .bool (jE l p)):=by
 refine aC mix (aD Tryz.func79) rfl rfl rfl afU ?_;simp only[ai,Tryz.f79];obtain⟨ad,c,rfl⟩:=hp.shape;obtain⟨ad2,c2,rfl⟩:=hl.shape;obtain⟨m,hm⟩:∃m,m=p.length:=⟨_,rfl⟩;unfold jE;rw[←hm]at hp ⊢;simp -implicitDefEqProofs;refine bL (SE h (.slice ad2 l.length c2) (.slice ad m c) p m) _ ⟨0,rfl,by omega,rfl,by simp⟩ ?_;rintro n ⟨T,⟨x,G⟩⟩ ⟨k,rfl,hk,e,aQ,g0,g1,g7,g8,g9⟩;simp at e g0 g1 g7 g8 g9;subst e;simp -implicitDefEqProofs[g0,g1,g7,g8,g9];refine bY (fun hc2=>?_) (fun hc2=>?_)
 ·have hkm:k<m:=by omega
  have w1:=bU (i:=k) (by omega);have hkt:p[k]? =some p[k]:=av (by omega);obtain⟨f,hf⟩:∃f,f=p[k]:=⟨_,rfl⟩;rw[←hf]at hkt;obtain⟨_,bp,op,wp,cells,r,rfl,hb,hd,hlc,hbn⟩:=hp.at 1 V.dV hkt;rw[Nat.mul_one]at hd;have hlc':op+k+1≤cells.length:=by omega
  by_cases q:f<0
  ·have hA:p.all (fun f=>decide (0≤f))=false:=by
    rw[←mz,cq];intro hh;have:=of_decide_eq_true (hh f (dY hkt));omega
   simp -implicitDefEqProofs[g0,g1,g7,g8,g9,hkm,hb,hd,hlc',ab,q,hA]
  ·simp -implicitDefEqProofs[g0,g1,g7,g8,g9,hkm,hb,hd,hlc',ab,q,w1];refine⟨m-(k+1),by omega,k+1,rfl,by omega,rfl,?_,by simp⟩;rw[fI,hkt,List.all_append,aQ];simp;omega
 ·have e:k=m:=by omega
  rw[e,hm,kH]at aQ;rw[aQ];by_cases q:l.length=m
  ·have q':(l.length:Int)=(m:Int):=(by omega);simp -implicitDefEqProofs[g0,g1,g7,g8,g9,q]
  ·have q':¬(l.length:Int)=(m:Int):=(by omega);simp -implicitDefEqProofs[g0,g1,g7,g8,g9,q,q']
def sW (l:List aV) (p:List Int) (k:Nat):Int:=if 0≤p.getD k 0 then(l.getD k default).size else 0
def nS (l:List aV) (p:List Int) (k:Nat):Int:=((List.range k).map (sW l p)).foldl (· + ·) 0
theorem PJ (l:List aV) (p:List Int) (k:Nat):nS l p (k+1)=nS l p k+sW l p k:=by
 unfold nS;rw[nY,lk,List.foldl_append];rfl
theorem Uh {l:List aV} (h:fV l=true) {k:Nat} (hk:k<l.length):1≤(l.getD k default).size∧(l.getD k default).size≤8:=by
 unfold fV at h;rw[bX,cq]at h;have hm:l.getD k default∈l:=by
  rw[bB,av hk];exact fy hk
 have:=h.2 _ hm;obtain⟨X,hX⟩:∃X,X=l.getD k default:=⟨_,rfl⟩;rw[←hX]at this ⊢;unfold ez at this;simp at this;omega
theorem PI {l:List aV} (p:List Int) (h:fV l=true):∀k,k≤l.length→0≤nS l p k∧nS l p k≤8*k:=by
 intro k;induction k with
 |zero=>intro _;simp[nS]
 |succ k ih=>
  intro hk;have h1:=ih (by omega);have h2:=Uh h (show k<l.length by omega);rw[PJ];unfold sW;split<;>omega
theorem aiW (l:List aV) (p:List Int):eV l p=if l.length=p.length∧fV l=true then nS l p p.length else 0:=rfl
def RA (h:aa) (lv pv:Value) (l:List aV) (p:List Int) (m n:Nat) (σ:St):Prop:=∃k:Nat,n=m-k∧k≤m∧σ.m.h=h∧σ.t.get 0=some lv∧σ.t.get 5=some (.int .i64 (nS l p k))∧σ.t.get 18=some pv∧σ.t.get 19=some (.int .i64 (m:Nat))∧σ.t.get 20=some (.int .i64 (k:Nat))
theorem Bj (l:List aV) (p:List Int) (lv pv:Value) (hpl:p.length≤1073741824) (hll:l.length≤1073741824) (h:aa) (hl:tj h lv l) (hp:bq h pv p):ao PP 153 [lv,pv] h (fun r h'=>h'=h∧r= .int .i64 (eV l p)):=by
 refine aC mix (aD Tryz.func153) rfl rfl rfl adq ?_;simp only[ai,Tryz.f153];have aQ:=Cp lv l hll h hl;obtain⟨ad,c,rfl⟩:=hp.shape;obtain⟨ad2,c2,rfl⟩:=hl.shape;obtain⟨m,hm⟩:∃m,m=p.length:=⟨_,rfl⟩;rw[aiW];rw[←hm]at hp ⊢;by_cases q1:l.length=m
 ·have q1':(l.length:Int)=(m:Int):=by omega
  rw[q1]at aQ hl;simp -implicitDefEqProofs[q1];refine aQ.mono ?_;rintro r h' ⟨e,rfl⟩;replace e:=e.symm;subst e;by_cases q2:fV l=true
  ·simp -implicitDefEqProofs[af,q2];intro _;refine bL (RA h (.slice ad2 m c2) (.slice ad m c) l p m) _ ⟨0,rfl,by omega,rfl,by simp[nS]⟩ ?_;rintro n ⟨T,⟨x,G⟩⟩ ⟨k,rfl,hk,e,g0,g5,g18,g19,g20⟩;simp at e g0 g5 g18 g19 g20;subst e;simp -implicitDefEqProofs[g0,g5,g18,g19,g20];refine bY (fun hc2=>?_) (fun hc2=>?_)
   ·have hkm:k<m:=(by omega);have w1:=bU (i:=k) (by omega);have hkt:p[k]? =some p[k]:=av (by omega);obtain⟨f,hf⟩:∃f,f=p[k]:=⟨_,rfl⟩;rw[←hf]at hkt;have hgf:p.getD k 0=f:=(by rw[bB,hkt];rfl);obtain⟨_,bp,op,wp,cells,r,rfl,hb,hd,hlc,hbn⟩:=hp.at 1 V.dV hkt;rw[Nat.mul_one]at hd;have hlc':op+k+1≤cells.length:=(by omega);have hsu:=PJ l p k;have hle:=PI p q2 (k+1) (by omega);have hle0:=PI p q2 k (by omega);by_cases q:0≤f
    ·have hti:l[k]? =some l[k]:=av (by omega);obtain⟨X,hX⟩:∃X,X=l[k]:=⟨_,rfl⟩;rw[←hX]at hti;have hgX:l.getD k default=X:=(by rw[bB,hti];rfl);rw[←q1]at hl;obtain⟨_,bl,ol,wl,cl,rl,rfl,hbl,hdl,hlcl,hbln⟩:=hl.at 2 me hti;have hdl':cl.drop (ol+k*2)= .int .i64 X.size:: .int .i64 X.du::rl:=hdl;have hlcl':ol+k*2+1≤cl.length:=(by omega);have hsa:sW l p k=X.size:=(by unfold sW;rw[hgf,if_pos q,hgX]);rw[hsa]at hsu;have w2:IntKind.wrap .i64 (nS l p k+X.size)=nS l p (k+1):=(by rw[hsu];exact bK (by omega));simp -implicitDefEqProofs[g0,g5,g18,g19,g20,hkm,hb,hd,hlc',ab,q,w1,w2,hbl,hdl',hlcl'];exact⟨m-(k+1),by omega,k+1,rfl,by omega,rfl,by simp⟩
    ·have hsa:sW l p k=0:=(by unfold sW;rw[hgf,if_neg q]);rw[hsa,Int.add_zero]at hsu;simp -implicitDefEqProofs[g0,g5,g18,g19,g20,hkm,hb,hd,hlc',ab,q,w1];exact⟨m-(k+1),by omega,k+1,rfl,by omega,rfl,by simp[hsu]⟩
   ·have e:k=m:=(by omega);subst e;simp -implicitDefEqProofs[g0,g5,g18,g19,g20]
  ·simp -implicitDefEqProofs[af,q2]
 ·have q1':¬(l.length:Int)=(m:Int):=by omega
  simp -implicitDefEqProofs[q1,q1']
def aM (o:aH):List Value:=[.int .i64 o.id,.int .i64 o.state,.int .i64 o.aO.size,.int .i64 o.aO.du,.int .i64 o.fZ,.int .i64 o.first]
theorem ir (o:aH):(aM o).length=6:=rfl
theorem vn {α:Type} {enc:α→List Value} (he:∀x,(enc x).all one=true) (xs:List α):(xs.flatMap enc).all one=true:=by
 rw[cq];intro v hv;obtain⟨s,_,hs⟩:=List.mem_flatMap.1 hv;exact cq.1 (he s) v hs
theorem V5 (s:Value) (xs:List Int) (hl:xs.length≤1073741824) (h:aa) (hs:cU 3 ab h s xs):ao PP 60 [s] h (fun v h'=>Ext h h'∧cL 3 ab h h' v xs):=by
 refine aC mix (aD Tryz.func60) rfl rfl rfl afF ?_;simp only[ai,Tryz.f60];obtain⟨ad,c,rfl,hn,hz⟩:=hs;cases ad with
 |none=>
  have:xs=[]:=by
   rcases hz with z|⟨b,off,w,cells,rest,z,_⟩
   ·exact z
   ·simp at z
  subst this;have:=hn rfl;subst this;simp -implicitDefEqProofs;exact⟨Ext.bJ h,cL.nil⟩
 |some ad=>
  by_cases h0:xs=[]
  ·subst h0;simp -implicitDefEqProofs[aP,dq,dM,dC];exact⟨(Ext.new h _).dh (a8 _) _ |>.bN _,_,rfl,.inr ⟨_,rfl,by simp⟩⟩
  ·obtain⟨b,off,w,cells,rest,e,z2,z3,z4,z5⟩:∃b off w cells rest,some ad=some (⟨b,off,none⟩:Addr)∧h.f b= .row w 3 cells∧cells.drop off=xs.flatMap ab++rest∧off≤cells.length∧b<h.n:=by
    rcases hz with z|z
    ·exact absurd z h0
    ·exact z
   obtain rfl:=bP e
   obtain⟨m,hm⟩:∃m,m=xs.length:=⟨_,rfl⟩
   have hm0:¬m=0:=by rw[hm];simpa using h0
   obtain⟨F,hF⟩:∃F,F=xs.flatMap ab:=⟨_,rfl⟩
   have hFl:F.length=m:=by rw[hF,fg 1 V.dV,hm,Nat.mul_one]
   have hone:F.all one=true:=by rw[hF];exact vn (fun _=>rfl) xs
   rw[←hF]at z3
   have hlen:off+m≤cells.length:=by
    have:=congrArg List.length z3;rw[eN,bF,hFl]at this;omega
   have htk:(cells.drop off).take (m)=F:=by rw[z3,List.take_append_of_le_length (by omega),bZ (by omega)]
   have hbn:¬b=h.n:=by omega
   have hmx:m*8≤140737488355328:=by omega
   rw[←hm]
   simp -implicitDefEqProofs[aP,dq,dM,dC,hm0,hbn,z2,hlen,htk,hone,hmx]
   exact⟨(Ext.new h _).dh (a8 _) _ |>.bN _,_,by rw[hm],.inr ⟨_,rfl,by simp[hF]⟩⟩
theorem zx (s:Value) (xs:List Int) (hl:xs.length≤1073741824) (h:aa) (hs:cU 3 ab h s xs):ao PP 154 [s] h (fun v h'=>Ext h h'∧cL 3 ab h h' v xs):=by
 refine aC mix (aD Tryz.func154) rfl rfl rfl adu ?_;simp only[ai,Tryz.f154];obtain⟨ad,c,rfl,hn,hz⟩:=hs;cases ad with
 |none=>
  have:xs=[]:=by
   rcases hz with z|⟨b,off,w,cells,rest,z,_⟩
   ·exact z
   ·simp at z
  subst this;have:=hn rfl;subst this;simp -implicitDefEqProofs;exact⟨Ext.bJ h,cL.nil⟩
 |some ad=>
  by_cases h0:xs=[]
  ·subst h0;simp -implicitDefEqProofs[aP,dq,dM,dC];exact⟨(Ext.new h _).dh (a8 _) _ |>.bN _,_,rfl,.inr ⟨_,rfl,by simp⟩⟩
  ·obtain⟨b,off,w,cells,rest,e,z2,z3,z4,z5⟩:∃b off w cells rest,some ad=some (⟨b,off,none⟩:Addr)∧h.f b= .row w 3 cells∧cells.drop off=xs.flatMap ab++rest∧off≤cells.length∧b<h.n:=by
    rcases hz with z|z
    ·exact absurd z h0
    ·exact z
   obtain rfl:=bP e
   obtain⟨m,hm⟩:∃m,m=xs.length:=⟨_,rfl⟩
   have hm0:¬m=0:=by rw[hm];simpa using h0
   obtain⟨F,hF⟩:∃F,F=xs.flatMap ab:=⟨_,rfl⟩
   have hFl:F.length=m:=by rw[hF,fg 1 V.dV,hm,Nat.mul_one]
   have hone:F.all one=true:=by rw[hF];exact vn (fun _=>rfl) xs
   rw[←hF]at z3
   have hlen:off+m≤cells.length:=by
    have:=congrArg List.length z3;rw[eN,bF,hFl]at this;omega
   have htk:(cells.drop off).take (m)=F:=by rw[z3,List.take_append_of_le_length (by omega),bZ (by omega)]
   have hbn:¬b=h.n:=by omega
   have hmx:m*8≤140737488355328:=by omega
   rw[←hm]
   simp -implicitDefEqProofs[aP,dq,dM,dC,hm0,hbn,z2,hlen,htk,hone,hmx]
   exact⟨(Ext.new h _).dh (a8 _) _ |>.bN _,_,by rw[hm],.inr ⟨_,rfl,by simp[hF]⟩⟩
theorem V8 (s:Value) (xs:List aV) (hl:xs.length≤1073741824) (h:aa) (hs:cU 29 al h s xs):ao PP 203 [s] h (fun v h'=>Ext h h'∧cL 29 al h h' v xs):=by
 refine aC mix (aD Tryz.func203) rfl rfl rfl aef ?_;simp only[ai,Tryz.f203];obtain⟨ad,c,rfl,hn,hz⟩:=hs;cases ad with
 |none=>
  have:xs=[]:=by
   rcases hz with z|⟨b,off,w,cells,rest,z,_⟩
   ·exact z
   ·simp at z
  subst this;have:=hn rfl;subst this;simp -implicitDefEqProofs;exact⟨Ext.bJ h,cL.nil⟩
 |some ad=>
  by_cases h0:xs=[]
  ·subst h0;simp -implicitDefEqProofs[aP,dq,dM,dC];exact⟨(Ext.new h _).dh (a8 _) _ |>.bN _,_,rfl,.inr ⟨_,rfl,by simp⟩⟩
  ·obtain⟨b,off,w,cells,rest,e,z2,z3,z4,z5⟩:∃b off w cells rest,some ad=some (⟨b,off,none⟩:Addr)∧h.f b= .row w 29 cells∧cells.drop off=xs.flatMap al++rest∧off≤cells.length∧b<h.n:=by
    rcases hz with z|z
    ·exact absurd z h0
    ·exact z
   obtain rfl:=bP e
   obtain⟨m,hm⟩:∃m,m=xs.length:=⟨_,rfl⟩
   have hm0:¬m=0:=by rw[hm];simpa using h0
   obtain⟨F,hF⟩:∃F,F=xs.flatMap al:=⟨_,rfl⟩
   have hFl:F.length=m*2:=by rw[hF,fg 2 me,hm]
   have hone:F.all one=true:=by rw[hF];exact vn (fun _=>rfl) xs
   rw[←hF]at z3
   have hlen:off+m*2≤cells.length:=by
    have:=congrArg List.length z3;rw[eN,bF,hFl]at this;omega
   have htk:(cells.drop off).take (m*2)=F:=by rw[z3,List.take_append_of_le_length (by omega),bZ (by omega)]
   have hbn:¬b=h.n:=by omega
   have hmx:m*16≤140737488355328:=by omega
   rw[←hm]
   simp -implicitDefEqProofs[aP,dq,dM,dC,hm0,hbn,z2,hlen,htk,hone,hmx]
   exact⟨(Ext.new h _).dh (a8 _) _ |>.bN _,_,by rw[hm],.inr ⟨_,rfl,by simp[hF]⟩⟩
theorem GK (s:Value) (xs:List aH) (hl:xs.length≤1073741824) (h:aa) (hs:cU 43 aM h s xs):ao PP 34 [s] h (fun v h'=>Ext h h'∧cL 43 aM h h' v xs):=by
 refine aC mix (aD Tryz.func34) rfl rfl rfl afm ?_;simp only[ai,Tryz.f34];obtain⟨ad,c,rfl,hn,hz⟩:=hs;cases ad with
 |none=>
  have:xs=[]:=by
   rcases hz with z|⟨b,off,w,cells,rest,z,_⟩
   ·exact z
   ·simp at z
  subst this;have:=hn rfl;subst this;simp -implicitDefEqProofs;exact⟨Ext.bJ h,cL.nil⟩
 |some ad=>
  by_cases h0:xs=[]
  ·subst h0;simp -implicitDefEqProofs[aP,dq,dM,dC];exact⟨(Ext.new h _).dh (a8 _) _ |>.bN _,_,rfl,.inr ⟨_,rfl,by simp⟩⟩
  ·obtain⟨b,off,w,cells,rest,e,z2,z3,z4,z5⟩:∃b off w cells rest,some ad=some (⟨b,off,none⟩:Addr)∧h.f b= .row w 43 cells∧cells.drop off=xs.flatMap aM++rest∧off≤cells.length∧b<h.n:=by
    rcases hz with z|z
    ·exact absurd z h0
    ·exact z
   obtain rfl:=bP e
   obtain⟨m,hm⟩:∃m,m=xs.length:=⟨_,rfl⟩
   have hm0:¬m=0:=by rw[hm];simpa using h0
   obtain⟨F,hF⟩:∃F,F=xs.flatMap aM:=⟨_,rfl⟩
   have hFl:F.length=m*6:=by rw[hF,fg 6 ir,hm]
   have hone:F.all one=true:=by rw[hF];exact vn (fun _=>rfl) xs
   rw[←hF]at z3
   have hlen:off+m*6≤cells.length:=by
    have:=congrArg List.length z3;rw[eN,bF,hFl]at this;omega
   have htk:(cells.drop off).take (m*6)=F:=by rw[z3,List.take_append_of_le_length (by omega),bZ (by omega)]
   have hbn:¬b=h.n:=by omega
   have hmx:m*48≤140737488355328:=by omega
   rw[←hm]
   simp -implicitDefEqProofs[aP,dq,dM,dC,hm0,hbn,z2,hlen,htk,hone,hmx]
   exact⟨(Ext.new h _).dh (a8 _) _ |>.bN _,_,by rw[hm],.inr ⟨_,rfl,by simp[hF]⟩⟩
theorem kK:lh 113 3 1 8 ab:=⟨IP,PT,⟨_,BL,rfl⟩,zt,px,by decide,by decide,V.dV,fun _=>rfl⟩
section
variable {α:Type} {t e sz by_:Nat} {enc:α→List Value} {h0 G:aa} {o:Option Nat} {xs:List α} {v:Value}
theorem gR (E:lh t e sz by_ enc) (W:Ow e enc h0 G o xs v) (a:α) (b:Nat) {w:Bool} (hb:G.f b= .row w e (enc a)) (hl:(xs.length+1)*by_≤140737488355328) (T:Fr) (x:bV) (s y:Nat) (hs:Fr.get T s=some v) (hy:Fr.get T y=some (.slice (some ⟨b,0,none⟩) 1 1)):
  dq PP ⟨T,⟨x,G⟩⟩ t t (.tmp s) (.tmp y)=some (.slice (some ⟨G.n,0,none⟩) (xs.length+1) (xs.length+1),⟨T,⟨x,cg G o (.row true e (xs.flatMap enc++enc a))⟩⟩):=by
 obtain⟨zl,hz,hzl⟩:=E.ze;have hlen:=E.len a;have htk:(enc a).take sz=enc a:=bZ (by omega);refine Oq (σ:=⟨T,⟨x,G⟩⟩) W E.el hz E.zu E.co E.pos E.b0 hzl E.len (by simpa using hs) ?_ (E.one a) (by decide) hl;simp[dM,E.un,hy,hlen,htk,hb]
end
def BY (h:aa) (l:List aV) (p:List Int) (q:aV) (σ:St):Prop:=Ext h σ.m.h∧∃c d:Nat,σ.t.get 6=some (.slice (some ⟨c,0,none⟩) (l.length+1) (l.length+1))∧σ.t.get 7=some (.slice (some ⟨d,0,none⟩) (p.length+1) (p.length+1))∧
 σ.m.h.f c= .row true 29 (l.flatMap al++al q)∧σ.m.h.f d= .row true 3 (p.flatMap ab++ab (-1))∧h.n≤c∧h.n≤d∧c<σ.m.h.n∧d<σ.m.h.n
theorem pe {h G4 G5:aa} {l:List aV} {p:List Int} {q:aV} {c:Nat} {o2:Option Nat} (E4:Ext h G4) (E5:Ext G4 G5) (hlt:∀b,o2=some b→G4.n≤b∧b<G5.n) (hc:G4.f c= .row true 29 (l.flatMap al++al q)) (hc0:h.n≤c) (hc1:c<G4.n):
  Ext h (cg G5 o2 (.row true 3 (p.flatMap ab++ab (-1))))∧(cg G5 o2 (.row true 3 (p.flatMap ab++ab (-1)))).f c= .row true 29 (l.flatMap al++al q)∧
  (cg G5 o2 (.row true 3 (p.flatMap ab++ab (-1)))).f G5.n= .row true 3 (p.flatMap ab++ab (-1))∧h.n≤c∧h.n≤G5.n∧c<G5.n+1:=by
 have n4:=E4.n;have n5:=E5.n;refine⟨(E4.trans E5).app (fun b hb=>?_) _,?_,lT _ _ _,hc0,by omega,by omega⟩
 ·have:=hlt b hb;omega
 ·rw[qz _ _ _ (by omega) (fun z=>by have:=(hlt c z).1;omega),E5.f _ hc1,hc]
theorem iA {G G':aa} {b:Nat} {c:aZ} (F:G.f b=c∧b<G.n) (E:Ext G G'):G'.f b=c∧b<G'.n:=⟨by rw[E.f b F.2];exact F.1,de F.2 E.n⟩
theorem gU (G:aa) (c:aZ):(G.new c).f G.n=c∧G.n<(G.new c).n:=⟨by simp,by simp⟩
theorem qG {G:aa} {b:Nat} {c c':aZ} {o:Option Nat} (F:G.f b=c'∧b<G.n) (ho:o≠some b):(cg G o c).f b=c'∧b<(cg G o c).n:=⟨by rw[qz _ _ _ F.2 ho];exact F.1,by rw[df];omega⟩
theorem pg {h G:aa} {l:List aV} {p:List Int} {q:aV} {c d:Nat} (T:Fr) (x:bV) (H:Ext h G∧G.f c= .row true 29 (l.flatMap al++al q)∧G.f d= .row true 3 (p.flatMap ab++ab (-1))∧h.n≤c∧h.n≤d∧c<d+1) (hd:d<G.n)
  (h6:T.get 6=some (.slice (some ⟨c,0,none⟩) (l.length+1) (l.length+1))) (h7:T.get 7=some (.slice (some ⟨d,0,none⟩) (p.length+1) (p.length+1))):BY h l p q ⟨T,⟨x,G⟩⟩:=
 ⟨H.1,c,d,h6,h7,H.2.1,H.2.2.1,H.2.2.2.1,H.2.2.2.2.1,by have:=H.2.2.2.2.2;show c<G.n;omega,hd⟩
theorem amA (l:List aV) (p:List Int) (q:aV) (lv pv:Value) (hl:l.length≤1048576) (hp:p.length≤1048576) (h:aa) (Hl:tj h lv l) (Hp:bq h pv p):
  ao PP 150 [lv,pv,fh q] h (fun r h'=>Ext h h'∧∃a b,r= .tuple #[a,b]∧aK 29 al h' a (l++[q])∧aK 3 ab h' b (p++[-1])):=by
 refine ao.jT (post:=fun r h'=>Ext h h'∧∃c d:Nat,r= .tuple #[.slice (some ⟨c,0,none⟩) (l.length+1) (l.length+1),.slice (some ⟨d,0,none⟩) (p.length+1) (p.length+1)]∧h'.f c= .row true 29 (l.flatMap al++al q)∧h'.f d= .row true 3 (p.flatMap ab++ab (-1))∧h.n≤c∧h.n≤d∧c<h'.n∧d<h'.n) ?_ (fun v h' ⟨E,c,d,hv,h1,h2,n1,n2,m1,m2⟩=>by
  have hcd:¬d=c:=by intro e;rw[e,h1]at h2;cases h2
  refine⟨(h'.dB c).dB d,(h'.pE c).trans ((h'.dB c).pE d),(E.dB n1).dB n2,_,_,hv,?_,?_⟩
  ·refine⟨_,l.length+1,by simp,fun z=>(by cases z),.inr ⟨c,0,l.flatMap al++al q,[],rfl,?_,by simp,by simp,m1⟩⟩;unfold aa.dB;simp[hcd,show¬c=d from fun e=>hcd e.symm,h1,aZ.dB]
  ·refine⟨_,p.length+1,by simp,fun z=>(by cases z),.inr ⟨d,0,p.flatMap ab++ab (-1),[],rfl,?_,by simp,by simp,m2⟩⟩;unfold aa.dB;simp[hcd,h2,aZ.dB])
 refine aC mix (aD Tryz.func150) rfl rfl rfl adi ?_;simp only[ai,Tryz.f150];have hc1:=fun G (E:Ext h G)=>V8 lv l (by omega) G (Hl.ext E);have hc2:=fun G (E:Ext h G)=>zx pv p (by omega) G (Hp.ext E);obtain⟨ad,c,rfl⟩:=Hp.shape;obtain⟨ad2,c2,rfl⟩:=Hl.shape;have hr1:List.range 1=[0]:=rfl;have hr2:List.range 2=[0,1]:=rfl;simp -implicitDefEqProofs[fh,al];refine wL (BY h l p q) ?_ ?_
 ·rw[jA,jA,jA,jA,jA,jA,jA,jA,jA,jA,uS];refine⟨?_,?_,?_,?_,?_,?_,?_,?_,?_,?_,trivial⟩
  ·simp -implicitDefEqProofs[aJ,aP,hr1,hr2];refine(hc1 _ (Ext.bJ h)).mono ?_;rintro v1 H1 ⟨E1,W1⟩;obtain⟨o1,W1⟩:=Ow.iE W1;obtain⟨rfl,_⟩:=id W1;have F1:=(Ext.bJ h).trans E1;have D1:=W1.lt;have W1k2:=W1.ext (Ext.new H1 (.row true 29 (al q)));have Ra:=gU H1 (.row true 29 (al q));have ERa:=Ext.bN F1 (.row true 29 (al q));have hA:=gR lZ W1k2 q _ Ra.1 (by omega);simp only[al,V.ab]at hA;have W1e:=W1k2.lt;have E4:Ext h (cg (H1.new (.row true 29 (al q))) o1 (.row true 29 (l.flatMap al++al q))):=Ext.app ERa (fun b z=>⟨by have:=W1.lt b z;have:=(ERa).n;simp[ef]at * <;>omega,(W1e b z).2⟩) _;have c0:h.n≤(H1.new (.row true 29 (al q))).n:=(ERa).n;have c1:(H1.new (.row true 29 (al q))).n<(cg (H1.new (.row true 29 (al q))) o1 (.row true 29 (l.flatMap al++al q))).n:=(by rw[df];omega);have c2:=lT (H1.new (.row true 29 (al q))) o1 (.row true 29 (l.flatMap al++al q));have E4o:=Ext.bJ (cg (H1.new (.row true 29 (al q))) o1 (.row true 29 (l.flatMap al++al q)));simp -implicitDefEqProofs[aJ,aP,hr1,hr2,hA];intro _;refine(hc2 _ E4).mono ?_;rintro v2 H2 ⟨E2,W2⟩;obtain⟨o2,W2⟩:=Ow.iE W2;obtain⟨rfl,_⟩:=id W2;have E4k3:=E4o.trans E2;have F2:=E4.trans E2;have D2:=W2.lt;have W2k4:=W2.ext (Ext.new H2 (.row true 3 (ab (-1))));have E4k4:=E4k3.trans (Ext.new H2 (.row true 3 (ab (-1))));have Rb:=gU H2 (.row true 3 (ab (-1)));have ERb:=Ext.bN F2 (.row true 3 (ab (-1)));have hB:=gR kK W2k4 (-1) _ Rb.1 (by omega);simp only[al,V.ab]at hB;have W2e:=W2k4.lt;have T:=pe (o2:=o2) E4 E4k4 (fun b z=>⟨by have:=W2.lt b z;simp[ef]at * <;>omega,(W2e b z).2⟩) c2 c0 c1 (p:=p);simp -implicitDefEqProofs[aJ,aP,hr1,hr2,hB];intro _;exact pg _ _ T (by simp[df]) (by simp[df]) (by simp[df])
  ·simp -implicitDefEqProofs[aJ,aP,hr1,hr2];refine(hc1 _ (Ext.bJ h)).mono ?_;rintro v1 H1 ⟨E1,W1⟩;obtain⟨o1,W1⟩:=Ow.iE W1;obtain⟨rfl,_⟩:=id W1;have F1:=(Ext.bJ h).trans E1;have D1:=W1.lt;have W1k2:=W1.ext (Ext.new H1 (.row true 29 (al q)));have Ra:=gU H1 (.row true 29 (al q));have ERa:=Ext.bN F1 (.row true 29 (al q));have hA:=gR lZ W1k2 q _ Ra.1 (by omega);simp only[al,V.ab]at hA;have W1e:=W1k2.lt;have E4:Ext h (cg (H1.new (.row true 29 (al q))) o1 (.row true 29 (l.flatMap al++al q))):=Ext.app ERa (fun b z=>⟨by have:=W1.lt b z;have:=(ERa).n;simp[ef]at * <;>omega,(W1e b z).2⟩) _;have c0:h.n≤(H1.new (.row true 29 (al q))).n:=(ERa).n;have c1:(H1.new (.row true 29 (al q))).n<(cg (H1.new (.row true 29 (al q))) o1 (.row true 29 (l.flatMap al++al q))).n:=(by rw[df];omega);have c2:=lT (H1.new (.row true 29 (al q))) o1 (.row true 29 (l.flatMap al++al q));have E4o:=Ext.bJ (cg (H1.new (.row true 29 (al q))) o1 (.row true 29 (l.flatMap al++al q)));have E4k3:=E4o.trans (Ext.new (cg (H1.new (.row true 29 (al q))) o1 (.row true 29 (l.flatMap al++al q))) (.row true 3 (ab (-1))));have Rb:=gU (cg (H1.new (.row true 29 (al q))) o1 (.row true 29 (l.flatMap al++al q))) (.row true 3 (ab (-1)));have ERb:=Ext.bN E4 (.row true 3 (ab (-1)));simp -implicitDefEqProofs[aJ,aP,hr1,hr2,hA];intro _;refine(hc2 _ ERb).mono ?_;rintro v2 H2 ⟨E2,W2⟩;obtain⟨o2,W2⟩:=Ow.iE W2;obtain⟨rfl,_⟩:=id W2;have Rbk4:=iA Rb E2;have E4k4:=E4k3.trans E2;have F2:=ERb.trans E2;have D2:=W2.lt;have hB:=gR kK W2 (-1) _ Rbk4.1 (by omega);simp only[al,V.ab]at hB;have W2e:=W2.lt;have T:=pe (o2:=o2) E4 E4k4 (fun b z=>⟨by have:=W2.lt b z;simp[ef]at * <;>omega,(W2e b z).2⟩) c2 c0 c1 (p:=p);simp -implicitDefEqProofs[aJ,aP,hr1,hr2,hB];intro _;exact pg _ _ T (by simp[df]) (by simp[df]) (by simp[df])
  ·simp -implicitDefEqProofs[aJ,aP,hr1,hr2];refine(hc1 _ (Ext.bJ h)).mono ?_;rintro v1 H1 ⟨E1,W1⟩;obtain⟨o1,W1⟩:=Ow.iE W1;obtain⟨rfl,_⟩:=id W1;have F1:=(Ext.bJ h).trans E1;have D1:=W1.lt;have W1k2:=W1.ext (Ext.new H1 (.row true 29 (al q)));have Ra:=gU H1 (.row true 29 (al q));have ERa:=Ext.bN F1 (.row true 29 (al q));have W1k3:=W1k2.ext (Ext.new (H1.new (.row true 29 (al q))) (.row true 3 (ab (-1))));have Rak3:=iA Ra (Ext.new (H1.new (.row true 29 (al q))) (.row true 3 (ab (-1))));have Rb:=gU (H1.new (.row true 29 (al q))) (.row true 3 (ab (-1)));have ERb:=Ext.bN ERa (.row true 3 (ab (-1)));have hA:=gR lZ W1k3 q _ Rak3.1 (by omega);simp only[al,V.ab]at hA;have W1e:=W1k3.lt;have Rb4:=qG (o:=o1) (c:=(.row true 29 (l.flatMap al++al q))) Rb (fun z=>by have:=W1.lt _ z;have:=W1e _ z;have:=Rb.2;simp[ef]at * <;>omega);have E4:Ext h (cg ((H1.new (.row true 29 (al q))).new (.row true 3 (ab (-1)))) o1 (.row true 29 (l.flatMap al++al q))):=Ext.app ERb (fun b z=>⟨by have:=W1.lt b z;have:=(ERb).n;simp[ef]at * <;>omega,(W1e b z).2⟩) _;have c0:h.n≤((H1.new (.row true 29 (al q))).new (.row true 3 (ab (-1)))).n:=(ERb).n;have c1:((H1.new (.row true 29 (al q))).new (.row true 3 (ab (-1)))).n<(cg ((H1.new (.row true 29 (al q))).new (.row true 3 (ab (-1)))) o1 (.row true 29 (l.flatMap al++al q))).n:=(by rw[df];omega);have c2:=lT ((H1.new (.row true 29 (al q))).new (.row true 3 (ab (-1)))) o1 (.row true 29 (l.flatMap al++al q));have E4o:=Ext.bJ (cg ((H1.new (.row true 29 (al q))).new (.row true 3 (ab (-1)))) o1 (.row true 29 (l.flatMap al++al q)));simp -implicitDefEqProofs[aJ,aP,hr1,hr2,hA];intro _;refine(hc2 _ E4).mono ?_;rintro v2 H2 ⟨E2,W2⟩;obtain⟨o2,W2⟩:=Ow.iE W2;obtain⟨rfl,_⟩:=id W2;have Rbk4:=iA Rb4 E2;have E4k4:=E4o.trans E2;have F2:=E4.trans E2;have D2:=W2.lt;have hB:=gR kK W2 (-1) _ Rbk4.1 (by omega);simp only[al,V.ab]at hB;have W2e:=W2.lt;have T:=pe (o2:=o2) E4 E4k4 (fun b z=>⟨by have:=W2.lt b z;simp[ef]at * <;>omega,(W2e b z).2⟩) c2 c0 c1 (p:=p);simp -implicitDefEqProofs[aJ,aP,hr1,hr2,hB];intro _;exact pg _ _ T (by simp[df]) (by simp[df]) (by simp[df])
  ·simp -implicitDefEqProofs[aJ,aP,hr1,hr2];refine(hc1 _ (Ext.bJ h)).mono ?_;rintro v1 H1 ⟨E1,W1⟩;obtain⟨o1,W1⟩:=Ow.iE W1;obtain⟨rfl,_⟩:=id W1;have F1:=(Ext.bJ h).trans E1;have D1:=W1.lt;have W1k2:=W1.ext (Ext.new H1 (.row true 3 (ab (-1))));have Rb:=gU H1 (.row true 3 (ab (-1)));have ERb:=Ext.bN F1 (.row true 3 (ab (-1)));have W1k3:=W1k2.ext (Ext.new (H1.new (.row true 3 (ab (-1)))) (.row true 29 (al q)));have Rbk3:=iA Rb (Ext.new (H1.new (.row true 3 (ab (-1)))) (.row true 29 (al q)));have Ra:=gU (H1.new (.row true 3 (ab (-1)))) (.row true 29 (al q));have ERa:=Ext.bN ERb (.row true 29 (al q));have hA:=gR lZ W1k3 q _ Ra.1 (by omega);simp only[al,V.ab]at hA;have W1e:=W1k3.lt;have Rb4:=qG (o:=o1) (c:=(.row true 29 (l.flatMap al++al q))) Rbk3 (fun z=>by have:=W1.lt _ z;have:=W1e _ z;have:=Rbk3.2;simp[ef]at * <;>omega);have E4:Ext h (cg ((H1.new (.row true 3 (ab (-1)))).new (.row true 29 (al q))) o1 (.row true 29 (l.flatMap al++al q))):=Ext.app ERa (fun b z=>⟨by have:=W1.lt b z;have:=(ERa).n;simp[ef]at * <;>omega,(W1e b z).2⟩) _;have c0:h.n≤((H1.new (.row true 3 (ab (-1)))).new (.row true 29 (al q))).n:=(ERa).n;have c1:((H1.new (.row true 3 (ab (-1)))).new (.row true 29 (al q))).n<(cg ((H1.new (.row true 3 (ab (-1)))).new (.row true 29 (al q))) o1 (.row true 29 (l.flatMap al++al q))).n:=(by rw[df];omega);have c2:=lT ((H1.new (.row true 3 (ab (-1)))).new (.row true 29 (al q))) o1 (.row true 29 (l.flatMap al++al q));have E4o:=Ext.bJ (cg ((H1.new (.row true 3 (ab (-1)))).new (.row true 29 (al q))) o1 (.row true 29 (l.flatMap al++al q)));simp -implicitDefEqProofs[aJ,aP,hr1,hr2,hA];intro _;refine(hc2 _ E4).mono ?_;rintro v2 H2 ⟨E2,W2⟩;obtain⟨o2,W2⟩:=Ow.iE W2;obtain⟨rfl,_⟩:=id W2;have Rbk4:=iA Rb4 E2;have E4k4:=E4o.trans E2;have F2:=E4.trans E2;have D2:=W2.lt;have hB:=gR kK W2 (-1) _ Rbk4.1 (by omega);simp only[al,V.ab]at hB;have W2e:=W2.lt;have T:=pe (o2:=o2) E4 E4k4 (fun b z=>⟨by have:=W2.lt b z;simp[ef]at * <;>omega,(W2e b z).2⟩) c2 c0 c1 (p:=p);simp -implicitDefEqProofs[aJ,aP,hr1,hr2,hB];intro _;exact pg _ _ T (by simp[df]) (by simp[df]) (by simp[df])
  ·have Ra:=gU h (.row true 29 (al q));have ERa:=Ext.bN (Ext.bJ h) (.row true 29 (al q));simp -implicitDefEqProofs[aJ,aP,hr1,hr2];refine(hc1 _ ERa).mono ?_;rintro v1 H1 ⟨E1,W1⟩;obtain⟨o1,W1⟩:=Ow.iE W1;obtain⟨rfl,_⟩:=id W1;have Rak2:=iA Ra E1;have F1:=ERa.trans E1;have D1:=W1.lt;have hA:=gR lZ W1 q _ Rak2.1 (by omega);simp only[al,V.ab]at hA;have W1e:=W1.lt;have E4:Ext h (cg H1 o1 (.row true 29 (l.flatMap al++al q))):=Ext.app F1 (fun b z=>⟨by have:=W1.lt b z;have:=(F1).n;simp[ef]at * <;>omega,(W1e b z).2⟩) _;have c0:h.n≤H1.n:=(F1).n;have c1:H1.n<(cg H1 o1 (.row true 29 (l.flatMap al++al q))).n:=(by rw[df];omega);have c2:=lT H1 o1 (.row true 29 (l.flatMap al++al q));have E4o:=Ext.bJ (cg H1 o1 (.row true 29 (l.flatMap al++al q)));simp -implicitDefEqProofs[aJ,aP,hr1,hr2,hA];intro _;refine(hc2 _ E4).mono ?_;rintro v2 H2 ⟨E2,W2⟩;obtain⟨o2,W2⟩:=Ow.iE W2;obtain⟨rfl,_⟩:=id W2;have E4k3:=E4o.trans E2;have F2:=E4.trans E2;have D2:=W2.lt;have W2k4:=W2.ext (Ext.new H2 (.row true 3 (ab (-1))));have E4k4:=E4k3.trans (Ext.new H2 (.row true 3 (ab (-1))));have Rb:=gU H2 (.row true 3 (ab (-1)));have ERb:=Ext.bN F2 (.row true 3 (ab (-1)));have hB:=gR kK W2k4 (-1) _ Rb.1 (by omega);simp only[al,V.ab]at hB;have W2e:=W2k4.lt;have T:=pe (o2:=o2) E4 E4k4 (fun b z=>⟨by have:=W2.lt b z;simp[ef]at * <;>omega,(W2e b z).2⟩) c2 c0 c1 (p:=p);simp -implicitDefEqProofs[aJ,aP,hr1,hr2,hB];intro _;exact pg _ _ T (by simp[df]) (by simp[df]) (by simp[df])
  ·have Ra:=gU h (.row true 29 (al q));have ERa:=Ext.bN (Ext.bJ h) (.row true 29 (al q));simp -implicitDefEqProofs[aJ,aP,hr1,hr2];refine(hc1 _ ERa).mono ?_;rintro v1 H1 ⟨E1,W1⟩;obtain⟨o1,W1⟩:=Ow.iE W1;obtain⟨rfl,_⟩:=id W1;have Rak2:=iA Ra E1;have F1:=ERa.trans E1;have D1:=W1.lt;have hA:=gR lZ W1 q _ Rak2.1 (by omega);simp only[al,V.ab]at hA;have W1e:=W1.lt;have E4:Ext h (cg H1 o1 (.row true 29 (l.flatMap al++al q))):=Ext.app F1 (fun b z=>⟨by have:=W1.lt b z;have:=(F1).n;simp[ef]at * <;>omega,(W1e b z).2⟩) _;have c0:h.n≤H1.n:=(F1).n;have c1:H1.n<(cg H1 o1 (.row true 29 (l.flatMap al++al q))).n:=(by rw[df];omega);have c2:=lT H1 o1 (.row true 29 (l.flatMap al++al q));have E4o:=Ext.bJ (cg H1 o1 (.row true 29 (l.flatMap al++al q)));have E4k3:=E4o.trans (Ext.new (cg H1 o1 (.row true 29 (l.flatMap al++al q))) (.row true 3 (ab (-1))));have Rb:=gU (cg H1 o1 (.row true 29 (l.flatMap al++al q))) (.row true 3 (ab (-1)));have ERb:=Ext.bN E4 (.row true 3 (ab (-1)));simp -implicitDefEqProofs[aJ,aP,hr1,hr2,hA];intro _;refine(hc2 _ ERb).mono ?_;rintro v2 H2 ⟨E2,W2⟩;obtain⟨o2,W2⟩:=Ow.iE W2;obtain⟨rfl,_⟩:=id W2;have Rbk4:=iA Rb E2;have E4k4:=E4k3.trans E2;have F2:=ERb.trans E2;have D2:=W2.lt;have hB:=gR kK W2 (-1) _ Rbk4.1 (by omega);simp only[al,V.ab]at hB;have W2e:=W2.lt;have T:=pe (o2:=o2) E4 E4k4 (fun b z=>⟨by have:=W2.lt b z;simp[ef]at * <;>omega,(W2e b z).2⟩) c2 c0 c1 (p:=p);simp -implicitDefEqProofs[aJ,aP,hr1,hr2,hB];intro _;exact pg _ _ T (by simp[df]) (by simp[df]) (by simp[df])
  ·have Ra:=gU h (.row true 29 (al q));have ERa:=Ext.bN (Ext.bJ h) (.row true 29 (al q));simp -implicitDefEqProofs[aJ,aP,hr1,hr2];refine(hc1 _ ERa).mono ?_;rintro v1 H1 ⟨E1,W1⟩;obtain⟨o1,W1⟩:=Ow.iE W1;obtain⟨rfl,_⟩:=id W1;have Rak2:=iA Ra E1;have F1:=ERa.trans E1;have D1:=W1.lt;have W1k3:=W1.ext (Ext.new H1 (.row true 3 (ab (-1))));have Rak3:=iA Rak2 (Ext.new H1 (.row true 3 (ab (-1))));have Rb:=gU H1 (.row true 3 (ab (-1)));have ERb:=Ext.bN F1 (.row true 3 (ab (-1)));have hA:=gR lZ W1k3 q _ Rak3.1 (by omega);simp only[al,V.ab]at hA;have W1e:=W1k3.lt;have Rb4:=qG (o:=o1) (c:=(.row true 29 (l.flatMap al++al q))) Rb (fun z=>by have:=W1.lt _ z;have:=W1e _ z;have:=Rb.2;simp[ef]at * <;>omega);have E4:Ext h (cg (H1.new (.row true 3 (ab (-1)))) o1 (.row true 29 (l.flatMap al++al q))):=Ext.app ERb (fun b z=>⟨by have:=W1.lt b z;have:=(ERb).n;simp[ef]at * <;>omega,(W1e b z).2⟩) _;have c0:h.n≤(H1.new (.row true 3 (ab (-1)))).n:=(ERb).n;have c1:(H1.new (.row true 3 (ab (-1)))).n<(cg (H1.new (.row true 3 (ab (-1)))) o1 (.row true 29 (l.flatMap al++al q))).n:=(by rw[df];omega);have c2:=lT (H1.new (.row true 3 (ab (-1)))) o1 (.row true 29 (l.flatMap al++al q));have E4o:=Ext.bJ (cg (H1.new (.row true 3 (ab (-1)))) o1 (.row true 29 (l.flatMap al++al q)));simp -implicitDefEqProofs[aJ,aP,hr1,hr2,hA];intro _;refine(hc2 _ E4).mono ?_;rintro v2 H2 ⟨E2,W2⟩;obtain⟨o2,W2⟩:=Ow.iE W2;obtain⟨rfl,_⟩:=id W2;have Rbk4:=iA Rb4 E2;have E4k4:=E4o.trans E2;have F2:=E4.trans E2;have D2:=W2.lt;have hB:=gR kK W2 (-1) _ Rbk4.1 (by omega);simp only[al,V.ab]at hB;have W2e:=W2.lt;have T:=pe (o2:=o2) E4 E4k4 (fun b z=>⟨by have:=W2.lt b z;simp[ef]at * <;>omega,(W2e b z).2⟩) c2 c0 c1 (p:=p);simp -implicitDefEqProofs[aJ,aP,hr1,hr2,hB];intro _;exact pg _ _ T (by simp[df]) (by simp[df]) (by simp[df])
  ·have Ra:=gU h (.row true 29 (al q));have ERa:=Ext.bN (Ext.bJ h) (.row true 29 (al q));have Rak2:=iA Ra (Ext.new (h.new (.row true 29 (al q))) (.row true 3 (ab (-1))));have Rb:=gU (h.new (.row true 29 (al q))) (.row true 3 (ab (-1)));have ERb:=Ext.bN ERa (.row true 3 (ab (-1)));simp -implicitDefEqProofs[aJ,aP,hr1,hr2];refine(hc1 _ ERb).mono ?_;rintro v1 H1 ⟨E1,W1⟩;obtain⟨o1,W1⟩:=Ow.iE W1;obtain⟨rfl,_⟩:=id W1;have Rak3:=iA Rak2 E1;have Rbk3:=iA Rb E1;have F1:=ERb.trans E1;have D1:=W1.lt;have hA:=gR lZ W1 q _ Rak3.1 (by omega);simp only[al,V.ab]at hA;have W1e:=W1.lt;have Rb4:=qG (o:=o1) (c:=(.row true 29 (l.flatMap al++al q))) Rbk3 (fun z=>by have:=W1.lt _ z;have:=W1e _ z;have:=Rbk3.2;simp[ef]at * <;>omega);have E4:Ext h (cg H1 o1 (.row true 29 (l.flatMap al++al q))):=Ext.app F1 (fun b z=>⟨by have:=W1.lt b z;have:=(F1).n;simp[ef]at * <;>omega,(W1e b z).2⟩) _;have c0:h.n≤H1.n:=(F1).n;have c1:H1.n<(cg H1 o1 (.row true 29 (l.flatMap al++al q))).n:=(by rw[df];omega);have c2:=lT H1 o1 (.row true 29 (l.flatMap al++al q));have E4o:=Ext.bJ (cg H1 o1 (.row true 29 (l.flatMap al++al q)));simp -implicitDefEqProofs[aJ,aP,hr1,hr2,hA];intro _;refine(hc2 _ E4).mono ?_;rintro v2 H2 ⟨E2,W2⟩;obtain⟨o2,W2⟩:=Ow.iE W2;obtain⟨rfl,_⟩:=id W2;have Rbk4:=iA Rb4 E2;have E4k4:=E4o.trans E2;have F2:=E4.trans E2;have D2:=W2.lt;have hB:=gR kK W2 (-1) _ Rbk4.1 (by omega);simp only[al,V.ab]at hB;have W2e:=W2.lt;have T:=pe (o2:=o2) E4 E4k4 (fun b z=>⟨by have:=W2.lt b z;simp[ef]at * <;>omega,(W2e b z).2⟩) c2 c0 c1 (p:=p);simp -implicitDefEqProofs[aJ,aP,hr1,hr2,hB];intro _;exact pg _ _ T (by simp[df]) (by simp[df]) (by simp[df])
  ·have Rb:=gU h (.row true 3 (ab (-1)));have ERb:=Ext.bN (Ext.bJ h) (.row true 3 (ab (-1)));simp -implicitDefEqProofs[aJ,aP,hr1,hr2];refine(hc1 _ ERb).mono ?_;rintro v1 H1 ⟨E1,W1⟩;obtain⟨o1,W1⟩:=Ow.iE W1;obtain⟨rfl,_⟩:=id W1;have Rbk2:=iA Rb E1;have F1:=ERb.trans E1;have D1:=W1.lt;have W1k3:=W1.ext (Ext.new H1 (.row true 29 (al q)));have Rbk3:=iA Rbk2 (Ext.new H1 (.row true 29 (al q)));have Ra:=gU H1 (.row true 29 (al q));have ERa:=Ext.bN F1 (.row true 29 (al q));have hA:=gR lZ W1k3 q _ Ra.1 (by omega);simp only[al,V.ab]at hA;have W1e:=W1k3.lt;have Rb4:=qG (o:=o1) (c:=(.row true 29 (l.flatMap al++al q))) Rbk3 (fun z=>by have:=W1.lt _ z;have:=W1e _ z;have:=Rbk3.2;simp[ef]at * <;>omega);have E4:Ext h (cg (H1.new (.row true 29 (al q))) o1 (.row true 29 (l.flatMap al++al q))):=Ext.app ERa (fun b z=>⟨by have:=W1.lt b z;have:=(ERa).n;simp[ef]at * <;>omega,(W1e b z).2⟩) _;have c0:h.n≤(H1.new (.row true 29 (al q))).n:=(ERa).n;have c1:(H1.new (.row true 29 (al q))).n<(cg (H1.new (.row true 29 (al q))) o1 (.row true 29 (l.flatMap al++al q))).n:=(by rw[df];omega);have c2:=lT (H1.new (.row true 29 (al q))) o1 (.row true 29 (l.flatMap al++al q));have E4o:=Ext.bJ (cg (H1.new (.row true 29 (al q))) o1 (.row true 29 (l.flatMap al++al q)));simp -implicitDefEqProofs[aJ,aP,hr1,hr2,hA];intro _;refine(hc2 _ E4).mono ?_;rintro v2 H2 ⟨E2,W2⟩;obtain⟨o2,W2⟩:=Ow.iE W2;obtain⟨rfl,_⟩:=id W2;have Rbk4:=iA Rb4 E2;have E4k4:=E4o.trans E2;have F2:=E4.trans E2;have D2:=W2.lt;have hB:=gR kK W2 (-1) _ Rbk4.1 (by omega);simp only[al,V.ab]at hB;have W2e:=W2.lt;have T:=pe (o2:=o2) E4 E4k4 (fun b z=>⟨by have:=W2.lt b z;simp[ef]at * <;>omega,(W2e b z).2⟩) c2 c0 c1 (p:=p);simp -implicitDefEqProofs[aJ,aP,hr1,hr2,hB];intro _;exact pg _ _ T (by simp[df]) (by simp[df]) (by simp[df])
  ·have Rb:=gU h (.row true 3 (ab (-1)));have ERb:=Ext.bN (Ext.bJ h) (.row true 3 (ab (-1)));have Rbk2:=iA Rb (Ext.new (h.new (.row true 3 (ab (-1)))) (.row true 29 (al q)));have Ra:=gU (h.new (.row true 3 (ab (-1)))) (.row true 29 (al q));have ERa:=Ext.bN ERb (.row true 29 (al q));simp -implicitDefEqProofs[aJ,aP,hr1,hr2];refine(hc1 _ ERa).mono ?_;rintro v1 H1 ⟨E1,W1⟩;obtain⟨o1,W1⟩:=Ow.iE W1;obtain⟨rfl,_⟩:=id W1;have Rak3:=iA Ra E1;have Rbk3:=iA Rbk2 E1;have F1:=ERa.trans E1;have D1:=W1.lt;have hA:=gR lZ W1 q _ Rak3.1 (by omega);simp only[al,V.ab]at hA;have W1e:=W1.lt;have Rb4:=qG (o:=o1) (c:=(.row true 29 (l.flatMap al++al q))) Rbk3 (fun z=>by have:=W1.lt _ z;have:=W1e _ z;have:=Rbk3.2;simp[ef]at * <;>omega);have E4:Ext h (cg H1 o1 (.row true 29 (l.flatMap al++al q))):=Ext.app F1 (fun b z=>⟨by have:=W1.lt b z;have:=(F1).n;simp[ef]at * <;>omega,(W1e b z).2⟩) _;have c0:h.n≤H1.n:=(F1).n;have c1:H1.n<(cg H1 o1 (.row true 29 (l.flatMap al++al q))).n:=(by rw[df];omega);have c2:=lT H1 o1 (.row true 29 (l.flatMap al++al q));have E4o:=Ext.bJ (cg H1 o1 (.row true 29 (l.flatMap al++al q)));simp -implicitDefEqProofs[aJ,aP,hr1,hr2,hA];intro _;refine(hc2 _ E4).mono ?_;rintro v2 H2 ⟨E2,W2⟩;obtain⟨o2,W2⟩:=Ow.iE W2;obtain⟨rfl,_⟩:=id W2;have Rbk4:=iA Rb4 E2;have E4k4:=E4o.trans E2;have F2:=E4.trans E2;have D2:=W2.lt;have hB:=gR kK W2 (-1) _ Rbk4.1 (by omega);simp only[al,V.ab]at hB;have W2e:=W2.lt;have T:=pe (o2:=o2) E4 E4k4 (fun b z=>⟨by have:=W2.lt b z;simp[ef]at * <;>omega,(W2e b z).2⟩) c2 c0 c1 (p:=p);simp -implicitDefEqProofs[aJ,aP,hr1,hr2,hB];intro _;exact pg _ _ T (by simp[df]) (by simp[df]) (by simp[df])
 ·rintro⟨T,⟨x,G⟩⟩ ⟨E,c,d,g6,g7,r⟩;simp at E g6 g7 r;simp -implicitDefEqProofs[g6,g7];exact⟨E,c,d,⟨rfl,rfl⟩,r⟩
def tW (p q:List Int) (k:Nat):Bool:=decide (p.getD k 0≠q.getD k 0)
def mT (p q:List Int) (i:Nat):List Int:=((List.range i).filter (tW p q)).map fun k:Nat=>(k:Int)
theorem aaP (p q:List Int) (i:Nat):mT p q (i+1)=if tW p q i=true then mT p q i++[(i:Int)]else mT p q i:=by
 unfold mT;rw[nY,nr,lk];by_cases z:tW p q i=true
 ·simp[z]
 ·simp[z]
theorem aaO (p q:List Int) (i:Nat):(mT p q i).length≤i:=by
 unfold mT;rw[cN];have:=List.length_filter_le (tW p q) (List.range i);rwa[qy]at this
def Rw (h:aa) (v1 v2:Value) (p q:List Int) (m n:Nat) (σ:St):Prop:=∃(i:Nat) (o:Option Nat) (w:Value),n=m-i∧i≤m∧Ext h σ.m.h∧Ow 3 ab h σ.m.h o (mT p q i) w∧
 σ.t.get 0=some v1∧σ.t.get 1=some v2∧σ.t.get 5=some w∧σ.t.get 11=some (.int .i64 (m:Nat))∧σ.t.get 12=some (.int .i64 (i:Nat))
theorem aaQ (p q:List Int) (v1 v2:Value) (hp:p.length≤1073741824) (hq:q.length≤1073741824) (h:aa) (H1:bq h v1 p) (H2:bq h v2 q):
  ao PP 114 [v1,v2] h (fun r h'=>Ext h h'∧aK 3 ab h' r (mT p q (min p.length q.length))):=by
 refine ao.jT (post:=fun v' h'=>Ext h h'∧cL 3 ab h h' v' (mT p q (min p.length q.length))) ?_ (fun v h' ⟨E,W⟩=>by
  obtain⟨h'',w,E',S⟩:=W.dB E;exact⟨h'',w,E',S⟩)
 refine aC mix (aD Tryz.func114) rfl rfl rfl acX ?_;simp only[ai,Tryz.f114];obtain⟨ad1,c1,rfl⟩:=H1.shape;obtain⟨ad2,c2,rfl⟩:=H2.shape;have hr1:List.range 1=[0]:=rfl;obtain⟨m,hm⟩:∃m,m=min p.length q.length:=⟨_,rfl⟩;have hm1:m≤p.length:=by omega
 have hm2:m≤q.length:=by omega
 have hmi:min (p.length:Int) (q.length:Int)=(m:Nat):=by omega
 have hmi':(if q.length<p.length then(q.length:Int)else p.length)=(m:Nat):=by split<;>omega
 rw[←hm];simp -implicitDefEqProofs[hmi'];refine bL (Rw h (.slice ad1 p.length c1) (.slice ad2 q.length c2) p q m) _ ⟨0,none,_,rfl,by omega,Ext.bJ h,Ow.nil,by simp⟩ ?_;rintro n ⟨T,⟨x,G⟩⟩ ⟨i,o,w,rfl,hi,E,W,g0,g1,g5,g11,g12⟩;simp at E W g0 g1 g5 g11 g12;have hwn:cu w=true:=by rw[W.1];rfl
 simp only[cu,iY,Option.isNone_iff_eq_none]at hwn;simp -implicitDefEqProofs[g0,g1,g5,g11,g12,hwn];refine bY (fun hc=>?_) (fun hc=>?_)
 ·have him:i<m:=by omega
  have w1:=bU (i:=i) (by omega);have hti:p[i]? =some p[i]:=av (by omega);have hui:q[i]? =some q[i]:=av (by omega);obtain⟨_,b,o1,w0,cells,r,rfl,hb,hd,hlc,_⟩:=(cU.ext H1 E).at 1 V.dV hti;obtain⟨_,b',o1',w0',cells',r',rfl,hb',hd',hlc',_⟩:=(cU.ext H2 E).at 1 V.dV hui;rw[Nat.mul_one]at hd hd';have hl1:o1+i+1≤cells.length:=by omega
  have hl2:o1'+i+1≤cells'.length:=by omega
  have hip:i<p.length:=by omega
  have hiq:i<q.length:=by omega
  obtain⟨t,ht⟩:∃t,t=p[i]:=⟨_,rfl⟩;obtain⟨u,hu⟩:∃u,u=q[i]:=⟨_,rfl⟩;rw[←ht]at hd hti;rw[←hu]at hd' hui;have hnk:tW p q i=decide (t≠u):=by unfold tW;rw[bB,hti,bB,hui];rfl
  have hsu:=aaP p q i;have hll:=aaO p q i;rw[hnk]at hsu;obtain⟨acc,hacc⟩:∃acc,acc=mT p q i:=⟨_,rfl⟩;rw[←hacc]at W hsu hll;have hA:=jB rT W (i:Int) (by omega);simp only[ab]at hA;obtain⟨rfl,_⟩:=id W;by_cases z:t=u
  ·subst z;simp at hsu;simp -implicitDefEqProofs[g0,g1,g5,g11,g12,him,hip,hiq,hb,hd,hl1,hb',hd',hl2,ab,w1];exact⟨m-(i+1),by omega,i+1,o,_,rfl,by omega,E,by rw[hsu];exact W,by simp⟩
  ·simp only[ne_eq,z,not_false_eq_true,decide_true,if_true]at hsu;simp -implicitDefEqProofs[g0,g1,g5,g11,g12,him,hip,hiq,hb,hd,hl1,hb',hd',hl2,ab,w1,z,aP,hr1,hA];refine⟨m-(i+1),by omega,i+1,some (G.n+1),.slice (some ⟨G.n+1,0,none⟩) (acc.length+1) (acc.length+1),rfl,by omega,jD E W _ _,?_,by simp⟩;rw[hsu];exact Ow.one W E.n _ (i:Int) rfl
 ·have e:i=m:=by omega
  subst e;have hfin:=W.own;simp -implicitDefEqProofs[g0,g1,g5,g11,g12,hwn];exact⟨E,hfin⟩
theorem ahQ (v:aj) (M:aN v=true) (cs:List Value) (p:aV) (a:Int) (ha: -4611686018427387904≤a∧a≤4611686018427387904) (h:aa) (H:fw h v cs):
  ao PP 151 [.agg ⟨cs⟩,fh p,.int .i64 a] h (rG h (cS v (cd v) p a)):=by
 refine aC mix (aD Tryz.func151) rfl rfl rfl adj ?_;simp only[ai,Tryz.f151];have hh:=JD v M cs h H;have hcl:=H.len;have hct:cs.take 5=cs:=bZ (by omega);have HM:tb v (cd v):=by
  have F:=k8 M;have:=F.len;exact⟨F,by rw[yI M];omega⟩
 simp -implicitDefEqProofs[fh,al,hcl,hct];refine hh.mono ?_;rintro r G ⟨E,hc,HF,rfl⟩;have hlen:hc.length=6:=by
  obtain⟨vc,uv,rfl,hv,hu⟩:=HF;rw[bF,hv.len];rfl
 have hone:hc.all one=true:=by
  obtain⟨vc,uv,rfl,hv,hu⟩:=HF;obtain⟨ad,c,rfl⟩:=hu.shape;rw[List.all_append,hv.one];rfl
 have htk:hc.take 6=hc:=bZ (by omega);have hs:=xp v (cd v) HM hc p a ha G HF;simp only[fh,al]at hs;simp -implicitDefEqProofs[aJ,hlen,hone,htk];intro _;refine hs.mono ?_;unfold rG;obtain⟨R,hR⟩:∃R,R=cS v (cd v) p a:=⟨_,rfl⟩;rw[←hR];cases R with
 |none=>
  rintro r G2 ⟨E2,rfl⟩;simp -implicitDefEqProofs[aJ];intro _;exact E.trans E2
 |some L=>
  rintro r G2 ⟨E2,sv,hsv,rfl⟩;obtain⟨ad,c,rfl⟩:=hsv.shape;simp -implicitDefEqProofs[aJ];intro _;exact⟨E.trans E2,hsv⟩
end Go.Proofs.Ybk.K
namespace Go.Proofs.Ybk.T
open Go Go.Am
def cK (b:Nat):Nat:=if b=32∨b=9∨b=13 then 1 else if b=35 then 2 else if b=10 then 3 else if b=45 then 6 else if 97≤b∧b≤122 then 4 else if 48≤b∧b≤57 then 5 else 0
theorem nD (b:UInt8) (h:aa):ao PP 213 [.int .u8 b.toNat] h (fun v h'=>h'=h∧v= .int .i64 (cK b.toNat)):=by
 refine aC mix (aD Tryz.func213) rfl rfl rfl aeq ?_;simp only[ai,Tryz.f213];generalize b.toNat=n;simp[va,vx];repeat' first
  |(refine iM (fun hc=>?_) (fun hc=>?_)<;>simp only[dP,lp]at hc<;>simp[va,vx,hc])
  |(refine zZ (fun hc=>?_) (fun hc=>?_)<;>simp only[dP,lp]at hc<;>simp[va,vx,hc])
 all_goals (simp only[cK];(repeat' split)<;>omega)
def eL (k:Nat):List UInt8→Nat
 |[]=>0
 |c::r=>if cK c.toNat=k then eL k r+1 else 0
theorem aiB {k a:Nat} {l:List UInt8} {c:UInt8} (hc:l[a]? =some c):eL k (l.drop a)=if cK c.toNat=k then eL k (l.drop (a+1))+1 else 0:=by
 rw[cY]at hc;obtain⟨ha,hc⟩:=hc;rw[ie ha,hc,eL]
theorem aiC {k a:Nat} {l:List UInt8} (h:¬a<l.length):eL k (l.drop a)=0:=by
 rw[List.drop_eq_nil_of_le (by omega),eL]
def RQ (l:List UInt8) (a k:Nat) (h:aa) (n:Nat) (σ:St):Prop:=∃b,n=l.length-b∧σ.t.get 0=some (.string (B l))∧σ.t.get 1=some (.int .i64 (b:Nat))∧σ.t.get 2=some (.int .i64 k)∧σ.m.h=h∧b+eL k (l.drop b)=a+eL k (l.drop a)
theorem yp (l:List UInt8) (a k:Nat) (hl:l.length≤1073741824) (h:aa):ao PP 214 [.string (B l),.int .i64 a,.int .i64 k] h (fun v h'=>h'=h∧v= .int .i64 ((a+eL k (l.drop a):Nat):Int)):=by
 refine aC mix (aD Tryz.func214) rfl rfl rfl aer ?_;simp only[ai,Tryz.f214];simp;refine bL (RQ l a k h) _ ⟨a,rfl,by simp,by simp,by simp,rfl,rfl⟩ ?_;rintro n ⟨t,⟨x,h'⟩⟩ ⟨b,rfl,h0,h1,h2,rfl,hr⟩;simp at h0 h1 h2;simp[h0,h1,h2];refine zZ (fun hc=>?_) (fun hc=>?_)<;>simp only[dP,lp]at hc
 ·have hb:b<l.length:=by omega
  have hc':l[b]? =some l[b]:=av hb;simp[h0,h1,h2,hc,hc'];refine(nD _ _).mono ?_;rintro v h'' ⟨rfl,rfl⟩;simp[h0,h1,h2,hc,hc',af];intro _;have hr':=aiB (k:=k) hc';refine bY (fun hk=>?_) (fun hk=>?_)
  ·rw[if_pos (by omega)]at hr';have hw:=bU (i:=b) (by omega);simp[hw];exact⟨l.length-(b+1),by omega,b+1,by omega,by simp[h0],by simp,by simp[h2],rfl,by omega⟩
  ·rw[if_neg (by omega)]at hr';simp;omega
 ·have hr':=aiC (k:=k) (a:=b) (l:=l) (by omega);simp[h0,h1,h2,hc];omega
def dE:Bool→List UInt8→Nat
 |_,[]=>0
 |true,c::r=>if c.toNat=10 then 0 else dE true r+1
 |false,c::r=>if cK c.toNat=1 then dE false r+1 else if cK c.toNat=2 then dE true r+1 else 0
theorem tJ {a:Nat} {l:List UInt8} {c:UInt8} (hc:l[a]? =some c):l.drop a=c::l.drop (a+1):=by
 rw[cY]at hc;obtain⟨ha,hc⟩:=hc;rw[ie ha,hc]
theorem w8 {a:Nat} {l:List UInt8} (h:¬a<l.length):l.drop a=[]:=List.drop_eq_nil_of_le (by omega)
theorem Zy {b:Nat}:cK b=2↔b=35:=by simp only[cK];(repeat' split)<;>omega
def wD (l:List UInt8) (a:Nat) (h:aa) (n:Nat) (σ:St):Prop:=∃b,n=l.length-b∧σ.t.get 0=some (.string (B l))∧σ.t.get 1=some (.int .i64 (b:Nat))∧σ.m.h=h∧b+dE false (l.drop b)=a+dE false (l.drop a)
def RH (l:List UInt8) (a:Nat) (h:aa) (n:Nat) (σ:St):Prop:=∃b,n=l.length-b∧a≤b∧σ.t.get 0=some (.string (B l))∧σ.t.get 1=some (.int .i64 (b:Nat))∧σ.m.h=h∧b+dE true (l.drop b)=a+dE true (l.drop a)
theorem ajl (l:List UInt8) (a:Nat) (hl:l.length≤1073741824) (h:aa):ao PP 211 [.string (B l),.int .i64 a] h (fun v h'=>h'=h∧v= .int .i64 ((a+dE false (l.drop a):Nat):Int)):=by
 refine aC mix (aD Tryz.func211) rfl rfl rfl aeo ?_;simp only[ai,Tryz.f211];simp;refine bL (wD l a h) _ ⟨a,rfl,by simp,by simp,rfl,rfl⟩ ?_;rintro n ⟨t,⟨x,h'⟩⟩ ⟨b,rfl,h0,h1,rfl,hr⟩;simp at h0 h1;simp[h0,h1];refine bY (fun hc=>?_) (fun hc=>?_)
 ·have hb:b<l.length:=by omega
  have hc':l[b]? =some l[b]:=av hb;have hd:=tJ hc';simp[h0,h1,hc'];refine(nD _ _).mono ?_;rintro v h'' ⟨rfl,rfl⟩;simp[h0,h1,hc',af];intro _;refine bY (fun hk=>?_) (fun hk=>?_)
  ·have hw:=bU (i:=b) (by omega);simp[hw,h0];rw[hd,dE,if_pos (by omega)]at hr;exact⟨l.length-(b+1),by omega,b+1,by omega,by simp[h0],by simp,rfl,by omega⟩
  ·simp[h0];refine bY (fun hk2=>?_) (fun hk2=>?_)
   ·simp;have h35:=Zy.1 (show cK l[b].toNat=2 by omega);refine bL (RH l b h'') _ ⟨b,rfl,a8 _,by simp[h0],by simp,rfl,rfl⟩ ?_;rintro n ⟨t,⟨x,h'⟩⟩ ⟨c,rfl,hbc,h0,h1,rfl,hr2⟩;simp at h0 h1;rw[hd,dE,if_neg (by omega),if_pos (by omega)]at hr;have hr3:dE true (l.drop b)=dE true (l.drop (b+1))+1:=(by rw[hd,dE,if_neg (by omega)]);simp[h0,h1];refine zZ (fun hq=>?_) (fun hq=>?_)<;>simp only[dP,lp]at hq
    ·have hb':c<l.length:=(by omega);have hc2:l[c]? =some l[c]:=av hb';have hd2:=tJ hc2;simp[h0,h1,hq,hc2];refine iM (fun hk4=>?_) (fun hk4=>?_)<;>simp at hk4
     ·have hw:=bU (i:=c) (by omega);simp[hw];rw[hd2,dE,if_neg (by omega)]at hr2;exact⟨l.length-(c+1),by omega,c+1,by omega,by omega,by simp[h0],by simp,rfl,by omega⟩
     ·simp;have hcb:b≠c:=by
       intro e;subst e;omega
      rw[hd2,dE,if_pos (by omega)]at hr2;refine⟨l.length-c,by omega,c,rfl,by simp[h0],by simp,rfl,?_⟩;have:cK l[c].toNat=3:=(by rw[show l[c].toNat=10 by omega];rfl);rw[hd2,dE,if_neg (by omega),if_neg (by omega)];omega
    ·have hr':=w8 (a:=c) (l:=l) (by omega);simp[h0,h1,hq];rw[hr',dE]at hr2;refine⟨l.length-c,by omega,c,rfl,by simp[h0],by simp,rfl,?_⟩;rw[hr',dE];omega
   ·simp[h0];rw[hd,dE,if_neg (by omega),if_neg (by omega)]at hr;omega
 ·have hr':=w8 (a:=b) (l:=l) (by omega);rw[hr',dE]at hr;simp[h0,h1];omega
end Go.Proofs.Ybk.T
namespace Go.Proofs.Ybk.T
open Go Go.Am
set_option maxHeartbeats 2000000
@[irreducible] def qB (n d:Nat):Nat:=if 2147483649<n*10+d then 2147483649 else n*10+d
theorem u7 (n d:Nat):qB n d=if 2147483649<n*10+d then 2147483649 else n*10+d:=by unfold qB;rfl
theorem zw (n d:Nat):qB n d≤2147483649:=by rw[u7];split<;>omega
def kr (n:Nat):List UInt8→Nat
 |[]=>n
 |c::r=>kr (qB n (c.toNat-48)) r
theorem tY (n:Nat) (c:UInt8) (r:List UInt8):kr n (c::r)=kr (qB n (c.toNat-48)) r:=by simp only[kr]
theorem vH (n:Nat):kr n []=n:=by simp only[kr]
theorem xw {b:Nat}:cK b=5↔48≤b∧b≤57:=by simp only[cK];(repeat' split)<;>omega
theorem abk:∀(l:List UInt8) (n:Nat),n≤2147483649→kr n l≤2147483649:=by
 intro l;induction l with
 |nil=>intro n h;exact h
 |cons c r ih=>intro n h;exact ih _ (zw _ _)
structure Cd where
 n:Int
 to:Nat
 ok:Bool
def jS (l:List UInt8) (k m t:Nat) (n:Int):Cd:=
 if t=0∨n < -2147483648∨2147483647<n then⟨0,k,false⟩
 else⟨n,k+m+t,match l[k+m+t]? with
  |some c=>decide (cK c.toNat≠4)&&decide (cK c.toNat≠6)
  |none=>true⟩
def fS (l:List UInt8) (k:Nat):Nat:=if(l.getD k 0).toNat=45 then 1 else 0
def iS (l:List UInt8) (k:Nat):Nat:=eL 5 (l.drop (k+fS l k))
def l8 (l:List UInt8) (k:Nat):Int:=
 let n:Int:=kr 0 ((l.drop (k+fS l k)).take (iS l k))
 if fS l k=1 then -n else n
def fY (l:List UInt8) (k:Nat):Cd:=jS l k (fS l k) (iS l k) (l8 l k)
def BT (l ds:List UInt8) (z f g:Int) (h:aa) (n:Nat) (σ:St):Prop:=∃p,n=ds.length-p∧p≤ds.length∧Ext h σ.m.h∧h.n<σ.m.h.n∧σ.m.h.f h.n= .obj (.stringIter (B ds) p)∧
 σ.t.get 0=some (.string (B l))∧σ.t.get 1=some (.int .i64 z)∧σ.t.get 7=some (.int .i64 f)∧σ.t.get 8=some (.int .i64 g)∧
 σ.t.get 26=some (.pointer (some ⟨h.n,0,none⟩))∧∃v:Nat,v≤2147483649∧σ.t.get 9=some (.int .i64 v)∧kr v (ds.drop p)=kr 0 ds
theorem GZ {ds:List UInt8} {p:Nat} {c:UInt8} (hc:ds[p]? =some c) (h:c.toNat<128):Utf8.decode (B ds) p=(c.toNat,1):=by
 rw[cY]at hc;obtain⟨hp,hc⟩:=hc;have:=decode_ascii (B ds) p (by rw[wy];exact hp) (by show(ds[p]).toNat<128;rw[hc];exact h);rw[this];show((ds[p]).toNat,1)=_;rw[hc]
theorem JE {x:Int} (h: -2147483648≤x∧x≤2147483647):IntKind.wrap .i32 x=x:=by
 have e:IntKind.wrap .i32 x=if(x % 4294967296:Int)≥2147483648 then x % 4294967296-4294967296 else x % 4294967296:=by
  simp[IntKind.wrap,IntKind.bits,IntKind.signed]
 rw[e];split<;>omega
theorem uq (k:Nat):∀l:List UInt8,eL k l≤l.length:=by
 intro l;induction l with
 |nil=>simp[eL]
 |cons c r ih=>simp only[eL];split<;>simp<;>omega
theorem aiA (k:Nat):∀l:List UInt8,∀c∈l.take (eL k l),cK c.toNat=k:=by
 intro l;induction l with
 |nil=>simp[eL]
 |cons c r ih=>
  intro d hd;simp only[eL]at hd;split at hd
  ·rename_i hk;rw[List.take_succ_cons,cE]at hd;rcases hd with rfl|hd
   ·exact hk
   ·exact ih d hd
  ·simp at hd
theorem abp (l:List UInt8) (k:Nat) (hk:k<l.length) (hl:l.length≤1073741824) (h:aa):ao PP 215 [.string (B l),.int .i64 k] h (fun v h'=>Ext h h'∧v= .tuple #[.int .i64 (fY l k).n,.int .i64 (fY l k).to,.bool (fY l k).ok]):=by
 refine aC mix (aD Tryz.func215) rfl rfl rfl aes ?_;simp only[ai,Tryz.f215];have hc':l[k]? =some l[k]:=av hk;have hd:=tJ hc';simp[hc'];obtain⟨m,hm⟩:∃m,m=if l[k].toNat=45 then 1 else 0:=⟨_,rfl⟩;have hkm:k+m≤l.length:=by split at hm<;>omega
 obtain⟨t,ht⟩:∃t,t=eL 5 (l.drop (k+m)):=⟨_,rfl⟩;have htl:k+m+t≤l.length:=by have:=uq 5 (l.drop (k+m));rw[eN]at this;omega
 obtain⟨ds,hds⟩:∃ds,ds=(l.drop (k+m)).take t:=⟨_,rfl⟩;have hds':(l.take (k+m+t)).drop (k+m)=ds:=by rw[hds,List.drop_take];congr 1;omega
 have hdl:ds.length=t:=by rw[hds,cQ,eN];omega
 have hdd:∀c∈ds,48≤c.toNat∧c.toNat≤57:=fun c hc=>by rw[hds,ht]at hc;exact xw.1 (aiA 5 _ c hc)
 have e1:=bU (i:=k) (by omega);obtain⟨f,hf⟩:∃f:Int,f=((k+m:Nat):Int):=⟨_,rfl⟩;obtain⟨g,hg⟩:∃g:Int,g=((k+m+t:Nat):Int):=⟨_,rfl⟩;have hrun:=yp l (k+m) 5 hl h;rw[←hf,←ht,←hg]at hrun;have i1:(0:Int)≤f:=by omega
 have i2:(0:Int)≤g:=by omega
 have i3:f.toNat=k+m:=by omega
 have i4:g.toNat=k+m+t:=by omega
 obtain⟨nn,hnn⟩:∃nn:Int,nn=if m=1 then -(kr 0 ds:Int)else kr 0 ds:=⟨_,rfl⟩;have hM:fS l k=m:=by rw[hm];simp[fS,hk]
 have hT:iS l k=t:=by rw[ht,iS,hM]
 have hN:l8 l k=nn:=by rw[hnn,l8,hM,hT,←hds]
 have hV:fY l k=jS l k m t nn:=by rw[fY,hM,hT,hN]
 have hnl:=abk ds 0 (by omega);rw[hV];refine iM (fun hm'=>?_) (fun hm'=>?_)<;>simp only[dP,lp]at hm'
 ·have hm1:m=1:=by rw[if_pos (by omega)]at hm;exact hm
  have e1:IntKind.wrap .i64 ((k:Int)+1)=f:=by rw[bK (by omega),hf,hm1];omega
  simp[e1];refine hrun.mono ?_;rintro v h'' ⟨rfl,rfl⟩;simp[af];intro _;simp[i1,i2,i3,i4,htl,hds',mZ];refine bL (BT l ds _ f g h'') _ ⟨0,rfl,by omega,Ext.new _ _,by simp,by simp,by simp,rfl,by simp,by simp,by simp,0,by omega,by simp,rfl⟩ ?_;rintro n ⟨T,⟨x,H⟩⟩ ⟨p,rfl,hp,hE,hn,hit,h0,h1,h7,h8,h26,v,hv,h9,hr⟩;simp at hE hn hit h0 h1 h7 h8 h26 h9;simp[h26,hit,qS];by_cases hpl:p<ds.length
  ·have hc2:ds[p]? =some ds[p]:=av hpl;have hdig:=hdd ds[p] (fy hpl);have hdr:=tJ hc2;rw[hdr,tY]at hr;obtain⟨d,hd2⟩:∃d:Nat,d=ds[p].toNat-48:=⟨_,rfl⟩;obtain⟨q1,hq1⟩:∃q:Int,q=(v:Int)*10:=⟨_,rfl⟩;obtain⟨q2,hq2⟩:∃q:Int,q=(d:Int):=⟨_,rfl⟩;obtain⟨q3,hq3⟩:∃q:Int,q=q1+q2:=⟨_,rfl⟩;obtain⟨q4,hq4⟩:∃q:Int,q=if 2147483649<q3 then 2147483649 else q3:=⟨_,rfl⟩;have hq5:q4=(qB v d:Int):=(by rw[hq4,u7];split<;>split<;>omega);have w1:IntKind.wrap .i32 ((ds[p].toNat:Int)-48)=q2:=(by rw[JE (by omega)];omega);have w2:IntKind.wrap .i64 ((v:Int)*10)=q1:=(by rw[bK (by omega)];omega);have w3:IntKind.wrap .i64 q2=q2:=bK (by omega);have w4:IntKind.wrap .i64 (q1+q2)=q3:=(by rw[bK (by omega)];omega);simp only[hpl,if_true,GZ hc2 (by omega)];rw[←hd2]at hr;simp[h0,h1,h7,h8,h9,h26,w1,w2,w3,w4,←hq4];refine⟨ds.length-(p+1),by omega,p+1,rfl,by omega,hE.dh (a8 _) _,hn,by simp,by simp[h0],by simp[h1],by simp[h7],by simp[h8],by simp[h26],_,zw _ _,by simp[←hq5],hr⟩
  ·have hr0:kr 0 ds=v:=(by rw[w8 hpl,vH]at hr;exact hr.symm);simp[hpl,h0,h1,h7,h8,h9,h26];have e9:IntKind.wrap .i64 (-(v:Int))=nn:=(by rw[bK (by omega),hnn,if_pos hm1,hr0]);have e10:(k:Int)<f:=(by omega);simp[e9,e10];by_cases ht0:t=0
   ·have hg0:g=f:=(by omega);simp[hg0,jS,ht0,hf];exact hE
   ·have hg0:¬g=f:=(by omega);simp[hg0];by_cases hn1:nn < -2147483648
    ·simp[hn1,jS,hf];exact hE
    ·simp[hn1];by_cases hn2:2147483647<nn
     ·simp[hn2,jS,hf];exact hE
     ·simp[hn2];have hV2:jS l k m t nn=⟨nn,k+m+t,match l[k+m+t]? with
        |some c=>decide (cK c.toNat≠4)&&decide (cK c.toNat≠6)
        |none=>true⟩:=by rw[jS,if_neg (by omega)]
      rw[hV2];by_cases hend:g=(l.length:Int)
      ·have hnone:l[k+m+t]? =none:=iK (by omega);simp[hend,hnone];exact⟨hE,by omega⟩
      ·have hlt:k+m+t<l.length:=(by omega);have hc3:l[k+m+t]? =some l[k+m+t]:=av hlt;simp[hend,i2,i4,hc3];refine(nD _ _).mono ?_;rintro v' h3 ⟨rfl,rfl⟩;simp[af];intro _;by_cases hk4:cK l[k+m+t].toNat=4
       ·have hk4':((cK l[k+m+t].toNat:Nat):Int)=4:=(by omega);simp[hk4',hk4];exact⟨hE,by omega⟩
       ·have hk4':¬((cK l[k+m+t].toNat:Nat):Int)=4:=(by omega);simp[hk4',hk4,i2,i4,hc3];refine(nD _ _).mono ?_;rintro v' h3 ⟨rfl,rfl⟩;simp[af];intro _;refine⟨hE,by omega,?_⟩;by_cases hk6:cK l[k+m+t].toNat=6
        ·simp[hk6]
        ·have:¬((cK l[k+m+t].toNat:Nat):Int)=6:=(by omega);simp[hk6,this]
 ·have hm1:m=0:=by rw[if_neg (by omega)]at hm;exact hm
  have e1:(k:Int)=f:=by rw[hf,hm1];omega
  simp[e1];refine hrun.mono ?_;rintro v h'' ⟨rfl,rfl⟩;simp[af];intro _;simp[i1,i2,i3,i4,htl,hds',mZ];refine bL (BT l ds _ f g h'') _ ⟨0,rfl,by omega,Ext.new _ _,by simp,by simp,by simp,rfl,by simp,by simp,by simp,0,by omega,by simp,rfl⟩ ?_;rintro n ⟨T,⟨x,H⟩⟩ ⟨p,rfl,hp,hE,hn,hit,h0,h1,h7,h8,h26,v,hv,h9,hr⟩;simp at hE hn hit h0 h1 h7 h8 h26 h9;simp[h26,hit,qS];by_cases hpl:p<ds.length
  ·have hc2:ds[p]? =some ds[p]:=av hpl;have hdig:=hdd ds[p] (fy hpl);have hdr:=tJ hc2;rw[hdr,tY]at hr;obtain⟨d,hd2⟩:∃d:Nat,d=ds[p].toNat-48:=⟨_,rfl⟩;obtain⟨q1,hq1⟩:∃q:Int,q=(v:Int)*10:=⟨_,rfl⟩;obtain⟨q2,hq2⟩:∃q:Int,q=(d:Int):=⟨_,rfl⟩;obtain⟨q3,hq3⟩:∃q:Int,q=q1+q2:=⟨_,rfl⟩;obtain⟨q4,hq4⟩:∃q:Int,q=if 2147483649<q3 then 2147483649 else q3:=⟨_,rfl⟩;have hq5:q4=(qB v d:Int):=(by rw[hq4,u7];split<;>split<;>omega);have w1:IntKind.wrap .i32 ((ds[p].toNat:Int)-48)=q2:=(by rw[JE (by omega)];omega);have w2:IntKind.wrap .i64 ((v:Int)*10)=q1:=(by rw[bK (by omega)];omega);have w3:IntKind.wrap .i64 q2=q2:=bK (by omega);have w4:IntKind.wrap .i64 (q1+q2)=q3:=(by rw[bK (by omega)];omega);simp only[hpl,if_true,GZ hc2 (by omega)];rw[←hd2]at hr;simp[h0,h1,h7,h8,h9,h26,w1,w2,w3,w4,←hq4];refine⟨ds.length-(p+1),by omega,p+1,rfl,by omega,hE.dh (a8 _) _,hn,by simp,by simp[h0],by simp[h1],by simp[h7],by simp[h8],by simp[h26],_,zw _ _,by simp[←hq5],hr⟩
  ·have hr0:kr 0 ds=v:=(by rw[w8 hpl,vH]at hr;exact hr.symm);simp[hpl,h0,h1,h7,h8,h9,h26];have e9:(v:Int)=nn:=(by rw[hnn,if_neg (by omega),hr0]);simp[e9];by_cases ht0:t=0
   ·have hg0:g=f:=(by omega);simp[hg0,jS,ht0,←e1];exact hE
   ·have hg0:¬g=f:=(by omega);simp[hg0];by_cases hn1:nn < -2147483648
    ·simp[hn1,jS,←e1];exact hE
    ·simp[hn1];by_cases hn2:2147483647<nn
     ·simp[hn2,jS,←e1];exact hE
     ·simp[hn2];have hV2:jS l k m t nn=⟨nn,k+m+t,match l[k+m+t]? with
        |some c=>decide (cK c.toNat≠4)&&decide (cK c.toNat≠6)
        |none=>true⟩:=by rw[jS,if_neg (by omega)]
      rw[hV2];by_cases hend:g=(l.length:Int)
      ·have hnone:l[k+m+t]? =none:=iK (by omega);simp[hend,hnone];exact⟨hE,by omega⟩
      ·have hlt:k+m+t<l.length:=(by omega);have hc3:l[k+m+t]? =some l[k+m+t]:=av hlt;simp[hend,i2,i4,hc3];refine(nD _ _).mono ?_;rintro v' h3 ⟨rfl,rfl⟩;simp[af];intro _;by_cases hk4:cK l[k+m+t].toNat=4
       ·have hk4':((cK l[k+m+t].toNat:Nat):Int)=4:=(by omega);simp[hk4',hk4];exact⟨hE,by omega⟩
       ·have hk4':¬((cK l[k+m+t].toNat:Nat):Int)=4:=(by omega);simp[hk4',hk4,i2,i4,hc3];refine(nD _ _).mono ?_;rintro v' h3 ⟨rfl,rfl⟩;simp[af];intro _;refine⟨hE,by omega,?_⟩;by_cases hk6:cK l[k+m+t].toNat=6
        ·simp[hk6]
        ·have:¬((cK l[k+m+t].toNat:Nat):Int)=6:=(by omega);simp[hk6,this]
structure bA where
 kind:Int
 n:Int
 line:Int
 ah:Int
 text:List UInt8
def cX (t:bA):List Value:=[.int .i64 t.kind,.int .i64 t.n,.int .i64 t.line,.int .i64 t.ah,.string (B t.text)]
def fe (t:bA):Value:=.agg ⟨cX t⟩
def dz (ln ah:Int):Value:=.agg #[.int .i64 ln,.int .i64 ah]
theorem YJ (p bs ba:Nat) (ln ah:Int) (a:Nat) (h:aa) {w1 w2:Bool} {e1 e2:TypeId} (hs:h.f bs= .row w1 e1 [.int .i64 ln,.int .i64 ah]) (ha:h.f ba= .row w2 e2 [.int .i64 a])
  (hp:p≤1073741824) (hc:0≤ah∧ah≤4294967296) (ha':a≤1073741824):
  ao PP 212 [.int .i64 p,.pointer (some ⟨bs,0,none⟩),.pointer (some ⟨ba,0,none⟩)] h (fun v h'=>h'=h∧v=dz ln (ah+p-a)):=by
 refine aC mix (aD Tryz.func212) rfl rfl rfl aep ?_;simp only[ai,Tryz.f212];have e1:IntKind.wrap .i64 (ah+p)=ah+p:=bK (by omega);have e2:IntKind.wrap .i64 (ah+p-a)=ah+p-a:=bK (by omega);simp[hs,ha,e1,e2];rfl
structure NX where
 tok:bA
 to:Nat
 ln:Int
 ah:Int
 code:Int
def kg:bA:=⟨0,0,0,0,[]⟩
def l9 (x:NX):Value:=.tuple #[fe x.tok,.int .i64 x.to,dz x.ln x.ah,.int .i64 x.code]
def jC (l:List UInt8) (to:Nat):Bool:=match l[to]? with|some d=>decide (cK d.toNat≠5)&&decide (cK d.toNat≠6)|none=>true
def im (l:List UInt8) (a k:Nat) (ln ah:Int):NX:=
 match l[k]? with
 |none=>⟨kg,k,ln,ah+k-a,4⟩
 |some c=>
  if cK c.toNat=3 then⟨⟨3,0,ln,ah+k-a,[]⟩,k+1,ln+1,1,0⟩
  else if cK c.toNat=4 then
   let to:=k+eL 4 (l.drop k)
   if jC l to=true then⟨⟨1,0,ln,ah+k-a,(l.take to).drop k⟩,to,ln,ah+to-a,0⟩
   else⟨kg,a,ln,ah+to-a,2⟩
  else if cK c.toNat=6∨cK c.toNat=5 then
   let u:=fY l k
   if u.ok=true then⟨⟨2,u.n,ln,ah+k-a,(l.take u.to).drop k⟩,u.to,ln,ah+u.to-a,0⟩
   else⟨kg,a,ln,ah+u.to-a,2⟩
  else⟨kg,a,ln,ah+k-a,2⟩
def bu (l:List UInt8) (a:Nat) (ln ah:Int):NX:=im l a (a+dE false (l.drop a)) ln ah
theorem PA:∀(b:Bool) (l:List UInt8),dE b l≤l.length:=by
 intro b l;induction l generalizing b with
 |nil=>cases b<;>simp[dE]
 |cons c r ih=>cases b<;>simp only[dE,eE]<;>(repeat' split)<;>first|omega|(have:=ih true;have:=ih false;omega)
theorem AH (l:List UInt8) (k:Nat) (hk:k≤l.length):(fY l k).to≤l.length:=by
 unfold fY jS;split
 ·exact hk
 ·rename_i h;have:=uq 5 (l.drop (k+fS l k));rw[eN]at this;have:iS l k=eL 5 (l.drop (k+fS l k)):=rfl;show k+fS l k+iS l k≤l.length;omega
theorem N6 (l:List UInt8) (k:Nat):k≤(fY l k).to:=by
 unfold fY jS;split
 ·exact a8 _
 ·show k≤k+fS l k+iS l k;omega
theorem AF (l:List UInt8) (a:Nat) (ln ah:Int) (hl:l.length≤1073741824) (ha:a≤l.length) (hln:0≤ln∧ln≤4294967296) (hcol:0≤ah∧ah≤2147483648) (h:aa):
  ao PP 156 [.string (B l),.int .i64 a,dz ln ah] h (fun v h'=>Ext h h'∧v=l9 (bu l a ln ah)):=by
 refine aC mix (aD Tryz.func156) rfl rfl rfl adw ?_;simp only[ai,Tryz.f156];have c1:¬(a:Int)<0:=by omega
 have c2:¬(l.length:Int)<(a:Int):=by omega
 simp[dz,c1,c2];obtain⟨G,hG⟩:∃G,G=((h.new (aZ.row true 3 [Value.int IntKind.i64 a])).new (aZ.row true 36 [Value.int IntKind.i64 ln,Value.int IntKind.i64 ah])):=⟨_,rfl⟩;have gE:Ext h G:=by rw[hG];exact(Ext.new _ _).bN _
 have gn:G.n=h.n+2:=by rw[hG];rfl
 have ga:G.f h.n= .row true 3 [.int .i64 a]:=by rw[hG];simp
 have gs:G.f (h.n+1)= .row true 36 [.int .i64 ln,.int .i64 ah]:=by rw[hG];simp
 rw[←hG];clear hG;obtain⟨k,hk⟩:∃k,k=a+dE false (l.drop a):=⟨_,rfl⟩;have hsk:=ajl l a hl G;rw[←hk]at hsk;have hkl:k≤l.length:=by have:=PA false (l.drop a);rw[eN]at this;omega
 have hX:bu l a ln ah=im l a k ln ah:=by rw[bu,←hk]
 rw[hX];refine hsk.mono ?_;rintro v h'' ⟨rfl,rfl⟩;have hhere:∀(H:aa) (p:Nat),H.f h.n= .row true 3 [.int .i64 a]→H.f (h.n+1)= .row true 36 [.int .i64 ln,.int .i64 ah]→p≤l.length→
   ao PP 212 [.int .i64 p,.pointer (some ⟨h.n+1,0,none⟩),.pointer (some ⟨h.n,0,none⟩)] H (fun v h'=>h'=H∧v= .agg #[.int .i64 ln,.int .i64 (ah+p-a)]):=
  fun H p h1 h2 hp=>YJ p (h.n+1) h.n ln ah a H h2 h1 (by omega) (by omega) (by omega)
 simp[af];intro _;by_cases hend:k=l.length
 ·subst hend;have hnone:l[l.length]? =none:=iK (by omega);simp;refine(hhere _ l.length ga gs (by omega)).mono ?_;rintro v h'' ⟨rfl,rfl⟩;simp[af];intro _;simp[im,hnone,l9,fe,cX,kg,dz];exact gE
 ·have hend':¬((k:Int)=(l.length:Int)):=by omega
  have hlt:k<l.length:=by omega
  have hc':l[k]? =some l[k]:=av hlt;simp[hend',gs];refine(hhere _ k ga gs (by omega)).mono ?_;rintro v h'' ⟨rfl,rfl⟩;simp[aJ,ga];intro _;simp[gs,hc'];refine(nD _ _).mono ?_;rintro v H ⟨rfl,rfl⟩;obtain⟨kk,hkk⟩:∃kk,kk=cK l[k].toNat:=⟨_,rfl⟩;rw[←hkk];have w1:IntKind.wrap .i64 (ln+1)=ln+1:=bK (by omega);have w2:IntKind.wrap .i64 ((k:Int)+1)=(k:Int)+1:=bK (by omega);simp[af];intro _;by_cases h3:kk=3
  ·simp[h3,gs,w1,w2];simp[im,jC,hc',←hkk,h3,l9,fe,cX,kg,dz];exact gE
  ·have h3':¬((kk:Int)=3):=(by omega);simp[h3'];by_cases h4:kk=4
   ·simp[h4];obtain⟨to,hto⟩:∃to,to=k+eL 4 (l.drop k):=⟨_,rfl⟩;have hru:=yp l k 4 hl H;rw[←hto]at hru;have htl:to≤l.length:=(by have:=uq 4 (l.drop k);rw[eN]at this;omega);refine hru.mono ?_;rintro v H ⟨rfl,rfl⟩;simp[af];intro _;have hkto:k≤to:=(by omega);by_cases he:to=l.length
    ·subst he;have hnone:l[l.length]? =none:=iK (by omega);simp;simp[hkl];refine(hhere _ l.length ga gs (a8 _)).mono ?_;rintro v H2 ⟨rfl,rfl⟩;simp[aJ,ga];intro _;simp[im,jC,hc',←hkk,h4,←hto,hnone,l9,fe,cX,kg,dz];exact gE
    ·have he':¬((to:Int)=(l.length:Int)):=(by omega);have hlt2:to<l.length:=(by omega);have hc2:l[to]? =some l[to]:=av hlt2;simp[he',hc2];refine(nD _ _).mono ?_;rintro v H ⟨rfl,rfl⟩;simp[af];intro _;by_cases g5:cK l[to].toNat=5
     ·simp[g5];simp[ga];refine(hhere _ to ga gs htl).mono ?_;rintro v H2 ⟨rfl,rfl⟩;simp[aJ,ga];intro _;simp[im,jC,hc',←hkk,h4,←hto,hc2,g5,l9,fe,cX,kg,dz];exact gE
     ·have g5':¬((cK l[to].toNat:Nat):Int)=5:=(by omega);simp[g5',hc2];refine(nD _ _).mono ?_;rintro v H ⟨rfl,rfl⟩;simp[af];intro _;by_cases g6:cK l[to].toNat=6
      ·simp[g6];simp[ga];refine(hhere _ to ga gs htl).mono ?_;rintro v H2 ⟨rfl,rfl⟩;simp[aJ,ga];intro _;simp[im,jC,hc',←hkk,h4,←hto,hc2,g5,g6,l9,fe,cX,kg,dz];exact gE
      ·have g6':¬((cK l[to].toNat:Nat):Int)=6:=(by omega);simp[g6'];simp[hkto,htl];refine(hhere _ to ga gs htl).mono ?_;rintro v H2 ⟨rfl,rfl⟩;simp[aJ,ga];intro _;simp[im,jC,hc',←hkk,h4,←hto,hc2,g5,g6,l9,fe,cX,kg,dz];exact gE
   ·have h4':¬((kk:Int)=4):=(by omega);simp[h4'];by_cases h56:kk=6∨kk=5
    ·have hnum:=abp l k hlt hl H;obtain⟨to,hto⟩:∃to,to=(fY l k).to:=⟨_,rfl⟩;obtain⟨nn,hnn⟩:∃nn,nn=(fY l k).n:=⟨_,rfl⟩;obtain⟨gd,hgd⟩:∃gd,gd=(fY l k).ok:=⟨_,rfl⟩;rw[←hto,←hnn,←hgd]at hnum;have htl:to≤l.length:=(by rw[hto];exact AH l k hkl);have hkto:k≤to:=(by rw[hto];exact N6 l k);have hgo:∀v H2,(Ext H H2∧v=Value.tuple #[.int .i64 nn,.int .i64 to,.bool gd])→Ext h H2∧H2.f h.n= .row true 3 [.int .i64 a]∧H2.f (h.n+1)= .row true 36 [.int .i64 ln,.int .i64 ah]:=fun v H2 z=>⟨gE.trans z.1,by rw[z.1.f _ (by omega),ga],by rw[z.1.f _ (by omega),gs]⟩;rcases h56 with h6|h5
     ·simp[h6];refine hnum.mono ?_;rintro v H2 hh;obtain⟨gE,ga,gs⟩:=hgo v H2 hh;obtain⟨_,rfl⟩:=hh;simp[af];intro _;cases gd with
      |true=>
       simp;simp[hkto,htl];refine(hhere _ to ga gs htl).mono ?_;rintro v H2 ⟨rfl,rfl⟩;simp[aJ,ga];intro _;simp[im,jC,hc',←hkk,h6,←hto,←hnn,←hgd,l9,fe,cX,kg,dz];exact gE
      |false=>
       simp;simp[ga];refine(hhere _ to ga gs htl).mono ?_;rintro v H2 ⟨rfl,rfl⟩;simp[aJ,ga];intro _;simp[im,jC,hc',←hkk,h6,←hto,←hnn,←hgd,l9,fe,cX,kg,dz];exact gE
     ·simp[h5];refine hnum.mono ?_;rintro v H2 hh;obtain⟨gE,ga,gs⟩:=hgo v H2 hh;obtain⟨_,rfl⟩:=hh;simp[af];intro _;cases gd with
      |true=>
       simp;simp[hkto,htl];refine(hhere _ to ga gs htl).mono ?_;rintro v H2 ⟨rfl,rfl⟩;simp[aJ,ga];intro _;simp[im,jC,hc',←hkk,h5,←hto,←hnn,←hgd,l9,fe,cX,kg,dz];exact gE
      |false=>
       simp;simp[ga];refine(hhere _ to ga gs htl).mono ?_;rintro v H2 ⟨rfl,rfl⟩;simp[aJ,ga];intro _;simp[im,jC,hc',←hkk,h5,←hto,←hnn,←hgd,l9,fe,cX,kg,dz];exact gE
    ·have h6:¬((kk:Int)=6):=(by omega);have h5:¬((kk:Int)=5):=(by omega);simp[h6,h5];simp[ga];refine(hhere _ k ga gs hkl).mono ?_;rintro v H2 ⟨rfl,rfl⟩;simp[aJ,ga];intro _;simp[im,jC,hc',←hkk,h3,h4,(show¬kk=6 by omega),(show¬kk=5 by omega),l9,fe,cX,kg,dz];exact gE
theorem AD {l:List UInt8} {a:Nat} {ln ah:Int} (ha:a≤l.length) (hln:1≤ln∧ln≤1+a) (hcol:1≤ah∧ah≤1+a) (hc:(bu l a ln ah).code=0):
  a<(bu l a ln ah).to∧(bu l a ln ah).to≤l.length∧(1≤(bu l a ln ah).ln∧(bu l a ln ah).ln≤1+(bu l a ln ah).to)∧(1≤(bu l a ln ah).ah∧(bu l a ln ah).ah≤1+(bu l a ln ah).to):=by
 revert hc;unfold bu im;generalize hk:a+dE false (l.drop a)=k;have hak:a≤k:=by omega
 cases hg:l[k]? with
 |none=>simp
 |some c=>
  have hd:=tJ hg;have hkl:k<l.length:=by rw[cY]at hg;exact hg.1
  dsimp only;by_cases h3:cK c.toNat=3
  ·simp only[h3,if_true];intro _;omega
  ·by_cases h4:cK c.toNat=4
   ·have hr:eL 4 (l.drop k)≤l.length-k:=(by have:=uq 4 (l.drop k);rw[eN]at this;exact this);have hr2:1≤eL 4 (l.drop k):=(by rw[hd,eL,if_pos h4];omega);cases he:jC l (k+eL 4 (l.drop k))with
    |true=>simp only[h4,if_true,he];intro _;simp only[show¬(4=3) by omega,if_false];omega
    |false=>simp[h4]
   ·by_cases h5:cK c.toNat=6∨cK c.toNat=5
    ·cases hok:(fY l k).ok with
     |true=>
      have h1:=AH l k (by omega);have h2:k<(fY l k).to:=by
       revert hok;unfold fY jS;split
       ·simp
       ·intro _;show k<k+fS l k+iS l k;omega
      simp only[h3,h4,h5,if_false,if_true];intro _;omega
     |false=>simp[h3,h4,h5]
    ·simp[h3,h4,h5]
def rA (h0 h:aa) (v:Value) (ts:List bA):Prop:=∃ad,v= .slice ad ts.length ts.length∧((ad=none∧ts=[])∨∃b,ad=some ⟨b,0,none⟩∧h.f b= .row true 193 (ts.flatMap cX)∧h0.n≤b∧b<h.n)
theorem rA.ext {h0 h h':aa} {v:Value} {ts:List bA} (H:rA h0 h v ts) (e:Ext h h'):rA h0 h' v ts:=by
 obtain⟨ad,q,z⟩:=H;refine⟨ad,q,?_⟩;rcases z with z|⟨b,z1,z2,z3,z4⟩
 ·exact .inl z
 ·exact .inr ⟨b,z1,by rw[e.f b z4,z2],z3,de z4 e.n⟩
theorem yG (ts:List bA):(ts.flatMap cX).length=ts.length*5:=by
 induction ts with
 |nil=>rfl
 |cons t r ih=>simp[cX]at ih ⊢;omega
structure yN where
 ts:List bA
 ln:Int
 ah:Int
 code:Int
def eF (l:List UInt8):Nat→Nat→Int→Int→yN
 |0,_,ln,ah=>⟨[],ln,ah,0⟩
 |n+1,a,ln,ah=>
  let x:=bu l a ln ah
  if x.code=0 then let r:=eF l n x.to x.ln x.ah;⟨x.tok::r.ts,r.ln,r.ah,r.code⟩
  else if x.code=4 then⟨[],x.ln,x.ah,0⟩
  else⟨[],x.ln,x.ah,x.code⟩
theorem Ud (l:List UInt8):∀(n m a:Nat) (ln ah:Int),l.length<n+a→l.length<m+a→a≤l.length→(1≤ln∧ln≤1+a)→(1≤ah∧ah≤1+a)→eF l n a ln ah=eF l m a ln ah:=by
 intro n;induction n with
 |zero=>intro m a ln ah h1 h2 h3;omega
 |succ n ih=>
  intro m a ln ah h1 h2 h3 h4 h5;cases m with
  |zero=>omega
  |succ m=>
   rw[eF,eF];by_cases hc:(bu l a ln ah).code=0
   ·have hgo:=AD h3 h4 h5 hc;simp only[hc,if_true];rw[ih m _ _ _ (by omega) (by omega) hgo.2.1 hgo.2.2.1 hgo.2.2.2]
   ·simp only[hc,if_false]
def bT (l:List UInt8):yN:=eF l (l.length+1) 0 1 1
def Ru (l:List UInt8) (h:aa) (n:Nat) (σ:St):Prop:=∃(a:Nat) (ln ah:Int) (ts:List bA) (s:Value),n=l.length-a∧a≤l.length∧(1≤ln∧ln≤1+a)∧(1≤ah∧ah≤1+a)∧ts.length≤a∧
 σ.t.get 0=some (.string (B l))∧σ.t.get 5=some s∧σ.t.get 6=some (.int .i64 a)∧σ.t.get 7=some (.pointer (some ⟨7,0,some 0⟩))∧σ.t.get 3=some (.pointer (some ⟨3,0,some 0⟩))∧
 σ.m.x.look 7=some (36,[.int .i64 ln,.int .i64 ah])∧(∃c1 c2,σ.m.x.look 3=some (36,[c1,c2]))∧Ext h σ.m.h∧rA h σ.m.h s ts∧
 bT l=⟨ts++(eF l (l.length-a+1) a ln ah).ts,(eF l (l.length-a+1) a ln ah).ln,(eF l (l.length-a+1) a ln ah).ah,(eF l (l.length-a+1) a ln ah).code⟩
theorem zi (l:List UInt8) (hl:l.length≤1048576) (h:aa):ao PP 118 [.string (B l)] h (fun v h'=>Ext h h'∧∃s,rA h h' s (bT l).ts∧v= .tuple #[s,dz (bT l).ln (bT l).ah,.int .i64 (bT l).code]):=by
 refine aC mix (aD Tryz.func118) rfl rfl rfl ac1 ?_;simp only[ai,Tryz.f118];have c1:¬(1048576:Int)<(l.length:Int):=by omega
 simp[c1];refine bL (Ru l h) _ ⟨0,1,1,[],.slice none 0 0,rfl,by omega,by omega,by omega,by simp,by simp,by simp,by simp,by simp,by simp,by simp,⟨_,_,by simp;exact⟨rfl,rfl⟩⟩,Ext.bJ _,⟨none,rfl,.inl ⟨rfl,rfl⟩⟩,rfl⟩ ?_;rintro n ⟨T,⟨x,H⟩⟩ ⟨a,ln,ah,ts,s,rfl,ha,hln,hcol,hts,h0,h5,h6,h7,h3,hx7,⟨d1,d2,hx3⟩,hE,hO,hr⟩;simp at h0 h5 h6 h7 h3 hx7 hx3 hE hO;simp[h0,h5,h6,h7,h3,hx7,hx3];refine(AF l a ln ah (by omega) ha (by omega) (by omega) H).mono ?_;rintro v H2 ⟨hE2,rfl⟩;have hgo:=AD (l:=l) ha hln hcol;rw[show l.length-a+1=(l.length-a)+1 by rfl,eF]at hr;obtain⟨X,hX⟩:∃X,X=bu l a ln ah:=⟨_,rfl⟩;rw[←hX]at hgo hr ⊢;simp[af,l9,fe,cX,dz];intro _;obtain⟨ad,rfl,hO2⟩:=hO.ext hE2;have hE3:Ext h H2:=hE.trans hE2;simp[h0,h5,h6,h7,h3,hx7,hx3];by_cases hc0:X.code=0
 ·rw[if_pos hc0]at hr;obtain⟨g1,g2,g3,g4⟩:=hgo hc0;have hr5:List.range 5=[0,1,2,3,4]:=rfl;have hfu:l.length-a=(l.length-X.to+1)+(X.to-a-1):=by omega
  have hr6:∀L,bT l=L→True:=fun _ _=>trivial;dsimp only at hr;rw[Ud l (l.length-a) (l.length-X.to+1) X.to X.ln X.ah (by omega) (by omega) g2 g3 g4]at hr;rcases hO2 with⟨rfl,rfl⟩|⟨b,rfl,bI,bQ,hb3⟩
  ·simp[hc0,dq,dM,aP,dC,hr5];refine⟨l.length-X.to,by omega,X.to,X.ln,X.ah,[X.tok],_,rfl,g2,g3,g4,by simp;omega,by simp,by simp;rfl,by simp,by simp,by simp,by simp,⟨_,_,by simp;exact⟨rfl,rfl⟩⟩,(hE3.bN _).bN _,⟨_,rfl,.inr ⟨_,rfl,?_,?_,?_⟩⟩,?_⟩
   ·simp[cX]
   ·have:=hE3.n;omega
   ·simp
   ·rw[hr];simp
  ·have hb:¬b=H2.n:=(by omega);have hmx:(ts.length+1)*48≤140737488355328:=(by omega);obtain⟨cs,hcs⟩:∃cs,cs=ts.flatMap cX:=⟨_,rfl⟩;have hcl:cs.length=ts.length*5:=(by rw[hcs,yG]);rw[←hcs]at bI;simp[hc0,dq,dM,aP,dC,hb,bI,hcl,hmx,hr5];refine⟨l.length-X.to,by omega,X.to,X.ln,X.ah,ts++[X.tok],_,rfl,g2,g3,g4,by simp;omega,by simp,by simp;rfl,by simp,by simp,by simp,by simp,⟨_,_,by simp;exact⟨rfl,rfl⟩⟩,((hE3.bN _).dh bQ _).bN _,⟨_,by simp;rfl,.inr ⟨_,rfl,?_,?_,?_⟩⟩,?_⟩
   ·have:=bZ (l:=cs) (i:=ts.length*5) (by omega);simp[cX,this];rw[←hcs]at *
   ·have:=hE3.n;omega
   ·simp
   ·rw[hr];simp
 ·simp[hc0];rw[if_neg hc0]at hr;by_cases hc4:X.code=4
  ·simp[hc4];rw[if_pos hc4]at hr;rw[hr];exact⟨hE3,_,⟨ad,by simp,by simpa using hO2⟩,rfl,⟨rfl,rfl⟩,rfl⟩
  ·simp[hc4];rw[if_neg hc4]at hr;rw[hr];exact⟨hE3,_,⟨ad,by simp,by simpa using hO2⟩,rfl,⟨rfl,rfl⟩,rfl⟩
def fH (h:aa) (v:Value) (ts:List bA):Prop:=∃ad c,v= .slice ad ts.length c∧((ad=none∧ts=[]∧c=0)∨∃b off w cells rest,ad=some ⟨b,off,none⟩∧h.f b= .row w 193 cells∧cells.drop off=ts.flatMap cX++rest∧off≤cells.length∧b<h.n)
theorem rA.alC {h0 h:aa} {v:Value} {ts:List bA} (H:rA h0 h v ts):fH h v ts:=by
 obtain⟨ad,rfl,z⟩:=H;refine⟨ad,_,rfl,?_⟩;rcases z with⟨z1,z2⟩|⟨b,z1,z2,z3,z4⟩
 ·exact .inl ⟨z1,z2,by rw[z2];rfl⟩
 ·exact .inr ⟨b,0,true,_,[],z1,z2,by simp,by simp,z4⟩
theorem fH.ext {h h':aa} {v:Value} {ts:List bA} (H:fH h v ts) (e:Ext h h'):fH h' v ts:=by
 obtain⟨ad,c,q,z⟩:=H;refine⟨ad,c,q,?_⟩;rcases z with z|⟨b,off,w,cells,rest,z1,z2,z3,z4,z5⟩
 ·exact .inl z
 ·exact .inr ⟨b,off,w,cells,rest,z1,by rw[e.f b z5,z2],z3,z4,de z5 e.n⟩
theorem Jp (ts:List bA) (i:Nat):(ts.flatMap cX).drop (i*5)=(ts.drop i).flatMap cX:=by
 induction ts generalizing i with
 |nil=>simp
 |cons t r ih=>cases i with
  |zero=>simp
  |succ i=>
   rw[List.drop_succ_cons,←ih i,gF,List.drop_append]
   rw[List.drop_eq_nil_of_le (by simp[cX];omega)]
   simp[cX]
   congr 1
   omega
theorem fH.at {h:aa} {ad:Option Addr} {n c:Nat} {ts:List bA} (H:fH h (.slice ad n c) ts) {i:Nat} {t:bA} (hi:ts[i]? =some t):
  n=ts.length∧∃b off w cells rest,ad=some ⟨b,off,none⟩∧h.f b= .row w 193 cells∧cells.drop (off+i*5)=cX t++rest∧off+i*5+5≤cells.length∧b<h.n:=by
 obtain⟨ad',c',q,z⟩:=H;simp only[Value.slice.injEq]at q;obtain⟨rfl,rfl,rfl⟩:=q;have hlt:i<ts.length:=by rw[cY]at hi;exact hi.1
 refine⟨rfl,?_⟩;rcases z with⟨_,rfl,_⟩|⟨b,off,w,cells,rest,z1,z2,z3,z4,z5⟩
 ·simp at hlt
 ·have hd:ts.drop i=t::ts.drop (i+1):=by
   rw[cY]at hi;obtain⟨h1,h2⟩:=hi;rw[ie h1,h2]
  have e:cells.drop (off+i*5)=cX t++((ts.drop (i+1)).flatMap cX++rest):=by
   rw[←fx,z3,List.drop_append,Jp,hd,gF,yG,eD];rw[show i*5-ts.length*5=0 by omega];rfl
  refine⟨b,off,w,cells,_,z1,z2,e,?_,z5⟩
  have:=congrArg List.length e
  simp[cX]at this
  omega
theorem fH.sub {h:aa} {ad:Addr} {ts:List bA} {c i k c':Nat} (H:fH h (.slice (some ad) ts.length c) ts) (h1:i≤k) (h2:k≤ts.length):fH h (.slice (some ⟨ad.block,ad.off+i*5,ad.spot⟩) (k-i) c') ((ts.take k).drop i):=by
 obtain⟨ad',c',q,z⟩:=H;simp only[Value.slice.injEq]at q;obtain⟨rfl,_,rfl⟩:=q;rcases z with⟨z1,_⟩|⟨b,off,w,cells,rest,z1,z2,z3,z4,z5⟩
 ·simp at z1
 ·simp only[aw]at z1;subst z1;have hcl:cells.length=off+(ts.length*5+rest.length):=by
   have:=congrArg List.length z3;rw[eN,bF,yG]at this;omega
  have e2:(ts.drop i).flatMap cX=((ts.take k).drop i).flatMap cX++(ts.drop k).flatMap cX:=by
   rw[←List.flatMap_append,List.drop_take];congr 1;rw[show ts.drop k=(ts.drop i).drop (k-i) by rw[fx];congr 1;omega,rI]
  refine⟨_,c',by rw[eN,cQ];congr 1;omega,.inr ⟨b,off+i*5,w,cells,(ts.drop k).flatMap cX++rest,rfl,z2,?_,?_,z5⟩⟩
  ·rw[←fx,z3,List.drop_append,Jp,yG,show i*5-ts.length*5=0 by omega,e2,eD];rfl
  ·omega
def iQ (ts:List bA):Nat:=(ts.takeWhile (fun t=>decide (t.kind≠3))).length
def yU (s:Value) (ts:List bA) (a:Nat) (h:aa) (n:Nat) (σ:St):Prop:=∃k:Nat,n=ts.length-k∧a≤k∧k≤ts.length∧σ.t.get 0=some s∧σ.t.get 1=some (.int .i64 a)∧σ.t.get 6=some (.int .i64 k)∧σ.m.h=h∧k+iQ (ts.drop k)=a+iQ (ts.drop a)
def SJ (h:aa) (ts:List bA) (a:Nat) (v:Value):Prop:=∃s',fH h s' ((ts.take (a+iQ (ts.drop a))).drop a)∧v= .tuple #[s',.int .i64 ((if a+iQ (ts.drop a)<ts.length then a+iQ (ts.drop a)+1 else ts.length:Nat):Int)]
theorem sg (s:Value) (ts:List bA) (a:Nat) (ha:a<ts.length) (hl:ts.length≤1073741824) (h:aa) (hs:fH h s ts):
  ao PP 158 [s,.int .i64 a] h (fun v h'=>h'=h∧SJ h ts a v):=by
 refine aC mix (aD Tryz.func158) rfl rfl rfl adz ?_;simp only[ai,Tryz.f158];obtain⟨s0,hs1⟩:∃s0,s0=s:=⟨_,rfl⟩;have hs0:=hs;obtain⟨ad,c,hse,hz⟩:=hs;obtain⟨ad,rfl⟩:∃x,ad=some x:=by
  rcases hz with⟨_,rfl,_⟩|⟨b,off,_,_,_,e,_⟩
  ·simp at ha
  ·exact⟨_,e⟩
 have hsz:∃w cells,h.f ad.block= .row w 193 cells∧ad.spot=none:=by
  rcases hz with⟨e,_⟩|⟨b,off,w,cells,rest,e,e2,_⟩
  ·simp at e
  ·simp only[aw]at e;subst e;exact⟨w,cells,e2,rfl⟩
 obtain⟨w0,cells0,hrow,hspot⟩:=hsz;obtain⟨blk,off0,sp⟩:=ad;simp only at hspot hrow;subst hspot;subst hse;have c1:¬(a:Int)<0:=by omega
 have c2:¬(ts.length:Int)<(a:Int):=by omega
 simp[c1,c2];refine bL (yU (.slice (some ⟨blk,off0,none⟩) ts.length c) ts a h) _ ⟨a,rfl,by omega,by omega,by simp,by simp,by simp,rfl,rfl⟩ ?_;rintro n ⟨T,⟨x,H⟩⟩ ⟨k,rfl,hak,hk,g0,g1,g6,rfl,hr⟩;simp at g0 g1 g6 hrow hs0;simp[g0,g1,g6];refine bY (fun hc=>?_) (fun hc=>?_)
 ·have hkl:k<ts.length:=by omega
  have ht:ts[k]? =some ts[k]:=av hkl;obtain⟨_,b,off,w,cells,rest,e1,e2,e3,e4,e5⟩:=hs0.at ht;simp only[aw,Addr.mk.injEq,and_true]at e1;obtain⟨rfl,rfl⟩:=e1;have hle:off0+k*5+1≤cells.length:=by omega
  have hdk:ts.drop k=ts[k]::ts.drop (k+1):=ie hkl;simp[g0,g1,g6,hkl,e2,e3,hle,cX];refine bY (fun hq=>?_) (fun hq=>?_)
  ·have hw:=bU (i:=k) (by omega);have hn0:iQ (ts.drop k)=0:=(by rw[hdk,iQ,List.takeWhile_cons];simp[hq]);have hr2:a+iQ (ts.drop a)=k:=(by omega);simp[g0,g1,g6,hw,e2,hak,hk];refine⟨_,?_,by rw[hr2,if_pos hkl];simp;rfl⟩;rw[hr2];exact hs0.sub hak hk
  ·have hw:=bU (i:=k) (by omega);have hn0:iQ (ts.drop k)=iQ (ts.drop (k+1))+1:=(by rw[hdk,iQ,List.takeWhile_cons];simp[hq,iQ]);simp[g0,g1,g6,hw];exact⟨ts.length-(k+1),by omega,k+1,rfl,by omega,by omega,by simp[g0],by simp[g1],by simp,rfl,by omega⟩
 ·have hke:k=ts.length:=by omega
  have hn0:iQ (ts.drop k)=0:=by rw[List.drop_eq_nil_of_le (by omega)];rfl
  have hr2:a+iQ (ts.drop a)=ts.length:=by omega
  have hal:a≤ts.length:=by omega
  simp[g0,g1,g6,hrow,hal];refine⟨_,?_,by rw[hr2,if_neg (by omega)]⟩;rw[hr2];exact hs0.sub hal (a8 _)
@[irreducible] def amV (n d:Nat):Nat:=if 1099511627776<n*10+d then 1099511627776 else n*10+d
@[irreducible] def amW (n d:Nat):Nat:=n*10+d
def wF (l:List UInt8) (a k:Nat) (z6 z8:List Value) (ln q:Int) (h:aa) (σ:St):Prop:=
 σ.m.h=h∧σ.t.get 0=some (.string (B l))∧σ.t.get 1=some (.int .i64 (a:Nat))∧σ.t.get 6=some (.pointer (some ⟨6,0,some 0⟩))∧σ.t.get 8=some (.pointer (some ⟨8,0,some 0⟩))∧σ.t.get 10=some (.int .i64 (k:Nat))∧
 σ.t.get 11=some (.pointer (some ⟨11,0,some 0⟩))∧σ.t.get 12=some (.pointer (some ⟨12,0,some 0⟩))∧σ.m.x.look 6=some (193,z6)∧σ.m.x.look 8=some (36,z8)∧σ.m.x.look 11=some (36,[.int .i64 ln,.int .i64 q])∧
 σ.m.x.look 12=some (193,[.int .i64 0,.int .i64 0,.int .i64 ln,.int .i64 q,.string (B [])])
def pieces:List (List UInt8):=[[115,101,97,116],[32],[53],[45,51],[10],[35,32,120,10],[119,104,101,101,108],[9],[50,49,52,55,52,56,51,54,52,55],[50,49,52,55,52,56,51,54,52,56],[45,50,49,52,55,52,56,51,54,52,56],[45,50,49,52,55,52,56,51,54,52,57],[45],[97,49],[49,97],[49,45],[59],[195,169],[103,97,112],[107,105,108,108],[112,111,108,101],[13],[35],[48],[99,111,109,112,97,110,105,111,110],[57,57,57,57,57,57,57,57,57,57,57,57,57,57,57,57,57,57,57,57],[65],[32,32],[49],[50]]
attribute [local simp] sd
attribute [local simp ↓ high] amn
theorem aa4 (l:List UInt8) (a:Nat) (ln ah:Int):(bu l a ln ah).code=0∨(bu l a ln ah).code=2∨(bu l a ln ah).code=4:=by
 unfold bu im;generalize a+dE false (l.drop a)=k;cases l[k]? with
 |none=>simp
 |some c=>
  dsimp only;(repeat' split)<;>simp
end Go.Proofs.Ybk.T
namespace Go.Proofs.Ybk.F
open Go Go.Am
set_option maxHeartbeats 2000000
theorem akh {σ:St} (d:Option Nat) (x:Operand) (ty yt:TypeId) (pos:String) (aft:Array Edge) (g:Option (Nat×Bool)) (hx:aL σ x=some .nilIface):
  di PP σ ⟨d,.binOp .eql 110 x (.const .nilIface) yt,ty,pos,aft,g⟩=some (.bool true,σ):=by
 refine qe (by simp[Op.operands,kl hx rfl];rfl) rfl ?_ rfl;have e1:eqGuard .eql 110 x (.const .nilIface) .nilIface .nilIface=pure ():=by unfold eqGuard;simp
 have e2:binOp .eql 110 .nilIface .nilIface=(do pure (.bool (←Op.equal 110 .nilIface .nilIface))):=rfl;have e3:(Op.equal 110 .nilIface .nilIface).aR PP=some true:=by
  have key:∀n,(Op.equalIn (n+1) 110 .nilIface .nilIface).aR PP=some true:=fun n=>by simp[Op.equalIn,cH,oV Bz,sR]
  exact key 9999
 have e4:kY σ (.const .nilIface)= .nilIface:=rfl;simp only[execOp,lz hx,e4,e1,e2,cH,sR,dZ,e3]
attribute [simp] akh
def nH (a:Int):Int:=if a<0 then 0 else a
def th (h:aa) (l:List FR) (v:Value) (h':aa):Prop:=Ext h h'∧eS h' h'.n v l
theorem sj (code line ah:Int) (h:aa):ao PP 120 [.int .i64 code,.int .i64 line,.int .i64 ah] h (th h (if code≤0 then[]else[⟨code,nH line,nH ah⟩])):=by
 refine aC mix (aD Tryz.func120) rfl rfl rfl ac3 ?_;simp only[ai,Tryz.f120];by_cases h1:code≤0
 ·simp -implicitDefEqProofs[h1];exact⟨Ext.bJ h,.nil⟩
 ·simp -implicitDefEqProofs[h1,pN];exact⟨Ext.new h _,.cons h.n ⟨code,nH line,nH ah⟩ .nilIface [] (by simp[nH]) (by simp) .nil⟩
theorem eS.shape {h:aa} {n:Nat} {E:Value} {l:List FR} (H:eS h n E l):(E= .nilIface∧l=[])∨∃b f E' r,E= .iface 207 (.pointer (some ⟨b,0,none⟩))∧l=f::r∧h.f b= .row true 223 [.int .i64 f.code,.int .i64 f.line,.int .i64 f.ah,E']∧b<n∧eS h n E' r:=by
 cases H with
 |nil=>exact .inl ⟨rfl,rfl⟩
 |cons b f E l h1 h2 h3=>exact .inr ⟨b,f,E,l,rfl,rfl,h1,h2,h3⟩
theorem amH (E:Value) (l:List FR) (code:Int) (h:aa) (H:eS h h.n E l):ao PP 157 [E,.int .i64 code] h (th h (if code≤0 then l else⟨code,0,0⟩::l)):=by
 refine aC mix (aD Tryz.func157) rfl rfl rfl ady ?_;simp only[ai,Tryz.f157];rcases H.shape with⟨rfl,rfl⟩|⟨b,f,E',r,rfl,rfl,h1,h2,h3⟩
 ·by_cases hc:code≤0
  ·simp -implicitDefEqProofs[hc];exact⟨Ext.bJ h,H⟩
  ·simp -implicitDefEqProofs[hc];refine(sj code 0 0 h).mono ?_;rintro v h' ⟨E,hv⟩;rw[if_neg hc]at hv;rcases hv.shape with⟨_,q⟩|⟨b,f,E',r,rfl,q,k1,k2,k3⟩
   ·cases q
   simp -implicitDefEqProofs[af];intro _;exact⟨E,hv⟩
 ·by_cases hc:code≤0
  ·simp -implicitDefEqProofs[hc];exact⟨Ext.bJ h,H⟩
  ·simp -implicitDefEqProofs[hc,pN];exact⟨Ext.new h _,.cons h.n ⟨code,0,0⟩ _ _ (by simp) (by simp) (H.ext (Ext.new h _) |>.up (by simp) (fun _ _=>rfl))⟩
def oU (b:Nat):List Value:=[.pointer (some ⟨b,0,none⟩)]
def yO (h:aa) (bs:List Nat) (l:List FR):Prop:=bs.length=l.length∧∀(j b:Nat) (f:FR),bs[j]? =some b→l[j]? =some f→b<h.n∧∃E,h.f b= .row true 223 [.int .i64 f.code,.int .i64 f.line,.int .i64 f.ah,E]
def Rk (h:aa) (l:List FR) (v:Value) (h':aa):Prop:=Ext h h'∧∃bs o,yO h bs l∧bM 207 oU h h' o bs v
def wD (h:aa) (l:List FR) (bf:Nat) (m:Nat) (σ:St):Prop:=∃(i:Nat) (E:Value) (bs:List Nat) (o:Option Nat) (v old:Value),m=l.length-i∧i≤l.length∧Ext h σ.m.h∧eS h h.n E (l.drop i)∧yO h bs (l.take i)∧bM 207 oU h σ.m.h o bs v∧o≠some bf∧bf<σ.m.h.n∧σ.m.h.f bf= .row true 207 [old]∧
 σ.t.get 0=some E∧σ.t.get 3=some v∧σ.t.get 4=some (.pointer (some ⟨bf,0,none⟩))
theorem zi (E:Value) (l:List FR) (hl:l.length≤1000) (h:aa) (G:cz h) (H:eS h h.n E l):ao PP 202 [E] h (Rk h l):=by
 refine aC mix (aD Tryz.func202) rfl rfl rfl aee ?_;simp only[ai,Tryz.f202];have hloc:cu E=true:=by rcases H.shape with⟨rfl,_⟩|⟨b,f,E',r,rfl,_⟩<;>rfl
 simp -implicitDefEqProofs;refine bL (wD h l h.n) l.length ⟨0,E,[],none,.slice none 0 0,.pointer none,rfl,by omega,Ext.new h _,H,⟨by simp,fun j b f hj=>by simp at hj⟩,bM.nil,by simp⟩ ?_;rintro m ⟨T,⟨x,H1⟩⟩ ⟨i,Ei,bs,o,v,old,rfl,hi,hE,hch,hB,hO,hob,hbf,hfb,g0,g3,g4⟩;simp at hE hO hbf hfb g0 g3 g4;obtain⟨rfl,ho⟩:=id hO;have hEi:cu Ei=true:=by rcases hch.shape with⟨rfl,_⟩|⟨b,f,E',r,rfl,_⟩<;>rfl
 have hG1:=G.ext hE;have hr1:List.range 1=[0]:=rfl;rcases hch.shape with⟨rfl,hd⟩|⟨b,f,E',r,rfl,hd,h1,h2,h3⟩
 ·have hie:i=l.length:=by have:=congrArg List.length hd;rw[eN]at this;simp at this;omega
  simp -implicitDefEqProofs[g0,g3,g4];refine(Cv _ H1 hG1).mono ?_;rintro r H2 ⟨e3,rfl⟩;replace e3:=e3.symm;subst e3;simp -implicitDefEqProofs[af,g0,g3,g4];intro _;rw[hie,kH]at hB;exact⟨hE,bs,o,hB,hO⟩
 ·simp -implicitDefEqProofs[g0,g3,g4];refine(Cu b h.n old H1 hG1 hfb).mono ?_;rintro r H2 ⟨rfl,e3⟩;have hbn:¬b=h.n:=by omega
  have bI:H1.f b= .row true 223 [.int .i64 f.code,.int .i64 f.line,.int .i64 f.ah,E']:=by rw[hE.f b h2];exact h1
  subst e3;have hil:i<l.length:=by
   rcases Nat.lt_or_ge i l.length with z|z
   ·exact z
   ·rw[List.drop_eq_nil_of_le z]at hd;cases hd
  have hti:l[i]? =some f:=by
   have:(l.drop i)[0]? =some f:=(by rw[hd];rfl);simpa using this
  have hdr:l.drop (i+1)=r:=by
   have:(l.drop i).drop 1=r:=(by rw[hd];rfl);rw[fx]at this;exact this
  have hBl:bs.length=i:=by have:=hB.1;rw[cQ]at this;omega
  have hB':yO h (bs++[b]) (l.take (i+1)):=by
   rw[fI,hti];refine⟨by simp[hB.1],fun j b' f' hj hf=>?_⟩;rcases Nat.lt_or_ge j i with z|z
   ·rw[jz (by omega)]at hj;rw[jz (by rw[cQ];omega)]at hf;exact hB.2 j b' f' hj hf
   ·rw[iW (by omega)]at hj;rw[iW (by rw[cQ];omega)]at hf;have e1:j-bs.length=0:=by
     rcases Nat.eq_zero_or_pos (j-bs.length)with q|q
     ·exact q
     ·rw[iK (by simp;omega)]at hj;cases hj
    rw[e1]at hj;have e2:j-(l.take i).length=0:=(by rw[cQ];omega);rw[e2]at hf;simp at hj hf;subst hj;subst hf;exact⟨h2,E',h1⟩
  have hE2:∀c,Ext h (H1.set h.n c):=fun c=>hE.dh (a8 _) c;have hnH:=hE.n;have b1:¬b=H1.n:=by omega
  have b2:¬b=H1.n+1:=by omega
  have f1:¬h.n=H1.n:=by omega
  have f2:¬h.n=H1.n+1:=by omega
  have f3:¬H1.n+1=h.n:=by omega
  have hE'loc:cu E'=true:=by rcases h3.shape with⟨rfl,_⟩|⟨b,f,E',r,rfl,_⟩<;>rfl
  have nxt:∀σ2:St,Ext h σ2.m.h→∀o',bM 207 oU h σ2.m.h (some o') (bs++[b]) (.slice (some ⟨o',0,none⟩) (i+1) (i+1))→o'≠h.n→h.n<σ2.m.h.n→σ2.m.h.f h.n= .row true 207 [.pointer (some ⟨b,0,none⟩)]→
    σ2.t.get 0=some E'→σ2.t.get 3=some (.slice (some ⟨o',0,none⟩) (i+1) (i+1))→σ2.t.get 4=some (.pointer (some ⟨h.n,0,none⟩))→∃j,j<l.length-i∧wD h l h.n j σ2:=by
   intro σ2 x1 o' x2 x3 x4 x5 x6 x7 x8;exact⟨l.length-(i+1),by omega,i+1,E',bs++[b],some o',_,_,rfl,by omega,x1,by rw[hdr];exact h3,hB',x2,by simpa using x3,x4,x5,x6,x7,x8⟩
  cases o with
  |none=>
   simp only at ho;subst ho;have hi0:i=0:=(by simpa using hBl.symm);subst hi0;simp -implicitDefEqProofs[af,g0,g3,g4,aP,hr1,dq,dM,dC,hbn,bI,b1,b2,f1,f2,f3];intro _;refine nxt _ ?_ (H1.n+1) ⟨by simp,?_,?_,?_⟩ (by omega) ?_ ?_ (by simp) (by simp) (by simp)
   ·exact((hE2 _).bN _).bN _
   ·simp[oU]
   ·omega
   ·simp
   ·simp;omega
   ·simp[f1,f2]
  |some bo=>
   simp only at ho;obtain⟨ho1,ho2,ho3⟩:=ho;have hbo:¬bo=h.n:=fun q=>hob (by rw[q]);have o1:¬bo=H1.n:=(by omega);have o2:¬h.n=bo:=fun q=>hbo q.symm;have o3:¬b=bo:=(by omega);obtain⟨F,hF⟩:∃F,F=bs.flatMap oU:=⟨_,rfl⟩;have hFl:F.length=i:=(by have:=fg 1 (enc:=oU) (fun _=>rfl) bs;rw[←hF]at this;omega);rw[←hF]at ho1;have e8:F.take i=F:=bZ (by omega);have hmx:(i+1)*8≤140737488355328:=(by omega);rw[hBl]at g3;simp -implicitDefEqProofs[af,g0,g3,g4,aP,hr1,dq,dM,dC,hbn,bI,b1,b2,f1,f2,f3,hbo,o1,o2,o3,ho1,hFl,e8,hmx];intro _;refine nxt _ ?_ (H1.n+1) ⟨by simp[hBl],?_,?_,?_⟩ (by omega) ?_ ?_ (by simp) (by simp) (by simp)
   ·exact((((hE2 _).bN _).dh ho2 _).bN _)
   ·simp[oU,hF]
   ·omega
   ·simp
   ·simp;omega
   ·simp[f1,f2,o2]
end Go.Proofs.Ybk.F
namespace Go.Proofs.Ybk.F
open Go Go.Am
set_option maxHeartbeats 4000000
def amX:List FR→Int
 |[]=>0
 |f::_=>f.code
def xm (f:FR):Bool:= !decide (f.line=0) || !decide (f.ah=0)
def nR:List FR→Int×Int
 |[]=>(0,0)
 |f::r=>if xm f then(f.line,f.ah)else nR r
def yU (h H:aa) (sv:Value) (l:List FR) (m:Nat) (σ:St):Prop:=∃i:Nat,m=l.length-i∧i≤l.length∧σ.m.h=H∧nR l=nR (l.drop i)∧σ.t.get 2=some (.pointer (some ⟨2,0,some 0⟩))∧σ.t.get 6=some sv∧σ.t.get 7=some (.int .i64 (l.length:Nat))∧σ.t.get 8=some (.int .i64 (i:Nat))∧σ.m.x.look 2=some (36,[.int .i64 0,.int .i64 0])
theorem oX (E:Value) (l:List FR) (hl:l.length≤1000) (h:aa) (G:cz h) (H:eS h h.n E l):ao PP 149 [E] h (fun v h'=>Ext h h'∧v= .agg ⟨[.int .i64 (nR l).1,.int .i64 (nR l).2]⟩):=by
 refine aC mix (aD Tryz.func149) rfl rfl rfl adh ?_;simp only[ai,Tryz.f149];have hEi:cu E=true:=by rcases H.shape with⟨rfl,_⟩|⟨b,f,E',r,rfl,_⟩<;>rfl
 have hcall:=zi E l hl h G H;have hE2:=hEi;simp only[cu,iY,Option.isNone_iff_eq_none]at hE2;simp -implicitDefEqProofs[hE2];refine hcall.mono ?_;rintro v h' ⟨X,bs,o,hB,hO⟩;obtain⟨rfl,ho⟩:=id hO;have hbl:=hB.1;obtain⟨n,hn⟩:∃n,n=l.length:=⟨_,rfl⟩;rw[←hn]at hbl hl;rw[hbl];simp -implicitDefEqProofs[af];intro _;refine bL (yU h h' (.slice (o.map fun b=>⟨b,0,none⟩) n n) l) n ⟨0,by omega,by omega,rfl,rfl,by simp[hn]⟩ ?_;rintro m ⟨T,⟨x,H1⟩⟩ ⟨i,rfl,hi,rfl,hsp,g2,g6,g7,g8,x2⟩;simp at g2 g6 g7 g8 x2;rw[←hn]at g7 hi;simp -implicitDefEqProofs[g2,g6,g7,g8,x2];refine bY (fun hc=>?_) (fun hc=>?_)
 ·have hin:i<n:=by omega
  obtain⟨bo,rfl⟩:∃bo,o=some bo:=by
   cases o with
   |none=>simp only at ho;rw[ho]at hbl;simp at hbl;omega
   |some b=>exact⟨b,rfl⟩
  simp only at ho;obtain⟨ho1,ho2,ho3⟩:=ho;have hbi:bs[i]? =some bs[i]:=av (by omega);have hli:l[i]? =some l[i]:=av (by omega);obtain⟨hbn,E',hrow⟩:=hB.2 i _ _ hbi hli;obtain⟨b,hb⟩:∃b,b=bs[i]:=⟨_,rfl⟩;obtain⟨f,hf⟩:∃f,f=l[i]:=⟨_,rfl⟩;rw[←hb]at hbn hrow hbi;rw[←hf]at hrow hli;have hrow':H1.f b= .row true 223 [.int .i64 f.code,.int .i64 f.line,.int .i64 f.ah,E']:=by rw[X.f b hbn];exact hrow
  obtain⟨F,hF⟩:∃F,F=bs.flatMap oU:=⟨_,rfl⟩;have hFl:F.length=n:=by have:=fg 1 (enc:=oU) (fun _=>rfl) bs;rw[←hF]at this;omega
  have hFd:(F.drop i).take 1=[.pointer (some ⟨b,0,none⟩)]:=by
   have h1:=qH 1 (enc:=oU) (fun _=>rfl) bs i;rw[Nat.mul_one]at h1;rw[hF,h1,ie (by omega),←hb];rfl
  rw[←hF]at ho1;have fQ:i+1≤n:=by omega
  have w1:=bU (i:=i) (by omega);have hdl:l.drop i=f::l.drop (i+1):=by rw[ie (by omega),←hf]
  simp -implicitDefEqProofs[g2,g6,g7,g8,x2,hin,ho1,hFl,hFd,fQ,hrow'];cases hs:xm f with
  |true=>
   have hsv:nR l=(f.line,f.ah):=(by rw[hsp,hdl];simp[nR,hs]);have hs':(!decide (f.line=0) || !decide (f.ah=0))=true:=hs;rw[hs'];simp -implicitDefEqProofs[g2,g6,g7,g8,x2,hrow',hsv];exact X
  |false=>
   have hs':(!decide (f.line=0) || !decide (f.ah=0))=false:=hs;rw[hs'];simp -implicitDefEqProofs[g2,g6,g7,g8,x2,w1];exact⟨l.length-(i+1),by omega,i+1,rfl,by omega,rfl,by rw[hsp,hdl];simp[nR,hs],by simp[hn]⟩
 ·have hie:i=n:=by omega
  have hs0:nR l=(0,0):=by rw[hsp,hie,hn,List.drop_length];rfl
  simp -implicitDefEqProofs[g2,g6,g7,g8,x2,hs0];exact X
def WI:List UInt8:=[48,49,50,51,52,53,54,55,56,57]
theorem G9 (r:Nat) (hr:r<10):(WI.take (r+1)).drop r=[UInt8.ofNat (48+r)]:=by
 have:r=0∨r=1∨r=2∨r=3∨r=4∨r=5∨r=6∨r=7∨r=8∨r=9:=by omega
 rcases this with rfl|rfl|rfl|rfl|rfl|rfl|rfl|rfl|rfl|rfl<;>rfl
theorem vf {u:Nat} (h:u<10):Lib.decDigits u=[UInt8.ofNat (48+u)]:=by rw[Lib.decDigits,dif_pos h]
theorem ve {u:Nat} (h:¬u<10):Lib.decDigits u=Lib.decDigits (u / 10)++[UInt8.ofNat (48+u % 10)]:=by rw[Lib.decDigits,dif_neg h]
theorem WG:∀(k u:Nat),1≤k→u<10 ^ k→(Lib.decDigits u).length≤k:=by
 intro k;induction k with
 |zero=>intro u h;omega
 |succ k ih=>
  intro u _ hu;by_cases h:u<10
  ·rw[vf h];simp
  ·rw[ve h,bF];have hk:1≤k:=by
    rcases Nat.eq_zero_or_pos k with z|z
    ·subst z;simp at hu;omega
    ·exact z
   have:=ih (u / 10) hk (by rw[Nat.pow_succ]at hu;omega);simp;omega
theorem tI {u:Nat} (h:u≤18446744073709551615):(Lib.decDigits u).length≤20:=WG 20 u (by omega) (by omega)
def yV (n0:Nat) (h:aa) (n:Nat) (σ:St):Prop:=∃s:List UInt8,n≤18446744073709551615∧σ.m.h=h∧Lib.decDigits n0=Lib.decDigits n++s∧σ.t.get 0=some (.int .u64 (n:Nat))∧σ.t.get 3=some (.string (B s))
theorem Hd (n:Nat) (hn:n≤18446744073709551615) (h:aa):ao PP 131 [.int .u64 (n:Nat)] h (fun v h'=>h'=h∧v= .string (B (Lib.decDigits n))):=by
 refine aC mix (aD Tryz.func131) rfl rfl rfl adb ?_;simp only[ai,Tryz.f131];simp -implicitDefEqProofs;refine bL (yV n h) n ⟨[],hn,rfl,by simp⟩ ?_;rintro m ⟨T,⟨x,H⟩⟩ ⟨s,hm,rfl,hd,g0,g3⟩;simp at g0 g3;simp -implicitDefEqProofs[g0,g3];refine bY (fun hc=>?_) (fun hc=>?_)
 ·have hm9:¬m<10:=by omega
  obtain⟨r,hr⟩:∃r,r=m % 10:=⟨_,rfl⟩;obtain⟨r1,hr1⟩:∃r1,r1=r+1:=⟨_,rfl⟩;obtain⟨q,hq⟩:∃q,q=m / 10:=⟨_,rfl⟩;have hr10:r<10:=by omega
  have e1:(m:Int).tmod 10=(r:Int):=by rw[Int.tmod_eq_emod_of_nonneg (by omega)];omega
  have e2:(m:Int).tdiv 10=(q:Int):=by rw[Int.tdiv_eq_ediv_of_nonneg (by omega)];omega
  have w0:IntKind.wrap .u64 (r:Int)=(r:Int):=jv (by omega);have w1:IntKind.wrap .u64 ((r:Int)+1)=(r1:Int):=by rw[jv (by omega)];omega
  have w2:IntKind.wrap .u64 (q:Int)=(q:Int):=jv (by omega);obtain⟨ch,hch⟩:∃ch,ch=UInt8.ofNat (48+r):=⟨_,rfl⟩;have d1:(([48,49,50,51,52,53,54,55,56,57]:List UInt8).take r1).drop r=[ch]:=by rw[hr1,hch];exact G9 r hr10
  have hsl:1+s.length≤9223372036854775807:=by have:=congrArg List.length hd;have h2:=tI hn;rw[bF]at this;omega
  have b1:r1≤10:=by omega
  have b2:r≤r1:=by omega
  simp -implicitDefEqProofs[g0,g3,e1,e2,w0,w1,w2,d1,b1,b2,hsl];refine⟨q,by omega,ch::s,by omega,rfl,?_,by simp⟩;rw[hd,ve hm9,←hq,←hr,←hch,eD];rfl
 ·have hm10:m<10:=by omega
  obtain⟨r1,hr1⟩:∃r1,r1=m+1:=⟨_,rfl⟩;have w1:IntKind.wrap .u64 ((m:Int)+1)=(r1:Int):=by rw[jv (by omega)];omega
  obtain⟨ch,hch⟩:∃ch,ch=UInt8.ofNat (48+m):=⟨_,rfl⟩;have d1:(([48,49,50,51,52,53,54,55,56,57]:List UInt8).take r1).drop m=[ch]:=by rw[hr1,hch];exact G9 m hm10
  have hsl:1+s.length≤9223372036854775807:=by have:=congrArg List.length hd;have h2:=tI hn;rw[bF]at this;omega
  have b1:r1≤10:=by omega
  have b2:m≤r1:=by omega
  have hres:Lib.decDigits n=ch::s:=by rw[hd,vf hm10,hch];rfl
  simp -implicitDefEqProofs[g0,g3,w1,d1,b1,b2,hres,hsl]
theorem oq (n:Int) (hn: -9223372036854775808≤n∧n≤9223372036854775807) (h:aa):ao PP 89 [.int .i64 n] h (fun v h'=>h'=h∧v= .string (B (Lib.itoa n))):=by
 refine aC mix (aD Tryz.func89) rfl rfl rfl af3 ?_;simp only[ai,Tryz.f89];by_cases h1:n<0
 ·obtain⟨u,hu⟩:∃u:Nat,u=n.natAbs:=⟨_,rfl⟩;have w1:IntKind.wrap .i64 (n+1)=n+1:=bK (by omega);have w2:IntKind.wrap .i64 (-(n+1))= -(n+1):=bK (by omega);have w2':IntKind.wrap .i64 (-1 + -n)= -1 + -n:=bK (by omega);have w3:IntKind.wrap .u64 (-(n+1))= -(n+1):=jv (by omega);have w3':IntKind.wrap .u64 (-1 + -n)= -1 + -n:=jv (by omega);have w4:IntKind.wrap .u64 (-(n+1)+1)=(u:Int):=by rw[jv (by omega)];omega
  have w4':IntKind.wrap .u64 (-1 + -n+1)=(u:Int):=by rw[jv (by omega)];omega
  have hres:Lib.itoa n=45::Lib.decDigits u:=by unfold Lib.itoa;rw[if_pos h1,hu]
  simp -implicitDefEqProofs[h1,w1,w2,w2',w3,w3',w4,w4'];have hlen:1+(Lib.decDigits u).length≤9223372036854775807:=by have:=tI (u:=u) (by omega);omega
  refine(Hd u (by omega) h).mono ?_;rintro v h' ⟨rfl,rfl⟩;simp -implicitDefEqProofs[af,hres,hlen]
 ·obtain⟨u,hu⟩:∃u:Nat,n=u:=⟨n.toNat,by omega⟩;have w3:IntKind.wrap .u64 n=(u:Int):=by rw[hu,jv (by omega)]
  have hres:Lib.itoa n=Lib.decDigits u:=by unfold Lib.itoa;rw[if_neg h1];congr 1;omega
  simp -implicitDefEqProofs[h1,w3];refine(Hd u (by omega) h).mono ?_;rintro v h' ⟨rfl,rfl⟩;simp -implicitDefEqProofs[af,hres]
end Go.Proofs.Ybk.F
namespace Go.Proofs.Ybk
open Go Go.Am
set_option maxHeartbeats 2000000
open T (bA cX fe dz)
open V (aq aU aj au bg ab aB)
open F (FR eS cz)
def mn:List UInt8:=[115,101,97,116]
def lN:List UInt8:=[119,104,101,101,108]
def lM:List UInt8:=[99,111,109,112,97,110,105,111,110]
def ft:List UInt8:=[103,97,112]
def fP:List UInt8:=[114,97,100,105,117,115]
def fj:List UInt8:=[107,105,108,108]
def gh:List UInt8:=[112,111,108,101]
def gS (w:List UInt8):Option (List Nat):=
 if w=mn∨w=lN∨w=lM then some [257,225,225]else if w=ft then some [173]else if w=fP then some [256]else if w=fj then some [257,225]else if w=gh then some [225,225,173]else none
def jP (f:Nat) (n:Int):Bool:=if f=257 then aB n 0 999 else if f=225 then aB n (-1048576) 1048576 else if f=173 then aB n 1 1048576 else decide (n=0) || aB n 1 1048576
def tL (f:Nat):List Value:=[.func (.func f) #[] #[]]
def l4 (ln ah:Int):List FR:=[⟨2,0,0⟩,⟨2,F.nH ln,F.nH ah⟩]
def wA (h:aa) (l:List FR) (v:Value) (h':aa):Prop:=Ext h h'∧eS h' h'.n v l
theorem mq (ln ah:Int) (h:aa):ao PP 119 [dz ln ah] h (wA h (l4 ln ah)):=by
 refine aC mix (aD Tryz.func119) rfl rfl rfl ac2 ?_;simp only[ai,Tryz.f119];simp -implicitDefEqProofs[dz];refine(F.sj 2 ln ah h).mono ?_;rintro v H1 ⟨E1,C1⟩;rw[if_neg (by decide)]at C1;rcases C1.shape with⟨_,q⟩|⟨b,f,E',r,rfl,q,k1,k2,k3⟩
 ·cases q
 simp -implicitDefEqProofs[af];intro _;refine(F.amH _ _ 2 H1 C1).mono ?_;rintro v H2 ⟨E2,C2⟩;rw[if_neg (by decide)]at C2;rcases C2.shape with⟨_,q⟩|⟨b,f,E',r,rfl,q,k1,k2,k3⟩
 ·cases q
 simp -implicitDefEqProofs[af];intro _;exact⟨E1.trans E2,C2⟩
theorem oX (t:bA) (h:aa):ao PP 159 [fe t] h (fun v h'=>h'=h∧v=dz t.line t.ah):=by
 refine aC mix (aD Tryz.func159) rfl rfl rfl adC ?_;simp only[ai,Tryz.f159];simp -implicitDefEqProofs[fe,cX,dz]
theorem XW (b:Nat) (f:FR) (E:Value) (h:aa) (hb:h.f b= .row true 223 [.int .i64 f.code,.int .i64 f.line,.int .i64 f.ah,E]):ao PP 148 [.pointer (some ⟨b,0,none⟩)] h (fun v h'=>h'=h∧v= .int .i64 f.code):=by
 refine aC mix (aD Tryz.func148) rfl rfl rfl adg ?_;simp only[ai,Tryz.f148];simp -implicitDefEqProofs[hb]
def qN (w:List UInt8):Int:=if w=lN then 1 else if w=lM then 2 else 0
theorem nD (w:List UInt8) (h:aa):ao PP 217 [.string (B w)] h (fun v h'=>h'=h∧v= .int .i64 (qN w)):=by
 refine aC mix (aD Tryz.func217) rfl rfl rfl aeu ?_;simp only[ai,Tryz.f217];unfold qN lN lM;by_cases h1:w=[119,104,101,101,108]
 ·simp -implicitDefEqProofs[h1]
 ·by_cases h2:w=[99,111,109,112,97,110,105,111,110]
  ·simp -implicitDefEqProofs[h2]
  ·simp -implicitDefEqProofs[h1,h2]
theorem ah2 (n:Int) (h:aa):ao PP 256 [.int .i64 n] h (fun v h'=>h'=h∧v= .bool (jP 256 n)):=by
 refine aC mix (aD Tryz.func256) rfl rfl rfl aeP ?_;simp only[ai,Tryz.f256];by_cases h1:n=0
 ·simp -implicitDefEqProofs[h1,jP]
 ·simp -implicitDefEqProofs[h1,jP];refine(V.yn n h).mono ?_;rintro r h' ⟨rfl,rfl⟩;simp -implicitDefEqProofs[af]
theorem mS (f:Nat) (hf:f=256∨f=173∨f=257∨f=225) (n:Int) (h:aa):ao PP f [.int .i64 n] h (fun v h'=>h'=h∧v= .bool (jP f n)):=by
 rcases hf with rfl|rfl|rfl|rfl
 ·exact ah2 n h
 ·exact V.yn n h
 ·exact V.Pg n h
 ·exact V.rS n h
def BQ (h:aa) (w:List UInt8) (v:Value) (h':aa):Prop:=Ext h h'∧match gS w with
 |some bs=>∃b,v= .tuple #[.slice (some ⟨b,0,none⟩) bs.length bs.length,.bool true]∧h'.f b= .row true 247 (bs.flatMap tL)∧b<h'.n
 |none=>v= .tuple #[.slice none 0 0,.bool false]
theorem UI (w:List UInt8) (h:aa):ao PP 216 [.string (B w)] h (BQ h w):=by
 refine aC mix (aD Tryz.func216) rfl rfl rfl aet ?_;simp only[ai,Tryz.f216];have hr3:List.range 3=[0,1,2]:=rfl;have hr2:List.range 2=[0,1]:=rfl;have hr1:List.range 1=[0]:=rfl;have out:∀(bs:List Nat),gS w=some bs→BQ h w (.tuple #[.slice (some ⟨h.n,0,none⟩) bs.length bs.length,.bool true]) (h.new (.row true 247 (bs.flatMap tL))):=fun bs e=>by
  refine⟨Ext.new h _,?_⟩;rw[e];exact⟨h.n,rfl,by simp⟩
 by_cases h1:w=[115,101,97,116]
 ·subst h1;simp -implicitDefEqProofs[aP,hr3];exact out [257,225,225] (by decide)
 by_cases h2:w=[119,104,101,101,108]
 ·subst h2;simp -implicitDefEqProofs[aP,hr3];exact out [257,225,225] (by decide)
 by_cases h3:w=[99,111,109,112,97,110,105,111,110]
 ·subst h3;simp -implicitDefEqProofs[aP,hr3];exact out [257,225,225] (by decide)
 by_cases h4:w=[103,97,112]
 ·subst h4;simp -implicitDefEqProofs[aP,hr1];exact out [173] (by decide)
 by_cases h5:w=[114,97,100,105,117,115]
 ·subst h5;simp -implicitDefEqProofs[aP,hr1];exact out [256] (by decide)
 by_cases h6:w=[107,105,108,108]
 ·subst h6;simp -implicitDefEqProofs[aP,hr2];exact out [257,225] (by decide)
 by_cases h7:w=[112,111,108,101]
 ·subst h7;simp -implicitDefEqProofs[aP,hr3];exact out [225,225,173] (by decide)
 ·simp -implicitDefEqProofs[h1,h2,h3,h4,h5,h6,h7];refine⟨Ext.bJ h,?_⟩;have e:gS w=none:=by simp only[gS,mn,lN,lM,ft,fP,fj,gh,h1,h2,h3,h4,h5,h6,h7,or_self,if_false]
  rw[e]
end Go.Proofs.Ybk
namespace Go.Proofs.Ybk
open Go Go.Am
set_option maxHeartbeats 4000000
open T (bA cX fe dz fH)
open V (aq aU aj au bg ab aB)
open F (FR eS cz)
def jq (bl bc:Int):List Nat→List bA→Option (Int×Int)
 |[],_=>none
 |_::_,[]=>some (bl,bc)
 |_::bs,t::r=>if t.kind=2 then jq bl bc bs r else some (t.line,t.ah)
def j6:List Nat→List bA→Option (Int×Int)
 |b::bs,t::r=>if jP b t.n then j6 bs r else some (t.line,t.ah)
 |_,_=>none
def l7 (bs:List Nat) (rest:List bA) (bl bc:Int):Option (Int×Int):=match jq bl bc bs rest with
 |some e=>some e
 |none=>match rest.drop bs.length with
  |t::_=>some (t.line,t.ah)
  |[]=>j6 bs rest
def jU (t:bA):Option (List Nat):=if t.kind=1 then gS t.text else none
def eU (ts:List bA) (bl bc:Int):Option (Int×Int):=match ts with
 |[]=>none
 |t0::rest=>match jU t0 with
  |none=>some (t0.line,t0.ah)
  |some bs=>l7 bs rest bl bc
theorem rf {cells rest:List Value} {p:Nat} {t:bA} (h:cells.drop p=cX t++rest):cells.drop p= .int .i64 t.kind:: .int .i64 t.n:: .int .i64 t.line:: .int .i64 t.ah:: .string (B t.text)::rest∧
  cells.drop (p+1)= .int .i64 t.n:: .int .i64 t.line:: .int .i64 t.ah:: .string (B t.text)::rest∧cells.drop (p+4)= .string (B t.text)::rest:=by
 refine⟨h,?_,?_⟩
 ·rw[←fx,h];rfl
 ·rw[←fx,h];rfl
theorem Cy {w:List UInt8} {bs:List Nat} (h:gS w=some bs):bs.length≤3∧1≤bs.length∧∀b∈bs,b=256∨b=173∨b=257∨b=225:=by
 unfold gS at h;repeat' split at h
 all_goals first
  |(simp only[aw]at h;subst h;decide)
  |cases h
theorem kM {h h':aa} {a b:Int} {E:Value} (H:wA h (l4 a b) E h'):∃b,E= .iface 207 (.pointer (some ⟨b,0,none⟩)):=by
 rcases H.2.shape with⟨_,q⟩|⟨b,f,E',r,rfl,q,_⟩
 ·cases q
 ·exact⟨b,rfl⟩
def Ce (h:aa) (ts:List bA) (bl bc:Int) (v:Value) (h':aa):Prop:=Ext h h'∧match eU ts bl bc with
 |some e=>∃E,v= .tuple #[.slice none 0 0,E]∧eS h' h'.n E (l4 e.1 e.2)
 |none=>∃s,v= .tuple #[s,.nilIface]∧cL 3 ab h h' s (ts.tail.map (·.n))
def BV (h:aa) (sv:Value) (bb:Nat) (bs:List Nat) (rest:List bA) (bl bc:Int) (m:Nat) (σ:St):Prop:=∃(k:Nat) (o:Option Nat) (v:Value),m=bs.length-k∧k≤bs.length∧k≤rest.length∧Ext h σ.m.h∧F.bM 3 ab h σ.m.h o ((rest.take k).map (·.n)) v∧
 jq bl bc bs rest=jq bl bc (bs.drop k) (rest.drop k)∧σ.t.get 0=some sv∧σ.t.get 3=some (.pointer (some ⟨3,0,some 0⟩))∧σ.t.get 6=some (.slice (some ⟨bb,0,none⟩) bs.length bs.length)∧σ.t.get 8=some v∧
 σ.t.get 35=some (.int .i64 (bs.length:Nat))∧σ.t.get 36=some (.int .i64 (k:Nat))∧σ.m.x.look 3=some (36,[.int .i64 bl,.int .i64 bc])
def Sq (H:aa) (sv ov bv:Value) (bs:List Nat) (rest:List bA) (n m:Nat) (σ:St):Prop:=∃j:Nat,m=n-j∧j≤n∧σ.m.h=H∧j6 bs rest=j6 (bs.drop j) (rest.drop j)∧
 σ.t.get 0=some sv∧σ.t.get 8=some ov∧σ.t.get 86=some bv∧σ.t.get 87=some (.int .i64 (n:Nat))∧σ.t.get 88=some (.int .i64 (j:Nat))
theorem abq (sv:Value) (t0:bA) (rest:List bA) (bl bc:Int) (hl:rest.length≤1073741824) (h:aa) (hs:fH h sv (t0::rest)):ao PP 160 [sv,dz bl bc] h (Ce h (t0::rest) bl bc):=by
 refine aC mix (aD Tryz.func160) rfl rfl rfl adE ?_;simp only[ai,Tryz.f160];obtain⟨ad,c,rfl,_⟩:=id hs;obtain⟨_,b,off,w,cells,r0,rfl,e2,e3,e4,e5⟩:=hs.at (i:=0) (t:=t0) rfl;simp only[Nat.zero_mul,gQ]at e3 e4;obtain⟨d0,d1,d4⟩:=rf e3;have hl0:off+1≤cells.length:=by omega
 have hl4:off+4+1≤cells.length:=by omega
 have hl5:off+5≤cells.length:=by omega
 simp -implicitDefEqProofs[e2,d0,d4,hl0,hl4,dz];refine(UI t0.text h).mono ?_;rintro v H1 ⟨E1,hB⟩;have e2':H1.f b= .row w 193 cells:=by rw[E1.f b e5,e2]
 have d5:(cells.drop off).take 5=cX t0:=by rw[d0];rfl
 have sp0:=oX t0 H1;simp only[fe,cX]at sp0;have fin:jU t0=none→∀E H2,wA H1 (l4 t0.line t0.ah) E H2→Ce h (t0::rest) bl bc (.tuple #[.slice none 0 0,E]) H2:=fun hw E H2 ⟨q1,q2⟩=>by
  refine⟨E1.trans q1,?_⟩;have hle:eU (t0::rest) bl bc=some (t0.line,t0.ah):=by simp only[eU,hw]
  rw[hle];exact⟨E,rfl,q2⟩
 cases hbn:gS t0.text with
 |none=>
  have hw:jU t0=none:=by unfold jU;rw[hbn];split<;>rfl
  rw[hbn]at hB;subst hB;by_cases hk:t0.kind=1;all_goals
   try rw[hk]at sp0
   simp -implicitDefEqProofs[af,e2',d0,hl0,hl5,hk]
   intro _
   refine sp0.mono ?_
   rintro r H2 ⟨e,rfl⟩
   replace e:=e.symm
   subst e
   simp -implicitDefEqProofs[af]
   intro _
   refine(mq t0.line t0.ah H1).mono ?_
   intro E H2 hE
   obtain⟨be,rfl⟩:=kM hE
   simp -implicitDefEqProofs[af]
   intro _
   exact fin hw _ H2 hE
 |some bs=>
  rw[hbn]at hB;obtain⟨bb,rfl,hbb,hbl⟩:=hB;by_cases hk:t0.kind=1;rotate_left
  ·have hw:jU t0=none:=(by unfold jU;rw[if_neg hk]);simp -implicitDefEqProofs[af,e2',d0,hl0,hl5,hk];intro _;refine sp0.mono ?_;rintro r H2 ⟨e,rfl⟩;replace e:=e.symm;subst e;simp -implicitDefEqProofs[af];intro _;refine(mq t0.line t0.ah H1).mono ?_;intro E H2 hE;obtain⟨be,rfl⟩:=kM hE;simp -implicitDefEqProofs[af];intro _;exact fin hw _ H2 hE
  ·have hw:jU t0=some bs:=(by unfold jU;rw[if_pos hk];exact hbn);simp -implicitDefEqProofs[af,e2',d0,hl0,hl5,hk];intro _;obtain⟨hb3,bI,hbf⟩:=Cy hbn;obtain⟨nb,hnb⟩:∃nb,nb=bs.length:=⟨_,rfl⟩;rw[←hnb]at hb3 bI;refine bL (BV H1 (.slice (some ⟨b,off,none⟩) (rest.length+1) c) bb bs rest bl bc) nb ⟨0,none,.slice none 0 0,by omega,by omega,by omega,Ext.bJ H1,F.bM.nil,rfl,by simp[hnb]⟩ ?_;rintro m ⟨T,⟨x,H⟩⟩ ⟨k,o,v,rfl,hk1,hk2,E2,hO,hch,g0,g3,g6,g8,g35,g36,x3⟩;simp at E2 g0 g3 g6 g8 g35 g36 x3;rw[←hnb]at hk1 g6 g35;obtain⟨rfl,ho⟩:=id hO;have hol:((rest.take k).map (·.n)).length=k:=(by rw[cN,cQ];omega);rw[hol]at g8 hO;have bQ:H.f bb= .row true 247 (bs.flatMap tL):=(by rw[E2.f bb hbl];exact hbb);have hsH:=(hs.ext E1).ext E2;simp -implicitDefEqProofs[g0,g3,g6,g8,g35,g36,x3];refine bY (fun hc=>?_) (fun hc=>?_)
   ·have w1:=bU (i:=k) (by omega);have hkb:k<bs.length:=(by omega);obtain⟨bx,br,hbd⟩:∃x r,bs.drop k=x::r:=⟨_,_,ie hkb⟩;by_cases hend:rest.length≤k
    ·have hke:k=rest.length:=(by omega);have hle:eU (t0::rest) bl bc=some (bl,bc):=by
      simp only[eU,hw,l7,hch];rw[hbd,hke,List.drop_length];rfl
     simp -implicitDefEqProofs[g0,g3,g6,g8,g35,g36,x3,w1,hend];refine(mq bl bc H).mono ?_;intro E H2 hE;obtain⟨be,rfl⟩:=kM hE;simp -implicitDefEqProofs[af];intro _;refine⟨(E1.trans E2).trans hE.1,?_⟩;rw[hle];exact⟨_,rfl,hE.2⟩
    ·have hkr:k<rest.length:=(by omega);obtain⟨t,ht⟩:∃t,t=rest[k]:=⟨_,rfl⟩;have hget:(t0::rest)[k+1]? =some t:=(by rw[List.getElem?_cons_succ,ht];exact av hkr);have hrd:rest.drop k=t::rest.drop (k+1):=(by rw[ht];exact ie hkr);obtain⟨_,b',off',w',cells',r',q1,q2,q3,q4,q5⟩:=hsH.at hget;simp only[aw,Addr.mk.injEq,and_true]at q1;obtain⟨rfl,rfl⟩:=q1;obtain⟨p0,p1,p4⟩:=rf q3;have p5:(cells'.drop (off+(k+1)*5)).take 5=cX t:=(by rw[q3];rfl);have k0:(0:Int)≤(k:Int)+1:=(by omega);have n0:off+(k+1)*5+1≤cells'.length:=(by omega);have n1:off+(k+1)*5+1+1≤cells'.length:=(by omega);have n5:off+(k+1)*5+5≤cells'.length:=(by omega);by_cases ht2:t.kind=2
     ·have hch2:jq bl bc bs rest=jq bl bc (bs.drop (k+1)) (rest.drop (k+1)):=by
       have hb1':bs.drop (k+1)=br:=(by rw[←fx,hbd];rfl);rw[hch,hbd,hrd,jq,if_pos ht2,hb1']
      have htk:(rest.take (k+1)).map (·.n)=(rest.take k).map (·.n)++[t.n]:=by
       rw[fI,av hkr,←ht];simp
      have hr1:List.range 1=[0]:=rfl
      have nxt:∀σ2:St,Ext H1 σ2.m.h→∀o',F.bM 3 ab H1 σ2.m.h (some o') ((rest.take (k+1)).map (·.n)) (.slice (some ⟨o',0,none⟩) (k+1) (k+1))→σ2.t.get 0=some (.slice (some ⟨b,off,none⟩) (rest.length+1) c)→
        σ2.t.get 3=some (.pointer (some ⟨3,0,some 0⟩))→σ2.t.get 6=some (.slice (some ⟨bb,0,none⟩) nb nb)→σ2.t.get 8=some (.slice (some ⟨o',0,none⟩) (k+1) (k+1))→σ2.t.get 35=some (.int .i64 (nb:Nat))→σ2.t.get 36=some (.int .i64 ((k+1:Nat):Int))→σ2.m.x.look 3=some (36,[.int .i64 bl,.int .i64 bc])→
        ∃j,j<bs.length-k∧BV H1 (.slice (some ⟨b,off,none⟩) (rest.length+1) c) bb bs rest bl bc j σ2:=by
       intro σ2 x1 o' x2 y0 y3 y6 y8 y35 y36 yx;exact⟨bs.length-(k+1),by omega,k+1,some o',_,rfl,by omega,by omega,x1,x2,hch2,y0,y3,by rw[y6,hnb],y8,by rw[y35,hnb],y36,yx⟩
      cases o with
      |none=>
       simp only at ho
       have hk0:k=0:=by have:=congrArg List.length ho;rw[hol]at this;exact this
       subst hk0
       have hre:rest≠[]:=by intro q;rw[q]at hkr;simp at hkr
       have hw1:IntKind.wrap .i64 1=1:=rfl
       have hr1':¬((rest.length:Int)+1≤1):=by omega
       have hr2':0<rest.length:=hkr
       have hr3':(1:Int)<(rest.length:Int)+1:=by omega
       simp only[jh,Nat.one_mul,gQ]at q3 p0 p1 n0 n1 n5
       simp -implicitDefEqProofs[hre,hw1,hr1',hr2',hr3',g0,g3,g6,g8,g35,g36,x3,w1,hend,hkr,k0,q2,p0,p1,n0,n1,ht2,aP,hr1,dq,dM,dC]
       refine nxt _ ?_ (H.n+1) ⟨by rw[htk];simp,?_,?_,?_⟩ (by simp) (by simp) (by simp) (by simp) (by simp) (by simp) (by simp)
       ·exact(Ext.bN E2 _).bN _
       ·rw[htk];simp[ab]
       ·have:=E2.n;omega
       ·simp
      |some bp=>
       simp only at ho
       obtain⟨hq1,hq2,hq3⟩:=ho
       obtain⟨K,hK⟩:∃K,K=((rest.take k).map (·.n)).flatMap ab:=⟨_,rfl⟩
       have hKl:K.length=k:=by have:=fg 1 (enc:=ab) (fun _=>rfl) ((rest.take k).map (·.n));rw[←hK,hol]at this;omega
       rw[←hK]at hq1
       have e8:K.take k=K:=bZ (by omega)
       have o1:¬bp=H.n:=by omega
       have hmx:(k+1)*8≤140737488355328:=by omega
       simp -implicitDefEqProofs[g0,g3,g6,g8,g35,g36,x3,w1,hend,hkr,k0,q2,p0,p1,n0,n1,ht2,aP,hr1,dq,dM,dC,hq1,hKl,e8,hmx,o1]
       refine nxt _ ?_ (H.n+1) ⟨by simp;omega,?_,?_,?_⟩ (by simp) (by simp) (by simp) (by simp) (by simp) (by simp) (by simp)
       ·exact((Ext.bN E2 _).dh hq2 _).bN _
       ·rw[htk,List.flatMap_append,←hK];simp[ab]
       ·have:=E2.n;omega
       ·simp
     ·have hle:eU (t0::rest) bl bc=some (t.line,t.ah):=by
       simp only[eU,hw,l7,hch];rw[hbd,hrd,jq,if_neg ht2]
      have spt:=oX t H
      simp only[fe,cX]at spt
      simp -implicitDefEqProofs[g0,g3,g6,g8,g35,g36,x3,w1,hend,hkr,k0,q2,p0,p1,n0,n1,n5,ht2]
      refine spt.mono ?_
      rintro r H2 ⟨e,rfl⟩
      replace e:=e.symm
      subst e
      simp -implicitDefEqProofs[af]
      intro _
      refine(mq t.line t.ah H).mono ?_
      intro E H2 hE
      obtain⟨be,rfl⟩:=kM hE
      simp -implicitDefEqProofs[af]
      intro _
      refine⟨(E1.trans E2).trans hE.1,?_⟩
      rw[hle]
      exact⟨_,rfl,hE.2⟩
   ·have hkn:k=nb:=(by omega);subst hkn;have hch0:jq bl bc bs rest=none:=(by rw[hch,List.drop_of_length_le (by omega)];rfl);by_cases hmore:k<rest.length
    ·obtain⟨t,ht⟩:∃t,t=rest[k]:=⟨_,rfl⟩;have hget:(t0::rest)[k+1]? =some t:=(by rw[List.getElem?_cons_succ,ht];exact av hmore);have hrd:rest.drop k=t::rest.drop (k+1):=(by rw[ht];exact ie hmore);obtain⟨_,b',off',w',cells',r',q1,q2,q3,q4,q5⟩:=hsH.at hget;simp only[aw,Addr.mk.injEq,and_true]at q1;obtain⟨rfl,rfl⟩:=q1;obtain⟨p0,p1,p4⟩:=rf q3;have w1:=bU (i:=k) (by omega);have k0:(0:Int)≤(k:Int)+1:=(by omega);have n5:off+(k+1)*5+5≤cells'.length:=(by omega);have hle:eU (t0::rest) bl bc=some (t.line,t.ah):=by
      simp only[eU,hw,l7,hch0];rw[←hnb,hrd]
     have spt:=oX t H;simp only[fe,cX]at spt;simp -implicitDefEqProofs[g0,g3,g6,g8,g35,g36,x3,w1,k0,hmore,q2,p0,n5];refine spt.mono ?_;rintro r H2 ⟨e,rfl⟩;replace e:=e.symm;subst e;simp -implicitDefEqProofs[af];intro _;refine(mq t.line t.ah H).mono ?_;intro E H2 hE;obtain⟨be,rfl⟩:=kM hE;simp -implicitDefEqProofs[af];intro _;refine⟨(E1.trans E2).trans hE.1,?_⟩;rw[hle];exact⟨_,rfl,hE.2⟩
    ·have hkl:k=rest.length:=(by omega);have w1:IntKind.wrap .i64 ((rest.length:Int)+1)=((rest.length+1:Nat):Int):=(by rw[bK (by omega)];omega);have hle0:eU (t0::rest) bl bc=j6 bs rest:=by
      simp only[eU,hw,l7,hch0];rw[←hnb,hkl,List.drop_length]
     obtain⟨bo,rfl⟩:∃bo,o=some bo:=by
      cases o with
      |none=>simp only at ho;rw[ho]at hol;simp at hol;omega
      |some b=>exact⟨b,rfl⟩
     simp only at ho;obtain⟨hq1,hq2,hq3⟩:=ho;rw[hkl,kH]at hq1 hO;rw[←hkl]at hO;simp -implicitDefEqProofs[g0,g3,g6,g8,g35,g36,x3,w1,hkl];refine bL (Sq H (.slice (some ⟨b,off,none⟩) (rest.length+1) c) (.slice (some ⟨bo,0,none⟩) rest.length rest.length) (.slice (some ⟨bb,0,none⟩) rest.length rest.length) bs rest rest.length) rest.length ⟨0,by omega,by omega,rfl,rfl,by simp⟩ ?_;clear g0 g3 g6 g8 g35 g36 x3;rintro m ⟨T,⟨x,H'⟩⟩ ⟨j,rfl,hj,rfl,hmay,g0,g8,g86,g87,g88⟩;simp at g0 g8 g86 g87 g88;simp -implicitDefEqProofs[g0,g8,g86,g87,g88];refine bY (fun hc2=>?_) (fun hc2=>?_)
     ·have hjr:j<rest.length:=(by omega);have hjb:j<bs.length:=(by omega);obtain⟨t,ht⟩:∃t,t=rest[j]:=⟨_,rfl⟩;obtain⟨f,hf⟩:∃f,f=bs[j]:=⟨_,rfl⟩;have hbd:bs.drop j=f::bs.drop (j+1):=(by rw[hf];exact ie hjb);have hrd:rest.drop j=t::rest.drop (j+1):=(by rw[ht];exact ie hjr);have hff:=hbf f (by rw[hf];exact fy hjb);obtain⟨F,hF⟩:∃F,F=bs.flatMap tL:=⟨_,rfl⟩;have hFl:F.length=bs.length:=(by have:=fg 1 (enc:=tL) (fun _=>rfl) bs;rw[←hF]at this;omega);have hFd:(F.drop j).take 1=[.func (.func f) #[] #[]]:=by
       have h1:=qH 1 (enc:=tL) (fun _=>rfl) bs j;rw[Nat.mul_one]at h1;rw[hF,h1,hbd];rfl
      rw[←hF]at bQ;obtain⟨K,hK⟩:∃K,K=(rest.map (·.n)).flatMap ab:=⟨_,rfl⟩;have hKl:K.length=rest.length:=(by have:=fg 1 (enc:=ab) (fun _=>rfl) (rest.map (·.n));rw[←hK,cN]at this;omega);have hKd:(K.drop j).take 1=[.int .i64 t.n]:=by
       have h1:=qH 1 (enc:=ab) (fun _=>rfl) (rest.map (·.n)) j;rw[Nat.mul_one]at h1;rw[hK,h1,←List.map_drop,hrd];rfl
      rw[←hK]at hq1;have bQ:H'.f bb= .row true 247 F:=bQ;have hq1:H'.f bo= .row true 3 K:=hq1;have hsH':fH H' (.slice (some ⟨b,off,none⟩) (rest.length+1) c) (t0::rest):=hsH;have j1:j+1≤F.length:=(by omega);have j2:j+1≤K.length:=(by omega);simp -implicitDefEqProofs[g0,g8,g86,g87,g88,hjr,bQ,hFd,j1,hq1,hKd,j2];refine(mS f hff t.n H').mono ?_;rintro r H2 ⟨e,rfl⟩;replace e:=e.symm;subst e;cases hmf:jP f t.n with
      |true=>
       have e4:=bU (i:=j) (by omega);simp -implicitDefEqProofs[af,g0,g8,g86,g87,g88,e4];intro _;exact⟨rest.length-(j+1),by omega,j+1,rfl,by omega,rfl,by rw[hmay,hbd,hrd,j6,if_pos hmf],by simp[g0,g8,g86,g87]⟩
      |false=>
       have hget:(t0::rest)[j+1]? =some t:=(by rw[List.getElem?_cons_succ,ht];exact av hjr);obtain⟨_,b',off',w',cells',r',q1,q2,q3,q4,q5⟩:=hsH'.at hget;simp only[aw,Addr.mk.injEq,and_true]at q1;obtain⟨rfl,rfl⟩:=q1;obtain⟨p0,p1,p4⟩:=rf q3;have wj:=bU (i:=j) (by omega);have k0:(0:Int)≤(j:Int)+1:=(by omega);have n5:off+(j+1)*5+5≤cells'.length:=(by omega);have hle:eU (t0::rest) bl bc=some (t.line,t.ah):=by
        rw[hle0,hmay,hbd,hrd,j6,hmf];rfl
       have spt:=oX t H';simp only[fe,cX]at spt;simp -implicitDefEqProofs[af,g0,g8,g86,g87,g88,wj,k0,hjr,q2,p0,n5];intro _;refine spt.mono ?_;rintro r H2 ⟨e,rfl⟩;replace e:=e.symm;subst e;simp -implicitDefEqProofs[af];intro _;refine(mq t.line t.ah H').mono ?_;intro E H2 hE;obtain⟨be,rfl⟩:=kM hE;simp -implicitDefEqProofs[af];intro _;refine⟨(E1.trans E2).trans hE.1,?_⟩;rw[hle];exact⟨_,rfl,hE.2⟩
     ·have hje:j=rest.length:=(by omega);have hnone:j6 bs rest=none:=(by rw[hmay,hje,List.drop_length];cases bs.drop rest.length<;>rfl);simp -implicitDefEqProofs[g0,g8,g86,g87,g88];refine⟨E1.trans E2,?_⟩;rw[hle0,hnone];exact⟨_,rfl,_,by rw[List.tail_cons,cN],.inr ⟨bo,rfl,hq1,eW E1.n hq2,hq3⟩⟩
end Go.Proofs.Ybk
namespace Go.Proofs.Ybk
open Go Go.Am
set_option maxHeartbeats 2000000
open T (bA cX fe dz fH)
open V (aq aU aj au bg ab aB)
open F (FR eS cz)
theorem gM:PP=Tryz.prog:=by unfold PP;rfl
def mP (row x:Int):Value:=.agg ⟨[.int .i64 row,.int .i64 x]⟩
def xc (s:aq) (i:Nat):MapEntry:=⟨mP s.row s.x,.int .i64 (i:Nat),i⟩
def qE:List aq→Nat→List MapEntry
 |[],_=>[]
 |s::r,i=>xc s i::qE r (i+1)
def oy (l:List aq):List MapEntry:=qE l 0
def mh (row x:Int):List aq→Nat→Option Nat
 |[],_=>none
 |s::r,i=>if s.row=row∧s.x=x then some i else mh row x r (i+1)
def j7 (l:List aq) (row x:Int):Option Nat:=mh row x l 0
theorem GJ (e:Bool) (a b:Int):(Instr.checkKey e 10000 228 (mP a b)).aR PP=some ():=by
 rw[gM];cases e<;>kernel_rfl
theorem XJ (a b c d:Int):(Op.equal 228 (mP a b) (mP c d)).aR PP=some (decide (a=c)&&decide (b=d)):=by
 have h:rV PP 228 [.int .i64 a,.int .i64 b] [.int .i64 c,.int .i64 d]=some (decide (a=c)&&decide (b=d)):=by
  simp[rV,mF,dm]
 exact(zJ h).2.1
theorem ahE {a b:Int} {l:List aq} {i k:Nat} (h:mh a b l i=some k):i≤k:=by
 induction l generalizing i with
 |nil=>cases h
 |cons s r ih=>
  simp only[mh]at h;split at h
  ·simp only[aw]at h;omega
  ·have:=ih h;omega
theorem Uu (a b:Int) (l:List aq) (i j:Nat):(Instr.findAsking 228 (mP a b) (qE l i) j).aR PP=some ((mh a b l i).map fun k=>(k-i+j,.int .i64 (k:Nat))):=by
 induction l generalizing i j with
 |nil=>rfl
 |cons s r ih=>
  simp only[qE,Instr.findAsking,cH,xc,XJ,dZ,mh];by_cases h1:s.row=a∧s.x=b
  ·have h2:(decide (a=s.row)&&decide (b=s.x))=true:=(by simp[h1.1,h1.2]);simp[h2,h1,sR]
  ·have h2:(decide (a=s.row)&&decide (b=s.x))=false:=by
    rw[←mz];intro q;simp at q;exact h1 ⟨q.1.symm,q.2.symm⟩
   rw[h2,if_neg h1]
   simp only[ff,if_false,ih]
   cases hp:mh a b r (i+1)with
   |none=>rfl
   |some k=>
    have:=ahE hp
    simp only[fJ,aw,bH,and_true]
    omega
theorem Ji (a b:Int) (l:List aq):(Instr.findKey 228 (mP a b) (oy l)).aR PP=some ((j7 l a b).map fun k=>(k,.int .i64 (k:Nat))):=by
 simp only[Instr.findKey,cH,oV BA,dZ];cases l with
 |nil=>rfl
 |cons s r=>
  have e:Instr.findNow (Go.TypeDesc.struct #[⟨ "row",3,0,false,"","parterre/parse",0⟩,⟨ "x",3,1,false,"","parterre/parse",8⟩]) (mP a b) (oy (s::r)) 0=none:=rfl;rw[e];have:=Uu a b (s::r) 0 0;simp only[Nat.sub_zero,gQ]at this;exact this
theorem Jk (a b:Int) (l:List aq):(pC 228 3 (mP a b) (oy l).toArray true).aR PP=some (.tuple #[.int .i64 (((j7 l a b).getD 0:Nat):Int),.bool (j7 l a b).isSome]):=by
 have hz:(zeroValue 3).aR PP=some (.int .i64 0):=by rw[gM];kernel_rfl
 simp only[pC,cH,GJ,dZ,Ji];cases hp:j7 l a b with
 |none=>
  show(zeroValue 3 >>= fun a=>pure (Value.tuple #[a,.bool false]):Sem Value).aR PP=_;rw[cH,hz];rfl
 |some k=>simp[cH,sR]
theorem amy (a b:Int) (l:List aq):(s8 228 (mP a b) (oy l).toArray).aR PP=some ((j7 l a b).map fun k=>(k,.int .i64 (k:Nat))):=by
 simp only[s8,cH,GJ,dZ,Ji]
theorem XD (l:List aq) (s:aq) (i:Nat):qE (l++[s]) i=qE l i++[xc s (i+l.length)]:=by
 induction l generalizing i with
 |nil=>rfl
 |cons a r ih=>simp only[dp,qE,ih,eE];rw[show i+1+r.length=i+(r.length+1) by omega]
theorem XH (l:List aq) (s:aq):oy (l++[s])=oy l++[xc s l.length]:=by
 have:=XD l s 0;rw[jh]at this;exact this
end Go.Proofs.Ybk
